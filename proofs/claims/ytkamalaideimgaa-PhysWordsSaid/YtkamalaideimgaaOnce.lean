import Derived.Test.YtkamalaideimgaaLives
import Derived.OpenShut
/- The walk of PhysOnce. -/
namespace Go.Proofs.Ytkamalaideimgaa
open Go.RowKit
set_option linter.unusedVariables false
attribute [local go_sem] szIs_lit row_at row_past row_alloc nf_alloc row_set nf_set row_cell nf_cell row_drew nf_drew row_drewN nf_drewN cell_setRow frozen_setRow nlt1 nlt2 nlt3 nlt4 nne1 nne2 nne3 nen1 nen2 nen3

def word (x : Int) : Prop := 0 ≤ x ∧ x ≤ 4294967295
theorem once_odd (x old : Int) (sl : Option Addr) (len cap : Nat) (w : World) (hr : (x.tmod 4 != 0) = true) : Calls Try.prog 3 #[.int .i64 x, .int .u32 old, .slice sl len cap] w fun e w' => e = .returned (.bool true) ∧ Below w.heap.size w w' := by
  have HN := Lib.hid (new_ok 4 (by decide) (by decide))
  have HL := Lib.hid lives_true
  have HS := Lib.hid (fun (g b : Nat) (w : World) (hg : Blk w g (memS b 1024)) (hb : Blk w b (bytes (fun _ => 0) 1024)) => store32_odd g w x old hr)
  have HC := Lib.hid (fun (g b : Nat) (w : World) (hg : Blk w g (memS b 1024)) (hb : Blk w b (bytes (fun _ => 0) 1024)) => cas_odd g b 1024 (fun _ => 0) w x old 1 hr)
  clear hr
  go_enter Try.func3, Try.ntmps3
  go_wp2_with fail
  refine (HL.out _).mono ?_; rintro e w1 ⟨rfl, bel1⟩
  have Hbel1 := Lib.hid bel1
  clear bel1
  go_wp2_with fail
  refine (HN.out _).mono ?_; rintro e w2 ⟨g, b, rfl, hg, hb, lg, lb, hne, bel⟩
  have hg2 := Lib.hid hg
  have hb2 := Lib.hid hb
  have Hbel := Lib.hid bel
  clear hg hb bel
  go_wp2_with fail
  refine (HS.out _ _ _ hg2.out hb2.out).mono ?_; rintro e w' ⟨rfl, rfl⟩
  go_wp2_with fail
  refine (HC.out _ _ _ hg2.out hb2.out).mono ?_; rintro e w' ⟨rfl, rfl⟩
  go_wp2
  go_ret
  exact ⟨by simp, Hbel1.out.trans (Hbel.out.mono Hbel1.out.size)⟩
theorem once_neg (x old : Int) (sl : Option Addr) (len cap : Nat) (w : World) (hr : (x.tmod 4 != 0) = false) (h2 : x < 0) : Calls Try.prog 3 #[.int .i64 x, .int .u32 old, .slice sl len cap] w fun e w' => e = .returned (.bool true) ∧ Below w.heap.size w w' := by
  have HN := Lib.hid (new_ok 4 (by decide) (by decide))
  have HL := Lib.hid lives_true
  have HS := Lib.hid (fun (g b : Nat) (w : World) (hg : Blk w g (memS b 1024)) (hb : Blk w b (bytes (fun _ => 0) 1024)) => store32_neg g b 1024 (fun _ => 0) w x old hg hb (by decide) hr h2)
  have HC := Lib.hid (fun (g b : Nat) (w : World) (hg : Blk w g (memS b 1024)) (hb : Blk w b (bytes (fun _ => 0) 1024)) => cas_neg g b 1024 (fun _ => 0) w x old 1 hg hb (by decide) hr h2)
  clear hr h2
  go_enter Try.func3, Try.ntmps3
  go_wp2_with fail
  refine (HL.out _).mono ?_; rintro e w1 ⟨rfl, bel1⟩
  have Hbel1 := Lib.hid bel1
  clear bel1
  go_wp2_with fail
  refine (HN.out _).mono ?_; rintro e w2 ⟨g, b, rfl, hg, hb, lg, lb, hne, bel⟩
  have hg2 := Lib.hid hg
  have hb2 := Lib.hid hb
  have Hbel := Lib.hid bel
  clear hg hb bel
  go_wp2_with fail
  refine (HS.out _ _ _ hg2.out hb2.out).mono ?_; rintro e w' ⟨rfl, rfl⟩
  go_wp2_with fail
  refine (HC.out _ _ _ hg2.out hb2.out).mono ?_; rintro e w' ⟨rfl, rfl⟩
  go_wp2
  go_ret
  exact ⟨by simp, Hbel1.out.trans (Hbel.out.mono Hbel1.out.size)⟩
theorem once_far (x old : Int) (sl : Option Addr) (len cap : Nat) (w : World) (hr : (x.tmod 4 != 0) = false) (h2 : 0 ≤ x) (h3 : (1024 : Nat) < x) : Calls Try.prog 3 #[.int .i64 x, .int .u32 old, .slice sl len cap] w fun e w' => e = .returned (.bool true) ∧ Below w.heap.size w w' := by
  have HN := Lib.hid (new_ok 4 (by decide) (by decide))
  have HL := Lib.hid lives_true
  have HS := Lib.hid (fun (g b : Nat) (w : World) (hg : Blk w g (memS b 1024)) (hb : Blk w b (bytes (fun _ => 0) 1024)) => store32_far g b 1024 (fun _ => 0) w x old hg hb (by decide) hr h2 h3)
  have HC := Lib.hid (fun (g b : Nat) (w : World) (hg : Blk w g (memS b 1024)) (hb : Blk w b (bytes (fun _ => 0) 1024)) => cas_far g b 1024 (fun _ => 0) w x old 1 hg hb (by decide) hr h2 h3)
  clear hr h2 h3
  go_enter Try.func3, Try.ntmps3
  go_wp2_with fail
  refine (HL.out _).mono ?_; rintro e w1 ⟨rfl, bel1⟩
  have Hbel1 := Lib.hid bel1
  clear bel1
  go_wp2_with fail
  refine (HN.out _).mono ?_; rintro e w2 ⟨g, b, rfl, hg, hb, lg, lb, hne, bel⟩
  have hg2 := Lib.hid hg
  have hb2 := Lib.hid hb
  have Hbel := Lib.hid bel
  clear hg hb bel
  go_wp2_with fail
  refine (HS.out _ _ _ hg2.out hb2.out).mono ?_; rintro e w' ⟨rfl, rfl⟩
  go_wp2_with fail
  refine (HC.out _ _ _ hg2.out hb2.out).mono ?_; rintro e w' ⟨rfl, rfl⟩
  go_wp2
  go_ret
  exact ⟨by simp, Hbel1.out.trans (Hbel.out.mono Hbel1.out.size)⟩
theorem once_end (x old : Int) (sl : Option Addr) (len cap : Nat) (w : World) (hr : (x.tmod 4 != 0) = false) (h2 : 0 ≤ x) (h3 : ¬ ((1024 : Nat) : Int) < x) (h4 : ((1024 : Nat) : Int) - x < 4) : Calls Try.prog 3 #[.int .i64 x, .int .u32 old, .slice sl len cap] w fun e w' => e = .returned (.bool true) ∧ Below w.heap.size w w' := by
  have HN := Lib.hid (new_ok 4 (by decide) (by decide))
  have HL := Lib.hid lives_true
  have HS := Lib.hid (fun (g b : Nat) (w : World) (hg : Blk w g (memS b 1024)) (hb : Blk w b (bytes (fun _ => 0) 1024)) => store32_end g b 1024 (fun _ => 0) w x old hg hb (by decide) hr h2 h3 h4)
  have HC := Lib.hid (fun (g b : Nat) (w : World) (hg : Blk w g (memS b 1024)) (hb : Blk w b (bytes (fun _ => 0) 1024)) => cas_end g b 1024 (fun _ => 0) w x old 1 hg hb (by decide) hr h2 h3 h4)
  clear hr h2 h3 h4
  go_enter Try.func3, Try.ntmps3
  go_wp2_with fail
  refine (HL.out _).mono ?_; rintro e w1 ⟨rfl, bel1⟩
  have Hbel1 := Lib.hid bel1
  clear bel1
  go_wp2_with fail
  refine (HN.out _).mono ?_; rintro e w2 ⟨g, b, rfl, hg, hb, lg, lb, hne, bel⟩
  have hg2 := Lib.hid hg
  have hb2 := Lib.hid hb
  have Hbel := Lib.hid bel
  clear hg hb bel
  go_wp2_with fail
  refine (HS.out _ _ _ hg2.out hb2.out).mono ?_; rintro e w' ⟨rfl, rfl⟩
  go_wp2_with fail
  refine (HC.out _ _ _ hg2.out hb2.out).mono ?_; rintro e w' ⟨rfl, rfl⟩
  go_wp2
  go_ret
  exact ⟨by simp, Hbel1.out.trans (Hbel.out.mono Hbel1.out.size)⟩
set_option maxHeartbeats 1000000 in
theorem once_ok (a : Nat) (old : Int) (sb off len cap : Nat) (zs : Nat → Int) (w : World) (ho : word old) (h0 : a % 4 = 0) (h2 : a + 4 ≤ 1024)
    (hz : ∀ i, i < len → w.cell? ⟨sb, off + i, none⟩ = some (.int .u32 (zs i)) ∧ word (zs i)) (hlen : len ≤ 9223372036854775807) (hsb : sb < w.heap.size) :
    Calls Try.prog 3 #[.int .i64 a, .int .u32 old, .slice (some ⟨sb, off, none⟩) len cap] w fun e w' => e = .returned (.bool true) ∧ Below w.heap.size w w' := by
  have HN := Lib.hid (new_ok 4 (by decide) (by decide))
  have HL := Lib.hid lives_true
  have HS := Lib.hid (fun (g b : Nat) (w : World) hg hb => store32_ok g b 1024 a (fun _ => 0) old w hg hb (by decide) ho.1 ho.2 h0 h2)
  have HCE := Lib.hid (fun (g b : Nat) (M : Nat → Int) (to : Int) (w : World) hg hb (hM : ∀ i, isByte (M i)) (ht : word to) (he : le32 M a = old) h1 h3 => cas_eq g b 1024 a M old to w hg hb (by decide) hM ht.1 ht.2 h0 h2 he h1 h3)
  have HCN := Lib.hid (fun (g b : Nat) (M : Nat → Int) (to : Int) (w : World) hg hb (hM : ∀ i, isByte (M i)) (he : (le32 M a == old) = false) => cas_ne g b 1024 a M old to w hg hb (by decide) hM h0 h2 he)
  have HLD := Lib.hid (fun (g b : Nat) (M : Nat → Int) (w : World) hg hb (hM : ∀ i, isByte (M i)) => load32_ok g b 1024 a M w hg hb (by decide) hM h0 h2)
  have HZ := Lib.hid hz
  have HLE := Lib.hid (fun (M : Nat → Int) (x : Int) (h : word x) => le32_st M a x h.1 h.2)
  have HBY := Lib.hid (fun (M : Nat → Int) (x : Int) h => st32_byte M a x 4 h)
  have Ho := Lib.hid ho
  clear hz ho
  go_enter Try.func3, Try.ntmps3
  go_wp2_with fail
  refine (HL.out _).mono ?_; rintro e w1 ⟨rfl, bel1⟩
  have Hbel1 := Lib.hid bel1
  clear bel1
  go_wp2_with fail
  refine (HN.out _).mono ?_; rintro e w2 ⟨g, b, rfl, hg, hb, lg, lb, hne, bel⟩
  have hg2 := Lib.hid hg
  have hb2 := Lib.hid hb
  have Hbel := Lib.hid bel
  clear hg hb bel
  go_wp2_with fail
  refine (HS.out _ _ _ hg2.out hb2.out).mono ?_; rintro e w3 ⟨rfl, hb, hon⟩
  have hb3 := Lib.hid hb
  have hg3 := Lib.hid (hg2.out.only hon hg2.out.lt hne)
  have z1 := Hbel1.out.size
  have z2 := Hbel.out.size
  have Hbel3 := Lib.hid (below_only (Hbel1.out.trans (Hbel.out.mono Hbel1.out.size)) hon (by omega) (by omega))
  clear hb hon
  have hle3 := Lib.hid (HLE.out (fun _ => 0) old Ho.out)
  have hlb : w.heap.size ≤ b := by omega
  clear z1 z2 lg lb
  go_wp2_with fail
  go_loopw [11, 12] (fun s11 s12 wr => ∃ (k : Nat) (M : Nat → Int), k ≤ len ∧ s12 = .int .i64 k ∧ s11 = .int .u32 (le32 M a) ∧ (∀ i, isByte (M i)) ∧ Blk wr g (memS b 1024) ∧ Blk wr b (bytes M 1024) ∧ Below w.heap.size w wr) (fun _ s _ => len - (intOf s).toNat)
  case atStart => exact ⟨0, st32 (fun _ => 0) a old 4, by omega, rfl, by rw [hle3.out], HBY.out _ _ (bytes_zero 0), hg3.out, hb3.out, Hbel3.out⟩
  case round =>
    obtain ⟨k, M, hk, rfl, rfl, hM, hgr, hbr, hbel⟩ := hrel
    have HM := Lib.hid hM
    have Hgr := Lib.hid hgr
    have Hbr := Lib.hid hbr
    have Hbl := Lib.hid hbel
    clear hM hgr hbr hbel
    by_cases hlt : k < len
    · obtain ⟨hzk, hzw⟩ := HZ.out k hlt
      have hc : wr.cell? ⟨sb, off + k, none⟩ = some (.int .u32 (zs k)) := (Hbl.out.cell (p := ⟨sb, off + k, none⟩) hsb).trans hzk
      have Hzw := Lib.hid hzw
      have hl0 : (0 : Int) ≤ (k : Int) := Int.natCast_nonneg _
      have hl1 : (k : Int) < (len : Int) := by omega
      clear hzk hzw
      by_cases he : le32 M a = old
      · have HE := HCE.out g b M (zs k) wr Hgr.out Hbr.out HM.out Hzw.out he Hgr.out.lt hne
        have HE' := Lib.hid HE
        have hle := Lib.hid (HLE.out M (zs k) Hzw.out)
        have hq : (old == old) = true := by simp
        rw [he]
        have he' := Lib.hid he
        clear HE he
        go_wp2_with fail
        refine HE'.out.mono ?_; rintro e w4 ⟨rfl, hb, hon⟩
        have hb4 := Lib.hid hb
        have hg4 := Lib.hid (Hgr.out.only hon Hgr.out.lt hne)
        have z := Hbl.out.size
        have hbel4 := Lib.hid (below_only Hbl.out hon hlb (by omega))
        have hc4 : w4.cell? ⟨sb, off + k, none⟩ = some (.int .u32 (zs k)) := (hbel4.out.cell (p := ⟨sb, off + k, none⟩) hsb).trans (HZ.out k hlt).1
        clear hb hon z hc
        go_wp2
        go_roundw
        case rel => exact ⟨k + 1, st32 M a (zs k) 4, by omega, by go_num, by rw [hle.out], HBY.out _ _ HM.out, hg4.out, hb4.out, hbel4.out⟩
        case measure => simp [intOf]; omega
      · have he2 : (le32 M a == old) = false := beq_eq_false_iff_ne.2 he
        have HE' := Lib.hid (HCN.out g b M (zs k) wr Hgr.out Hbr.out HM.out he2)
        clear he
        go_wp2_with fail
        refine HE'.out.mono ?_; rintro e w4 ⟨rfl, bel4⟩
        have hb4 := Lib.hid (Hbr.out.below bel4 Hbr.out.lt)
        have hg4 := Lib.hid (Hgr.out.below bel4 Hgr.out.lt)
        have hbel4 := Lib.hid (Hbl.out.trans (bel4.mono Hbl.out.size))
        clear bel4 hc
        go_wp2
        go_roundw
        case rel => exact ⟨k + 1, M, by omega, by go_num, rfl, HM.out, hg4.out, hb4.out, hbel4.out⟩
        case measure => simp [intOf]; omega
    · obtain rfl : k = len := by omega
      have HE' := Lib.hid (HLD.out g b M wr Hgr.out Hbr.out HM.out)
      go_wp2_with fail
      refine HE'.out.mono ?_; rintro e w4 ⟨rfl, bel4⟩
      go_wp2
      go_ret
      exact ⟨by simp, Hbl.out.trans (bel4.mono Hbl.out.size)⟩
set_option maxHeartbeats 1000000 in
theorem once_empty (a : Nat) (old : Int) (sl : Option Addr) (cap : Nat) (w : World) (ho : word old) (h0 : a % 4 = 0) (h2 : a + 4 ≤ 1024)
    :
    Calls Try.prog 3 #[.int .i64 a, .int .u32 old, .slice sl 0 cap] w fun e w' => e = .returned (.bool true) ∧ Below w.heap.size w w' := by
  have HN := Lib.hid (new_ok 4 (by decide) (by decide))
  have HL := Lib.hid lives_true
  have HS := Lib.hid (fun (g b : Nat) (w : World) hg hb => store32_ok g b 1024 a (fun _ => 0) old w hg hb (by decide) ho.1 ho.2 h0 h2)
  have HCE := Lib.hid (fun (g b : Nat) (M : Nat → Int) (to : Int) (w : World) hg hb (hM : ∀ i, isByte (M i)) (ht : word to) (he : le32 M a = old) h1 h3 => cas_eq g b 1024 a M old to w hg hb (by decide) hM ht.1 ht.2 h0 h2 he h1 h3)
  have HCN := Lib.hid (fun (g b : Nat) (M : Nat → Int) (to : Int) (w : World) hg hb (hM : ∀ i, isByte (M i)) (he : (le32 M a == old) = false) => cas_ne g b 1024 a M old to w hg hb (by decide) hM h0 h2 he)
  have HLD := Lib.hid (fun (g b : Nat) (M : Nat → Int) (w : World) hg hb (hM : ∀ i, isByte (M i)) => load32_ok g b 1024 a M w hg hb (by decide) hM h0 h2)
  have HLE := Lib.hid (fun (M : Nat → Int) (x : Int) (h : word x) => le32_st M a x h.1 h.2)
  have HBY := Lib.hid (fun (M : Nat → Int) (x : Int) h => st32_byte M a x 4 h)
  have Ho := Lib.hid ho
  clear ho
  go_enter Try.func3, Try.ntmps3
  go_wp2_with fail
  refine (HL.out _).mono ?_; rintro e w1 ⟨rfl, bel1⟩
  have Hbel1 := Lib.hid bel1
  clear bel1
  go_wp2_with fail
  refine (HN.out _).mono ?_; rintro e w2 ⟨g, b, rfl, hg, hb, lg, lb, hne, bel⟩
  have hg2 := Lib.hid hg
  have hb2 := Lib.hid hb
  have Hbel := Lib.hid bel
  clear hg hb bel
  go_wp2_with fail
  refine (HS.out _ _ _ hg2.out hb2.out).mono ?_; rintro e w3 ⟨rfl, hb, hon⟩
  have hb3 := Lib.hid hb
  have hg3 := Lib.hid (hg2.out.only hon hg2.out.lt hne)
  have z1 := Hbel1.out.size
  have z2 := Hbel.out.size
  have Hbel3 := Lib.hid (below_only (Hbel1.out.trans (Hbel.out.mono Hbel1.out.size)) hon (by omega) (by omega))
  clear hb hon
  have hle3 := Lib.hid (HLE.out (fun _ => 0) old Ho.out)
  have hlb : w.heap.size ≤ b := by omega
  clear z1 z2 lg lb
  go_wp2_with fail
  go_loopw [11, 12] (fun s11 s12 wr => ∃ (k : Nat) (M : Nat → Int), k ≤ 0 ∧ s12 = .int .i64 k ∧ s11 = .int .u32 (le32 M a) ∧ (∀ i, isByte (M i)) ∧ Blk wr g (memS b 1024) ∧ Blk wr b (bytes M 1024) ∧ Below w.heap.size w wr) (fun _ s _ => 0 - (intOf s).toNat)
  case atStart => exact ⟨0, st32 (fun _ => 0) a old 4, by omega, rfl, by rw [hle3.out], HBY.out _ _ (bytes_zero 0), hg3.out, hb3.out, Hbel3.out⟩
  case round =>
    obtain ⟨k, M, hk, rfl, rfl, hM, hgr, hbr, hbel⟩ := hrel
    have HM := Lib.hid hM
    have Hgr := Lib.hid hgr
    have Hbr := Lib.hid hbr
    have Hbl := Lib.hid hbel
    clear hM hgr hbr hbel
    by_cases hlt : k < 0
    · omega
    · obtain rfl : k = 0 := by omega
      have HE' := Lib.hid (HLD.out g b M wr Hgr.out Hbr.out HM.out)
      go_wp2_with fail
      refine HE'.out.mono ?_; rintro e w4 ⟨rfl, bel4⟩
      go_wp2
      go_ret
      exact ⟨by simp, Hbl.out.trans (bel4.mono Hbl.out.size)⟩
/-- A slice of whole numbers that came in. -/
def IsRow (k : IntKind) (w : World) (a : Option Addr) (len cap : Nat) (zs : List Int) : Prop :=
  (a = none ∧ len = 0 ∧ cap = 0 ∧ zs = []) ∨
  ∃ x, a = some x ∧ len ≤ cap ∧ cap ≤ maxLen ∧ zs.length = cap ∧ (∀ i, i < zs.length → w.cell? (x.add i) = some (.int k (zs.getD i 0))) ∧ ∀ n ∈ zs, (Lit.int k n).wf = true
theorem row_cases {k : IntKind} {w : World} {a : Option Addr} {len cap : Nat} {zs : List Int} (h : IsRow k w a len cap zs) :
    len = 0 ∨ ∃ b off, a = some ⟨b, off, none⟩ ∧ len ≤ 9223372036854775807 ∧ b < w.heap.size ∧ ∀ i, i < len → w.cell? ⟨b, off + i, none⟩ = some (.int k (zs.getD i 0)) ∧ (Lit.int k (zs.getD i 0)).wf = true := by
  rcases h with ⟨_, h, _, _⟩ | ⟨x, rfl, h1, h2, h3, h4, h5⟩
  · exact .inl h
  · by_cases hl : len = 0
    · exact .inl hl
    · right
      have c0 := h4 0 (by omega)
      have e0 : x.add 0 = x := rfl
      rw [e0] at c0
      have hsp : x.spot = none := by
        cases hs : x.spot with
        | none => rfl
        | some _ => unfold World.cell? at c0; simp [hs] at c0; split at c0 <;> cases c0
      obtain ⟨b, off, sp⟩ := x
      simp only at hsp
      subst hsp
      refine ⟨b, off, rfl, by unfold maxLen at h2; omega, World.block_lt_of_cell? w _ c0, fun i hi => ?_⟩
      have hc := h4 i (by omega)
      have ea : (⟨b, off, none⟩ : Addr).add i = ⟨b, off + i, none⟩ := by unfold Addr.add; split <;> simp_all
      rw [ea] at hc
      refine ⟨hc, h5 _ ?_⟩
      rw [List.getD_eq_getElem?_getD, List.getElem?_eq_getElem (by omega)]
      exact List.getElem_mem _
theorem once_walk (x old : Int) (ho : word old) (a : Option Addr) (len cap : Nat) (zs : List Int) (w : World) (hz : IsRow .u32 w a len cap zs) : Calls Try.prog 3 #[.int .i64 x, .int .u32 old, .slice a len cap] w fun e w' => e = .returned (.bool true) ∧ Below w.heap.size w w' := by
  cases hr : x.tmod 4 != 0 with
  | true => exact once_odd x old a len cap w hr
  | false =>
    by_cases h2 : x < 0
    · exact once_neg x old a len cap w hr h2
    · by_cases h3 : ((1024 : Nat) : Int) < x
      · exact once_far x old a len cap w hr (by omega) h3
      · by_cases h4 : ((1024 : Nat) : Int) - x < 4
        · exact once_end x old a len cap w hr (by omega) h3 h4
        · obtain ⟨y, rfl⟩ := Int.eq_ofNat_of_zero_le (show 0 ≤ x by omega)
          have h0 : y % 4 = 0 := by
            rw [Int.tmod_eq_emod_of_nonneg (by omega)] at hr
            have : ((y : Int) % 4) = 0 := by simpa using hr
            omega
          rcases row_cases hz with rfl | ⟨b, off, rfl, hl, hb, hc⟩
          · exact once_empty y old a cap w ho h0 (by omega)
          · exact once_ok y old b off len cap (fun i => zs.getD i 0) w ho h0 (by omega) (fun i hi => ⟨(hc i hi).1, bounds_u32 (hc i hi).2⟩) hl hb
end Go.Proofs.Ytkamalaideimgaa
