import Derived.Test.YtajhpfmfoolcjaaRep
import Derived.Test.YtajhpfmfoolcjaaKit
import Derived.Outline
/- Count, is, Off, does, sector, slices.Clone, Image, Read, Stop, Counts, clear. -/
namespace Go.Proofs.Ytajhpfmfoolcjaa
open Go.RowKit Go.BigFrame
set_option linter.unusedVariables false
set_option linter.unusedSimpArgs false
attribute [local go_sem] szIs_lit row_at row_past row_alloc nf_alloc row_set nf_set row_cell nf_cell row_drew nf_drew row_drewN nf_drewN cell_setRow frozen_setRow nlt1 nlt2 nlt3 nlt4 nne1 nne2 nne3 nen1 nen2 nen3
theorem bs33e (w : World) : (Instr.buildSlice 33 0 #[]).run Try.prog w = .ok (.slice (some ⟨w.heap.size, 0, none⟩) 0 0) (w.alloc (.cells #[] 5)) := by
  simp [go_sem]
theorem eql33_none (w : World) : (binOp .eql 33 (.slice none 0 0) (.slice none 0 0)).run Try.prog w = .ok (.bool true) w := by kernel_rfl
theorem eql33_some (a : Addr) (n c : Nat) (w : World) : (binOp .eql 33 (.slice (some a) n c) (.slice none 0 0)).run Try.prog w = .ok (.bool false) w := by kernel_rfl
/-- Bytes that can be read: nil, or cells somewhere. -/
def Bs (w : World) (A : Option Addr) (n c : Nat) (l : List Int) : Prop := l.length = n ∧ n ≤ 140737488351232 ∧ (A = none → c = 0) ∧ Rd w A (bv l)
theorem Rw.bs {w : World} {A : Option Addr} {n c : Nat} {l : List Int} (h : Rw w 5 1 A n c (bv l)) (hn : n ≤ 2 ^ 46) : Bs w A n c l := by
  refine ⟨by have := h.len; rwa [bv_len, Nat.mul_one] at this, by omega, fun e => ?_, h.rd (bv_one l)⟩
  rcases h.addr with ⟨_, _, q⟩ | ⟨b, q⟩
  · exact q
  · rw [q] at e; cases e
theorem Bs.below {w w' : World} {A : Option Addr} {n c : Nat} {l : List Int} (h : Bs w A n c l) (hb : Below w.heap.size w w') : Bs w' A n c l := by
  refine ⟨h.1, h.2.1, h.2.2.1, fun hne => ?_, h.2.2.2.2⟩
  obtain ⟨ad, e, hc⟩ := h.2.2.2.1 hne
  exact ⟨ad, e, fun j u hu => (hb.cell (cell_lt (hc j u hu))).trans (hc j u hu)⟩
set_option maxHeartbeats 1000000 in
theorem clone_bs (w : World) (A : Option Addr) (n c : Nat) (l : List Int) (h : Bs w A n c l) : Calls Try.prog 29 #[.slice A n c] w fun e w' => ∃ A' c', e = .returned (.slice A' n c') ∧ Rw w' 5 1 A' n c' (bv l) ∧ Below w.heap.size w w' ∧ (∀ k, blkOf A' = some k → w.heap.size ≤ k) := by
  obtain ⟨h1, h2, h3, h4⟩ := h
  cases A with
  | none =>
    obtain rfl := h3 rfl
    obtain rfl : l = [] := by
      cases l with
      | nil => rfl
      | cons x l => obtain ⟨ad, e, _⟩ := h4.1 (by simp [bv]); cases e
    obtain rfl : n = 0 := by simpa using h1.symm
    have hq := eql33_none
    clear h1 h2 h3 h4
    go_enter Try.func29, Try.ntmps29
    go_wp2
    go_ret
    exact ⟨none, 0, by first | rfl | simp, Rw.nil _ _ _, ⟨rfl, rfl, rfl, Nat.le_refl _, fun _ _ => rfl⟩, by simp [blkOf]⟩
  | some ad =>
    have hq := fun w => eql33_some ad n c w
    have hB1 : Below w.heap.size w (w.alloc (.cells #[] 5)) := (Below.refl _ _).alloc (Nat.le_refl _) _
    have hb := Bs.below ⟨h1, h2, h3, h4⟩ hB1
    obtain ⟨A2, c2, w2, e1, e2, e3, e4⟩ := rw_append (P := Try.prog) byT 33 (Rw.fresh w 5 #[] 0 0 (Nat.le_refl _) (by unfold maxLen; omega) rfl) (some ad) n c (bv l) (by rw [bv_len]; omega) hb.2.2.2 (by intro e; cases e) (by unfold maxLen; omega) (by omega)
    simp only [Nat.zero_add] at e1 e2
    have hbs := bs33e w
    have HE1 := Lib.hid e1
    have HE := Lib.hid (And.intro e2 (And.intro e3 e4))
    have HB := Lib.hid hB1
    clear e1 e2 e3 e4 hB1 hb h1 h2 h3 h4
    go_enter Try.func29, Try.ntmps29
    go_wp2_with (at_builtin; (refine wpList_run rfl (s := Builtin.append_ #[33, 33] 33 #[.slice (some ⟨w.heap.size, 0, none⟩) 0 0, .slice (some ad) n c]) (by kernel_rfl) HE1.out ?_))
    go_ret
    refine ⟨A2, c2, by first | rfl | simp, by simpa using HE.out.1, HB.out.trans ((HE.out.2.1.below (B := w.heap.size) (fun k hk q => ?_) HB.out.size)), fun k q => ?_⟩
    · simp [blkOf] at q; omega
    · rcases HE.out.2.2 with e | e
      · rw [e] at q; simp [blkOf] at q; omega
      · rw [e] at q; injection q with q; have := HB.out.size; omega
theorem clone_ok (w : World) (A : Option Addr) (n c : Nat) (l : List Int) (h : Rw w 5 1 A n c (bv l)) (hn : n ≤ 2 ^ 46) : Calls Try.prog 29 #[.slice A n c] w fun e w' => ∃ A' c', e = .returned (.slice A' n c') ∧ Rw w' 5 1 A' n c' (bv l) ∧ Below w.heap.size w w' ∧ (∀ k, blkOf A' = some k → w.heap.size ≤ k) := clone_bs w A n c l (h.bs hn)
section
variable {w : World} {a : DA} {S : DS}
theorem count_nil (w : World) : Calls Try.prog 25 #[.pointer none] w fun e w' => e = .returned (.int .i64 0) ∧ w = w' := by
  go_enter Try.func25, Try.ntmps25
  go_wp2
  go_ret
  exact ⟨by first | rfl | simp, rfl⟩
theorem count_ok (H : DR w a S) : Calls Try.prog 25 #[.pointer (some ⟨a.g, 0, none⟩)] w fun e w' => e = .returned (.int .i64 (S.cnt : Int)) ∧ w = w' := by
  have c0 := H.cells.1
  have hc := H.c1
  clear H
  go_enter Try.func25, Try.ntmps25
  go_wp2
  go_ret
  exact ⟨ret_int (by omega), rfl⟩
theorem is_yes (H : DR w a S) (n : Nat) (hn : n < S.cnt) : Calls Try.prog 27 #[.pointer (some ⟨a.g, 0, none⟩), .int .i64 (n : Int)] w fun e w' => e = .returned (.bool true) ∧ w = w' := by
  have HC := Lib.hid (count_ok H)
  have hc := H.c1
  clear H
  go_enter Try.func27, Try.ntmps27
  go_wp2_with fail
  refine HC.out.mono ?_
  rintro e w' ⟨rfl, rfl⟩
  go_wp2
  go_ret
  exact ⟨by first | rfl | simp, rfl⟩
theorem is_no (H : DR w a S) (n : Int) (hn : ¬ (0 ≤ n ∧ n < S.cnt)) : Calls Try.prog 27 #[.pointer (some ⟨a.g, 0, none⟩), .int .i64 n] w fun e w' => e = .returned (.bool false) ∧ w = w' := by
  have HC := Lib.hid (count_ok H)
  clear H
  by_cases h0 : 0 ≤ n
  · have h1 : ¬ n < S.cnt := fun q => hn ⟨h0, q⟩
    have h1' : decide (n < (S.cnt : Int)) = false := by simpa using h1
    clear hn h1
    go_enter Try.func27, Try.ntmps27
    go_wp2_with fail
    refine HC.out.mono ?_
    rintro e w' ⟨rfl, rfl⟩
    go_wp2
    go_ret
    exact ⟨by first | rfl | simp, rfl⟩
  · have h0' : decide (n ≥ 0) = false := by simpa using h0
    clear hn h0
    go_enter Try.func27, Try.ntmps27
    go_wp2
    go_ret
    exact ⟨by first | rfl | simp, rfl⟩
def DS.off (S : DS) : Bool := S.lim && S.left == 0
def DS.dec (S : DS) : DS := if S.lim then { S with left := S.left - 1 } else S
theorem off_nil (w : World) : Calls Try.prog 19 #[.pointer none] w fun e w' => e = .returned (.bool false) ∧ w = w' := by
  go_enter Try.func19, Try.ntmps19
  go_wp2
  go_ret
  exact ⟨by first | rfl | simp, rfl⟩
theorem off_ok (H : DR w a S) : Calls Try.prog 19 #[.pointer (some ⟨a.g, 0, none⟩)] w fun e w' => e = .returned (.bool S.off) ∧ w = w' := by
  have c3 := H.cells.2.2.2.1
  have c4 := H.cells.2.2.2.2.1
  clear H
  unfold DS.off
  cases hl : S.lim with
  | false =>
    rw [hl] at c3
    clear hl
    go_enter Try.func19, Try.ntmps19
    go_wp2
    go_ret
    exact ⟨by first | rfl | simp, rfl⟩
  | true =>
    rw [hl] at c3
    clear hl
    go_enter Try.func19, Try.ntmps19
    go_wp2
    go_ret
    exact ⟨by first | rfl | simp, rfl⟩
theorem does_off (H : DR w a S) (ho : S.off = true) : Calls Try.prog 28 #[.pointer (some ⟨a.g, 0, none⟩)] w fun e w' => e = .returned (.bool false) ∧ w = w' := by
  have HO := off_ok H
  rw [ho] at HO
  have HO := Lib.hid HO
  clear H ho
  go_enter Try.func28, Try.ntmps28
  go_wp2_with fail
  refine HO.out.mono ?_
  rintro e w' ⟨rfl, rfl⟩
  go_wp2
  go_ret
  exact ⟨by first | rfl | simp, rfl⟩
theorem does_on (H : DR w a S) (ho : S.off = false) : Calls Try.prog 28 #[.pointer (some ⟨a.g, 0, none⟩)] w fun e w' => e = .returned (.bool true) ∧ DR w' a S.dec ∧ Mv w a S w' a S.dec := by
  have HO := off_ok H
  rw [ho] at HO
  have HO := Lib.hid HO
  have c3 := H.cells.2.2.2.1
  have c4 := H.cells.2.2.2.2.1
  have z4 := H.cells.2.2.2.2.2.2.2.2 4
  have hl2 := H.lft
  cases hl : S.lim with
  | false =>
    rw [hl] at c3
    have hd : S.dec = S := by unfold DS.dec; rw [hl]; rfl
    have HF := Lib.hid (show DR w a S.dec ∧ Mv w a S w a S.dec by rw [hd]; exact ⟨H, Mv.refl w a S⟩)
    clear H ho hl hd
    go_enter Try.func28, Try.ntmps28
    go_wp2_with fail
    refine HO.out.mono ?_
    rintro e w' ⟨rfl, rfl⟩
    go_wp2
    go_ret
    exact ⟨by first | rfl | simp, HF.out⟩
  | true =>
    rw [hl] at c3
    have h0 : ¬ S.left = 0 := fun e => by unfold DS.off at ho; rw [hl, e] at ho; simp at ho
    have hd : S.dec = { S with left := S.left - 1 } := by unfold DS.dec; rw [hl]; rfl
    have HF := Lib.hid (show DR (w.setCell ⟨a.g, 4, none⟩ (.int .i64 (S.left - 1))) a S.dec ∧ Mv w a S (w.setCell ⟨a.g, 4, none⟩ (.int .i64 (S.left - 1))) a S.dec by
      rw [hd]; exact H.fld 4 _ a _ rfl ⟨rfl, rfl, rfl, rfl, rfl, rfl⟩ ⟨rfl, rfl, rfl⟩ (by simp only; omega))
    clear H ho hl hd
    go_enter Try.func28, Try.ntmps28
    go_wp2_with fail
    refine HO.out.mono ?_
    rintro e w' ⟨rfl, rfl⟩
    go_wp2
    go_ret
    exact ⟨by first | rfl | simp, HF.out⟩
theorem sector_ok (H : DR w a S) (n : Nat) (hn : n < S.cnt) : Calls Try.prog 30 #[.pointer (some ⟨a.g, 0, none⟩), .int .i64 (n : Int)] w fun e w' => e = .returned (.slice (some ⟨a.pb, n * 512, none⟩) 512 (a.pc - n * 512)) ∧ w = w' := by
  have c0 := H.cells.1
  have hc := H.c1
  have hle := H.plat.le
  have hsz := H.size
  obtain ⟨A', q1, q2, q3⟩ := cut_lh (P := Try.prog) byT a.pb (S.cnt * 512) a.pc (n * 512) (n * 512 + 512) (by omega) (by omega) hle.2
  have hA := q2 (by omega)
  rw [Nat.mul_one] at hA
  subst hA
  have q1' : ∀ w : World, (Instr.slice 33 (.slice (some ⟨a.pb, 0, none⟩) (S.cnt * 512) a.pc) (some (.int .i64 ((n : Int) * 512))) (some (.int .i64 (((n : Int) + 1) * 512))) none).run Try.prog w = .ok (.slice (some ⟨a.pb, n * 512, none⟩) 512 (a.pc - n * 512)) w := fun w => by
    have := q1 w
    rw [show ((n * 512 : Nat) : Int) = (n : Int) * 512 by omega, show ((n * 512 + 512 : Nat) : Int) = ((n : Int) + 1) * 512 by omega, show n * 512 + 512 - n * 512 = 512 by omega] at this
    exact this
  clear H q1 q2 q3
  go_enter Try.func30, Try.ntmps30
  go_wp2
  go_ret
  exact ⟨by first | rfl | simp, rfl⟩
theorem image_nil (w : World) : Calls Try.prog 16 #[.pointer none] w fun e w' => e = .returned (.slice none 0 0) ∧ w = w' := by
  go_enter Try.func16, Try.ntmps16
  go_wp2
  go_ret
  exact ⟨by first | rfl | simp, rfl⟩
theorem image_ok (H : DR w a S) : Calls Try.prog 16 #[.pointer (some ⟨a.g, 0, none⟩)] w fun e w' => ∃ A c, e = .returned (.slice A (S.cnt * 512) c) ∧ Rw w' 5 1 A (S.cnt * 512) c (bv S.plat) ∧ Below w.heap.size w w' ∧ (∀ k, blkOf A = some k → w.heap.size ≤ k) := by
  have c0 := H.cells.1
  have hc := H.c1
  have hp := H.plat
  rw [H.size] at hp
  have HC := Lib.hid (clone_ok w _ _ _ _ hp (by omega))
  clear H hp
  go_enter Try.func16, Try.ntmps16
  go_wp2_with fail
  refine HC.out.mono ?_
  rintro e w' ⟨A, c, rfl, h1, h2, h3⟩
  have HF := Lib.hid (And.intro h1 (And.intro h2 h3))
  clear h1 h2 h3
  go_wp2
  go_ret
  exact ⟨A, c, by first | rfl | simp, HF.out⟩
theorem stop_nil (n : Int) (w : World) : Calls Try.prog 18 #[.pointer none, .int .i64 n] w fun e w' => e = .returned (.tuple #[]) ∧ w = w' := by
  go_enter Try.func18, Try.ntmps18
  go_wp2
  go_end0
  exact ⟨by first | rfl | simp, rfl⟩
def DS.stop (S : DS) (n : Int) : DS := { S with lim := decide (0 ≤ n), left := if 0 ≤ n then n else 0 }
theorem stop_ok (H : DR w a S) (n : Int) (hn : n ≤ 9223372036854775807) : Calls Try.prog 18 #[.pointer (some ⟨a.g, 0, none⟩), .int .i64 n] w fun e w' => e = .returned (.tuple #[]) ∧ DR w' a (S.stop n) ∧ Mv w a S w' a (S.stop n) := by
  have c3 := H.cells.2.2.2.1
  have c4 := H.cells.2.2.2.2.1
  have hz := H.cells.2.2.2.2.2.2.2.2
  have z3 := hz 3
  have z4 := hz 4
  by_cases h0 : 0 ≤ n
  · have e1 : S.stop n = { S with lim := true, left := n } := by unfold DS.stop; rw [if_pos h0]; simp [h0]
    rw [e1]
    obtain ⟨p1, p2⟩ := H.fld 3 (.bool true) a { S with lim := true } rfl ⟨rfl, rfl, rfl, rfl, rfl, rfl⟩ ⟨rfl, rfl, rfl⟩ H.lft
    obtain ⟨p3, p4⟩ := p1.fld 4 (.int .i64 n) a { S with lim := true, left := n } rfl ⟨rfl, rfl, rfl, rfl, rfl, rfl⟩ ⟨rfl, rfl, rfl⟩ ⟨h0, hn⟩
    have HF := Lib.hid (And.intro p3 (p2.trans p4))
    clear H p1 p2 p3 p4 e1
    go_enter Try.func18, Try.ntmps18
    go_wp2
    go_end0
    exact ⟨by first | rfl | simp, by first | exact HF.out | simpa using HF.out⟩
  · have e1 : S.stop n = { S with lim := false, left := 0 } := by unfold DS.stop; rw [if_neg h0]; simp [h0]
    rw [e1]
    obtain ⟨p1, p2⟩ := H.fld 3 (.bool false) a { S with lim := false } rfl ⟨rfl, rfl, rfl, rfl, rfl, rfl⟩ ⟨rfl, rfl, rfl⟩ H.lft
    obtain ⟨p3, p4⟩ := p1.fld 4 (.int .i64 0) a { S with lim := false, left := 0 } rfl ⟨rfl, rfl, rfl, rfl, rfl, rfl⟩ ⟨rfl, rfl, rfl⟩ ⟨by simp, by simp⟩
    have HF := Lib.hid (And.intro p3 (p2.trans p4))
    clear H p1 p2 p3 p4 e1
    go_enter Try.func18, Try.ntmps18
    go_wp2
    go_end0
    exact ⟨by first | rfl | simp, by first | exact HF.out | simpa using HF.out⟩
theorem counts_nil (w : World) : Calls Try.prog 24 #[.pointer none] w fun e w' => e = .returned (.tuple #[.int .i64 0, .int .i64 0, .int .i64 0]) ∧ w = w' := by
  go_enter Try.func24, Try.ntmps24
  go_wp2
  go_ret3
  exact ⟨by first | rfl | simp, rfl⟩
theorem counts_ok (H : DR w a S) : Calls Try.prog 24 #[.pointer (some ⟨a.g, 0, none⟩)] w fun e w' => e = .returned (.tuple #[.int .i64 a.rd, .int .i64 a.wr, .int .i64 a.fl]) ∧ ∃ n, w' = w.drewN n := by
  have c5 := H.cells.2.2.2.2.2.1
  have c6 := H.cells.2.2.2.2.2.2.1
  have c7 := H.cells.2.2.2.2.2.2.2.1
  clear H
  go_enter Try.func24, Try.ntmps24
  go_wp2_with fail
  go_quiet (fail)
  go_wp2
  go_ret3
  exact ⟨by first | rfl | simp, _, rfl⟩
end
end Go.Proofs.Ytajhpfmfoolcjaa
