import Derived.Test.YtjmdikabikgjhaaRunP
import Derived.Deep.QuietTactic
import Derived.BigQuiet
import Derived.Deep.LoopGhost
import Derived.Maps.RangeWalk
/- The walk of InsnWraps. -/
namespace Go.Proofs.Ytjmdikabikgjhaa
open Go.RowKit Go.BigFrame
set_option linter.unusedVariables false
set_option linter.unusedSimpArgs false
attribute [local go_sem] cpu_get cpu_get16 cpu_set cpu_set16 szIs_cpu szIs_lit row_at row_past row_alloc nf_alloc row_set nf_set row_cell nf_cell row_drew nf_drew row_drewN nf_drewN cell_setRow frozen_setRow nlt1 nlt2 nlt3 nlt4 nne1 nne2 nne3 nen1 nen2 nen3
attribute [local go_sem ↓] to_ld35 to_st35 to_ld38 to_st38
attribute [local go_sem] run_ld35 run_st35 run_ld38 run_st38
theorem zero_cpu : #[Value.int .u32 0, .int .u32 0, .int .u32 0, .int .u32 0, .int .u32 0, .int .u32 0, .int .u32 0, .int .u32 0, .int .u32 0, .int .u32 0, .int .u32 0, .int .u32 0, .int .u32 0, .int .u32 0, .int .u32 0, .int .u32 0, .int .u32 0] = cpu (fun _ => 0) 0 := rfl
attribute [local go_sem] zero_cpu
theorem st38_lit {w : World} {g : Nat} (a b c d e f : Int) (h : nf w g = true) (hs : szIs (row w g) 6 = true) : (st38 (.pointer (some ⟨g, 0, none⟩)) (.agg #[.int .i64 a, .int .u32 b, .int .i64 c, .int .i64 d, .int .u32 e, .int .u32 f])).run Try.prog w = .ok () (w.setRow g #[.int .i64 a, .int .u32 b, .int .i64 c, .int .i64 d, .int .u32 e, .int .u32 f]) := run_st38 _ rfl (by simp [Value.oneCell']) h hs
attribute [local go_sem] st38_lit
def rab (a b : Int) : Nat → Int := upd (upd (fun _ => 0) 1 a) 2 b
theorem rab1 (a b : Int) : rab a b 1 = a := rfl
theorem rab2 (a b : Int) : rab a b 2 = b := rfl
theorem okE (op : Int) (o1 : 3 ≤ op) (o2 : op ≤ 13) : EncOk op 1 2 0 := ⟨by omega, by omega, by decide, by decide, by decide, by decide, by decide, by decide⟩
theorem wr_step (a b op v : Int) (o1 : 3 ≤ op) (o2 : op ≤ 13) (hval : ∀ w, Calls Try.prog 20 #[.int .i64 op, .int .u32 a, .int .u32 b, .int .u32 0] w fun e w' => e = .returned (.tuple #[.int .u32 v, .bool true]) ∧ Below w.heap.size w w') (w : World) :
    Calls Try.prog 15 #[.agg (cpu (rab a b) 0), .int .u32 (encW op 1 2 0)] w fun e w' => e = .returned (.tuple #[.agg (cpu (upd (rab a b) 1 v) 4), .agg #[.int .i64 1, .int .u32 0, .int .i64 0, .int .i64 0, .int .u32 0, .int .u32 0]]) ∧ Below w.heap.size w w' := by
  have hx := encW_word op 1 2 0 (okE op o1 o2)
  obtain ⟨d1, d2, d3, d4⟩ := dec_enc op 1 2 0 (okE op o1 o2)
  have hd := (dec_ok (encW op 1 2 0) hx (by rw [d1]; omega) (by rw [d1]; omega)).1
  rw [d1, d2, d3, d4] at hd
  have hdec : ∀ w, Calls Try.prog 10 #[.int .u32 (encW op 1 2 0)] w fun e w' => e = .returned (.tuple #[.agg #[.int .i64 op, .int .i64 (1 : Nat), .int .i64 (2 : Nat), .int .i64 0], .int .i64 0]) ∧ Below w.heap.size w w' := hd
  have n : ∀ k : Int, 13 < k → (op == k) = false := fun k hk => beq_eq_false_iff_ne.2 (by omega)
  have h4 : ((0 : Int) + 4) % 4294967296 = 4 := by decide
  have h00 : (0 : Int) % 4294967296 = 0 := by decide
  have key := step_p_val (rab a b) 0 (encW op 1 2 0) 0 op v 1 2 w (by decide) (by decide) hdec
    (fun w => mem_none (rab a b) 0 0 1 2 op w (by decide) (by decide) (n _ (by decide)) (n _ (by decide)) (n _ (by decide)) (n _ (by decide)) (n _ (by decide))) (by rw [h00, rab1, rab2]; exact hval)
  rw [h4] at key
  exact key
def V (a b : Int) : Nat → Int
  | 0 => (a + b) % 4294967296
  | 1 => (a - b) % 4294967296
  | 2 => bits BinOp.and IntKind.u32 a b
  | 3 => bits BinOp.or IntKind.u32 a b
  | 4 => bits BinOp.xor IntKind.u32 a b
  | 5 => a * 2 ^ (b % 32).toNat % 4294967296
  | _ => a / 2 ^ (b % 32).toNat
theorem v_val (a b : Int) (ha : word a) (hb : word b) (i : Nat) (hi : i < 7) (w : World) : Calls Try.prog 20 #[.int .i64 (3 + (i : Int)), .int .u32 a, .int .u32 b, .int .u32 0] w fun e w' => e = .returned (.tuple #[.int .u32 (V a b i), .bool true]) ∧ Below w.heap.size w w' := by
  obtain ⟨h0, h1⟩ := ha
  obtain ⟨h2, h3⟩ := hb
  have h31 := and31 b h2 h3
  rcases (show i = 0 ∨ i = 1 ∨ i = 2 ∨ i = 3 ∨ i = 4 ∨ i = 5 ∨ i = 6 by omega) with rfl | rfl | rfl | rfl | rfl | rfl | rfl
  · exact val_p3 a b 0 w h0 h1 h2 h3
  · exact val_p4 a b 0 w h0 h1 h2 h3
  · exact val_p5 a b 0 w h0 h1 h2 h3
  · exact val_p6 a b 0 w h0 h1 h2 h3
  · exact val_p7 a b 0 w h0 h1 h2 h3
  · exact val_p8 a b 0 w h0 h1 h2 h3 h31
  · exact val_p9 a b 0 w h0 h1 h2 h3 h31
theorem wr_any (a b : Int) (ha : word a) (hb : word b) (i : Nat) (hi : i < 7) (w : World) : Calls Try.prog 15 #[.agg (cpu (rab a b) 0), .int .u32 (encW (3 + (i : Int)) 1 2 0)] w fun e w' => e = .returned (.tuple #[.agg (cpu (upd (rab a b) 1 (V a b i)) 4), .agg #[.int .i64 1, .int .u32 0, .int .i64 0, .int .i64 0, .int .u32 0, .int .u32 0]]) ∧ Below w.heap.size w w' := by
  have hv := v_val a b ha hb i hi
  generalize V a b i = v at *
  have o1 : 3 ≤ 3 + (i : Int) := by omega
  have o2 : 3 + (i : Int) ≤ 13 := by omega
  generalize 3 + (i : Int) = op at *
  exact wr_step a b op v o1 o2 hv w
def Vs (a b : Int) : Array Value := #[.int .u32 (V a b 0), .int .u32 (V a b 1), .int .u32 (V a b 2), .int .u32 (V a b 3), .int .u32 (V a b 4), .int .u32 (V a b 5), .int .u32 (V a b 6)]
theorem Vs_at (a b : Int) (i : Nat) (hi : i < 7) : (Vs a b)[i]? = some (.int .u32 (V a b i)) := by
  rcases (show i = 0 ∨ i = 1 ∨ i = 2 ∨ i = 3 ∨ i = 4 ∨ i = 5 ∨ i = 6 by omega) with rfl | rfl | rfl | rfl | rfl | rfl | rfl <;> rfl
set_option maxHeartbeats 8000000 in
set_option maxRecDepth 100000 in
theorem wraps_walk (a b : Int) (ha : word a) (hb : word b) (w : World) : Calls Try.prog 5 #[.int .u32 a, .int .u32 b] w fun e w' => e = .returned (.bool true) ∧ Below w.heap.size w w' := by
  have HV := Lib.hid (wr_any a b ha hb)
  have HE := Lib.hid (fun (op : Int) (o1 : 3 ≤ op) (o2 : op ≤ 13) => (enc_ok op 1 2 0 (okE op o1 o2)).1)
  have HQ := Lib.hid (wr_step a b 12 (dq a b) (by decide) (by decide) (fun w => val_p12 a b 0 w ha.1 ha.2 hb.1 hb.2))
  have HR := Lib.hid (wr_step a b 13 (dr a b) (by decide) (by decide) (fun w => val_p13 a b 0 w ha.1 ha.2 hb.1 hb.2))
  have Hli := Lib.hid lives_true
  obtain ⟨h0, h1⟩ := ha
  obtain ⟨h2, h3⟩ := hb
  have hn5 : (0 : Int) ≤ b % 32 ∧ b % 32 < 32 := by omega
  go_enter Try.func5, Try.ntmps5
  go_wp2_with fail
  refine (Hli.out _).mono ?_; rintro e w1 ⟨rfl, hb1⟩
  have hz1 := hb1.size
  go_wp2_with fail
  go_loopg [7, 8, 9, 10, 11] 8 (fun gk i_ p8 p9 p10 p11 wr => ∃ i : Nat, i_ = .int .i64 (i : Int) ∧ gk = 8 - i ∧ i ≤ 7 ∧ Blk wr w1.heap.size (cpu (rab a b) 0) ∧ Blk wr (w1.heap.size + 1) (Vs a b) ∧ Below w.heap.size w wr)
  case atStart =>
    refine ⟨0, rfl, rfl, by omega, ⟨by first | (go_simp; done) | (go_simp; intro hq; exfalso; omega) | (go_simp; omega) | (go_simp; rfl), by first | (go_simp; done) | (go_simp; intro hq; exfalso; omega) | (go_simp; omega) | (go_simp; rfl)⟩, ⟨by first | (go_simp; done) | (go_simp; intro hq; exfalso; omega) | (go_simp; omega) | (go_simp; rfl), by first | (go_simp; done) | (go_simp; intro hq; exfalso; omega) | (go_simp; omega) | (go_simp; rfl)⟩, ?_⟩
    repeat (first | (with_reducible exact Below.refl _ _) | (with_reducible refine Below.alloc ?_ ?h _; (case h => (first | omega | (simp; done) | (simp; omega)))) | (with_reducible refine Below.drew ?_) | (with_reducible refine below_drewN ?_ _) | (with_reducible refine Below.setCell ?_ ?h _; (case h => (first | omega | (simp; done) | (simp; omega)))) | (with_reducible refine below_row ?_ ?h _; (case h => (first | omega | (simp; done) | (simp; omega)))) | (with_reducible refine Below.trans ?_ (Below.mono hb3 ?h); (case h => (first | omega | (simp; done) | (simp; omega)))) | (with_reducible refine Below.trans ?_ (Below.mono hb2 ?h); (case h => (first | omega | (simp; done) | (simp; omega)))) | (with_reducible refine Below.trans ?_ (Below.mono hb1 ?h); (case h => (first | omega | (simp; done) | (simp; omega)))))
  case round =>
    obtain ⟨i, rfl, hgk, hi, h5, h6, hbw⟩ := hrel
    have HK := Lib.hid hgk
    have hz := hbw.size
    have hbW := Lib.hid hbw
    clear hgk
    generalize w1.heap.size = g5 at *
    obtain ⟨r5, n5, c5, f5⟩ := h5.all
    have l5 := h5.lt
    have l6 := h6.lt
    by_cases hlt : i < 7
    · have d6 : wr.cell? ⟨g5 + 1, i, none⟩ = some (.int .u32 (V a b i)) := (h6.all.2.2.1 i).trans (Vs_at a b i hlt)
      have HS := Lib.hid (HV.out i hlt)
      have HX := Lib.hid (HE.out (3 + (i : Int)) (by omega) (by omega))
      generalize encW (3 + (i : Int)) 1 2 0 = x at *
      have H5 := Lib.hid h5
      have H6 := Lib.hid h6
      have D6 := Lib.hid d6
      clear h5 h6 hbw d6
      unfold insnA at HX
      go_wp2_with fail
      refine (HX.out _).mono ?_; rintro e w2 ⟨rfl, hb2⟩
      have hz2 := hb2.size
      have H52 := Lib.hid (H5.out.below hb2 l5)
      have H62 := Lib.hid (H6.out.below hb2 l6)
      have D62 := Lib.hid ((hb2.cell (p := ⟨g5 + 1, i, none⟩) l6).trans D6.out)
      obtain ⟨r52, n52, c52, f52⟩ := H52.out.all
      have hb2H := Lib.hid hb2
      clear hb2 r5 n5 c5 f5
      go_wp2_with fail
      refine (HS.out _).mono ?_; rintro e w3 ⟨rfl, hb3⟩
      have hz3 := hb3.size
      have H53 := Lib.hid (H52.out.below hb3 (by omega))
      have H63 := Lib.hid (H62.out.below hb3 (by omega))
      have d63 := (hb3.cell (p := ⟨g5 + 1, i, none⟩) (show g5 + 1 < w2.heap.size by omega)).trans D62.out
      obtain ⟨r53, n53, c53, f53⟩ := H53.out.all
      obtain ⟨r63, n63, c63, f63⟩ := H63.out.all
      have hb3H := Lib.hid hb3
      have q1 : upd (rab a b) 1 (V a b i) 1 = V a b i := rfl
      have q2 : upd (rab a b) 1 (V a b i) 2 = b := rfl
      have s1 : g5 ≠ w3.heap.size := by omega
      have s2 : g5 + 1 ≠ w3.heap.size := by omega
      have s3 : g5 ≠ w3.heap.size + 1 := by omega
      have s4 : g5 + 1 ≠ w3.heap.size + 1 := by omega
      generalize V a b i = v at *
      clear hb3 r52 n52 c52 f52
      go_wp2_with fail
      have x5 := H53.out.below ((Below.refl w3.heap.size w3).alloc (Nat.le_refl _) (Obj.cells (cpu (upd (rab a b) 1 v) 4) 35) |>.alloc (by simp) (Obj.cells #[Value.int .i64 1, .int .u32 0, .int .i64 0, .int .i64 0, .int .u32 0, .int .u32 0] 38)) (by omega)
      have x6 := H63.out.below ((Below.refl w3.heap.size w3).alloc (Nat.le_refl _) (Obj.cells (cpu (upd (rab a b) 1 v) 4) 35) |>.alloc (by simp) (Obj.cells #[Value.int .i64 1, .int .u32 0, .int .i64 0, .int .i64 0, .int .u32 0, .int .u32 0] 38)) (by omega)
      have y10 : Blk ((w3.alloc (Obj.cells (cpu (upd (rab a b) 1 v) 4) 35)).alloc (Obj.cells #[Value.int .i64 1, .int .u32 0, .int .i64 0, .int .i64 0, .int .u32 0, .int .u32 0] 38)) w3.heap.size (cpu (upd (rab a b) 1 v) 4) := (Blk.new (w := w3)).below ((Below.refl _ _).alloc (Nat.le_refl _) _) (by simp)
      have y11 : Blk ((w3.alloc (Obj.cells (cpu (upd (rab a b) 1 v) 4) 35)).alloc (Obj.cells #[Value.int .i64 1, .int .u32 0, .int .i64 0, .int .i64 0, .int .u32 0, .int .u32 0] 38)) (w3.heap.size + 1) #[Value.int .i64 1, .int .u32 0, .int .i64 0, .int .i64 0, .int .u32 0, .int .u32 0] := by
        have := Blk.new (w := w3.alloc (Obj.cells (cpu (upd (rab a b) 1 v) 4) 35)) (c := #[Value.int .i64 1, .int .u32 0, .int .i64 0, .int .i64 0, .int .u32 0, .int .u32 0]) (t := 38)
        simpa using this
      have z3 : Below w3.heap.size w3 ((w3.alloc (Obj.cells (cpu (upd (rab a b) 1 v) 4) 35)).alloc (Obj.cells #[Value.int .i64 1, .int .u32 0, .int .i64 0, .int .i64 0, .int .u32 0, .int .u32 0] 38)) := ((Below.refl _ _).alloc (Nat.le_refl _) _).alloc (by simp) _
      have x63 : ((w3.alloc (Obj.cells (cpu (upd (rab a b) 1 v) 4) 35)).alloc (Obj.cells #[Value.int .i64 1, .int .u32 0, .int .i64 0, .int .i64 0, .int .u32 0, .int .u32 0] 38)).cell? ⟨g5 + 1, i, none⟩ = some (.int .u32 v) := (z3.cell (p := ⟨g5 + 1, i, none⟩) (show g5 + 1 < w3.heap.size by have := H63.out.lt; omega)).trans d63
      have HBS := Lib.hid (hb2H.out.trans (Below.mono (hb3H.out.trans (Below.mono z3 hb3H.out.size)) hb2H.out.size))
      clear r53 n53 c53 f53 r63 n63 c63 f63 d63 z3
      generalize ((w3.alloc (Obj.cells (cpu (upd (rab a b) 1 v) 4) 35)).alloc (Obj.cells #[Value.int .i64 1, .int .u32 0, .int .i64 0, .int .i64 0, .int .u32 0, .int .u32 0] 38)) = wx at *
      generalize w3.heap.size = g10 at *
      have HX5 := Lib.hid x5
      have HX6 := Lib.hid x6
      obtain ⟨r10, n10, c10, f10⟩ := y10.all
      obtain ⟨r11, n11, c11, f11⟩ := y11.all
      clear x5 x6
      go_quiet (fail)
      go_wp2_with fail
      go_roundg (8 - (i + 1))
      case measure => have := HK.out; omega
      case rel =>
        refine ⟨i + 1, by go_num, rfl, by omega, HX5.out, HX6.out, ?_⟩
        exact below_drewN (hbW.out.trans (Below.mono HBS.out hbW.out.size)) _
    · obtain rfl : i = 7 := by omega
      have H5 := Lib.hid h5
      have hX12 := Lib.hid (HE.out 12 (by decide) (by decide))
      have hX13 := Lib.hid (HE.out 13 (by decide) (by decide))
      clear h5 h6 HE HV Hli
      unfold insnA at hX12 hX13
      generalize hx12 : encW 12 1 2 0 = x12 at *
      generalize hx13 : encW 13 1 2 0 = x13 at *
      clear hx12 hx13 r5 n5 c5 f5
      go_wp2_with fail
      refine (hX12.out _).mono ?_; rintro e w2 ⟨rfl, hb2⟩
      have H52 := Lib.hid (H5.out.below hb2 l5)
      have HB2 := Lib.hid (hbw.trans (Below.mono hb2 hbw.size))
      have hz2 := hb2.size
      clear hb2 hbw
      go_wp2_with fail
      refine (hX13.out _).mono ?_; rintro e w3 ⟨rfl, hb3⟩
      have H53 := Lib.hid (H52.out.below hb3 (by omega))
      have HB3 := Lib.hid (HB2.out.trans (Below.mono hb3 HB2.out.size))
      have hz3 := hb3.size
      obtain ⟨r53, n53⟩ := H53.out
      clear hb3
      go_wp2_with fail
      refine (HQ.out _).mono ?_; rintro e w4 ⟨rfl, hb4⟩
      have H54 := Lib.hid (H53.out.below hb4 (by omega))
      have HB4 := Lib.hid (HB3.out.trans (Below.mono hb4 HB3.out.size))
      have hz4 := hb4.size
      clear hb4 r53 n53
      obtain ⟨r54, n54⟩ := H54.out
      have s1 : g5 ≠ w4.heap.size := by omega
      have s2 : g5 ≠ w4.heap.size + 1 := by omega
      go_wp2_with fail
      have z4 : Below w4.heap.size w4 ((w4.alloc (Obj.cells (cpu (upd (rab a b) 1 (dq a b)) 4) 35)).alloc (Obj.cells #[Value.int .i64 1, .int .u32 0, .int .i64 0, .int .i64 0, .int .u32 0, .int .u32 0] 38)) := ((Below.refl _ _).alloc (Nat.le_refl _) _).alloc (by simp) _
      have y10 : Blk ((w4.alloc (Obj.cells (cpu (upd (rab a b) 1 (dq a b)) 4) 35)).alloc (Obj.cells #[Value.int .i64 1, .int .u32 0, .int .i64 0, .int .i64 0, .int .u32 0, .int .u32 0] 38)) w4.heap.size (cpu (upd (rab a b) 1 (dq a b)) 4) := (Blk.new (w := w4)).below ((Below.refl _ _).alloc (Nat.le_refl _) _) (by simp)
      have HB5 := Lib.hid (HB4.out.trans (Below.mono z4 HB4.out.size))
      have hg4 := y10.lt
      have HY := Lib.hid y10
      clear z4 y10 r54 n54
      generalize ((w4.alloc (Obj.cells (cpu (upd (rab a b) 1 (dq a b)) 4) 35)).alloc (Obj.cells #[Value.int .i64 1, .int .u32 0, .int .i64 0, .int .i64 0, .int .u32 0, .int .u32 0] 38)) = wx at *
      generalize w4.heap.size = g10 at *
      refine (HR.out _).mono ?_; rintro e w5 ⟨rfl, hb5⟩
      have H10 := Lib.hid (HY.out.below hb5 hg4)
      have HB6 := Lib.hid (HB5.out.trans (Below.mono hb5 HB5.out.size))
      have hz5 := hb5.size
      have s3 : g10 ≠ w5.heap.size := by omega
      have s4 : g10 ≠ w5.heap.size + 1 := by omega
      have u1 : upd (rab a b) 1 (dq a b) 1 = dq a b := rfl
      have u2 : upd (rab a b) 1 (dr a b) 1 = dr a b := rfl
      clear hb5
      have HH := Lib.hid (And.intro h0 (And.intro h1 (And.intro h2 h3)))
      have FIN := Lib.hid (show ∀ W, Below w5.heap.size w5 W → Below w.heap.size w W from fun W hW => HB6.out.trans (Below.mono hW HB6.out.size))
      have z5 : Below w5.heap.size w5 ((w5.alloc (Obj.cells (cpu (upd (rab a b) 1 (dr a b)) 4) 35)).alloc (Obj.cells #[Value.int .i64 1, .int .u32 0, .int .i64 0, .int .i64 0, .int .u32 0, .int .u32 0] 38)) := ((Below.refl _ _).alloc (Nat.le_refl _) _).alloc (by simp) _
      have HFF := Lib.hid (FIN.out _ z5)
      obtain ⟨r10, n10, c10, f10⟩ := H10.out.all
      have lt1 : g10 < w5.heap.size := H10.out.lt
      have lt2 : g10 < w5.heap.size + 1 := by omega
      have hc1 : ((w5.alloc (Obj.cells (cpu (upd (rab a b) 1 (dr a b)) 4) 35)).alloc (Obj.cells #[Value.int .i64 1, .int .u32 0, .int .i64 0, .int .i64 0, .int .u32 0, .int .u32 0] 38)).cell? ⟨g10, 1, none⟩ = some (.int .u32 (dq a b)) := (z5.cell (p := ⟨g10, 1, none⟩) lt1).trans ((c10 1).trans (by rw [cpu_get _ _ 1 (by decide)]; rfl))
      clear z5 FIN
      have FQ := Lib.hid (show b = 0 → (dq a b == 4294967295) = true ∧ (dr a b == a) = true from fun hb0 => by
        unfold dq dr; rw [if_pos hb0, if_pos hb0]; simp)
      have FR := Lib.hid (show ¬ b = 0 → dr a b < b ∧ ((dq a b * b + dr a b) % 4294967296 == a) = true from fun hb0 => by
        unfold dq dr
        rw [if_neg hb0, if_neg hb0]
        have e3 : a / b * b + a % b = a := by rw [Int.mul_comm]; exact Int.mul_ediv_add_emod a b
        rw [e3]
        exact ⟨Int.emod_lt_of_pos a (by omega), by simp; omega⟩)
      clear u1 u2
      generalize dq a b = Q at *
      generalize dr a b = Rr at *
      have u1 : upd (rab a b) 1 Q 1 = Q := rfl
      have u2 : upd (rab a b) 1 Rr 1 = Rr := rfl
      by_cases hb0 : b = 0
      · have k1 : (b == 0) = true := by simpa using hb0
        obtain ⟨kq, kr⟩ := FQ.out hb0
        clear hb0
        go_wp2_with fail
        go_ret
        exact ⟨by first | rfl | (simp; done) | exact congrArg (fun z => Ending.returned (Value.bool z)) kr, HFF.out⟩
      · have k1 : (b == 0) = false := by simpa using hb0
        obtain ⟨kq, kr⟩ := FR.out hb0
        clear hb0
        go_wp2_with fail
        go_ret
        exact ⟨by first | rfl | (simp; done) | exact congrArg (fun z => Ending.returned (Value.bool z)) kr, HFF.out⟩
end Go.Proofs.Ytjmdikabikgjhaa
