import Derived.Test.YtmifomppnmhmpaaConS
/- PipeConsoles. -/
namespace Go.Proofs.Ytmifomppnmhmpaa
open Go.RowKit
set_option linter.unusedVariables false
set_option linter.unusedSimpArgs false
attribute [local go_sem] szIs_lit row_at row_past row_alloc nf_alloc row_set nf_set row_cell nf_cell row_drew nf_drew row_drewN nf_drewN cell_setRow frozen_setRow nlt1 nlt2 nlt3 nlt4 nne1 nne2 nne3 nen1 nen2 nen3
attribute [local go_sem] rg_setf rg_setn rg_setm

set_option maxRecDepth 100000 in
set_option maxHeartbeats 2000000 in
theorem consoles_walk (A : Option Addr) (len cap : Nat) (o : Nat → OpV) (w : World) (hO : AreOp w w.heap.size A len cap o) :
    Calls Try.prog 7 #[.slice A len cap] w fun e w' => e = .returned (.bool true) ∧ Below w.heap.size w w' := by
  have hlc : len ≤ cap := hO.1
  have hcm : cap ≤ 9223372036854775807 := hO.2.1
  have H0 := Lib.hid hO
  clear hO
  go_enter Try.func7, Try.ntmps7
  go_wp2_with fail
  refine (con_new w).mono ?_
  rintro e w1 ⟨rfl, hC, hB⟩
  have HC1 := Lib.hid (show Con con w1 w.heap.size w.heap.size none 0 0 (fun _ => 0) false none 0 0 (fun _ => 0) from ⟨hC, Own.nil _ _ _ _, Own.nil _ _ _ _, Nat.le_refl _, by simp [inB], by simp [inB], by simp [inB]⟩)
  have HB1 := Lib.hid hB
  have hl1 := hC.lt
  clear hC hB
  have HA := Lib.hid (show Below w1.heap.size w1 (w1.alloc (.cells (rc (.slice none 0 0) false (.slice none 0 0)) 50)) from (Below.refl _ _).alloc (Nat.le_refl _) _)
  have HC2 := Lib.hid (HC1.out.below HA.out)
  have HK2 := Lib.hid (show Con rc (w1.alloc (.cells (rc (.slice none 0 0) false (.slice none 0 0)) 50)) w.heap.size w1.heap.size none 0 0 (fun _ => 0) false none 0 0 (fun _ => 0) from ⟨Blk.of_heap (heap_at rfl), Own.nil _ _ _ _, Own.nil _ _ _ _, HB1.out.size, by simp [inB], by simp [inB], by simp [inB]⟩)
  have HB2 := Lib.hid (HB1.out.trans (HA.out.mono HB1.out.size))
  have HD := Lib.hid (show ∀ k, foot w.heap.size none none k → ¬ foot w1.heap.size none none k from by
    intro k h1 h2
    simp [foot, inB] at h1 h2
    omega)
  go_wp2_with fail
  refine (lives_ok _).mono ?_
  rintro e w3 ⟨rfl, hB⟩
  have HC3 := Lib.hid (HC2.out.below hB)
  have HK3 := Lib.hid (HK2.out.below hB)
  have HB3 := Lib.hid (HB2.out.trans (hB.mono HB2.out.size))
  clear hB HC2 HK2 HC1 HA
  generalize w1.heap.size = x at *
  go_wp2_with fail
  go_loopg [5] len (fun k i_ wr => ∃ (i n q : Nat) (P R : Nat → Int) (en : Bool), i_ = .int .i64 (i : Int) ∧ k = len - i ∧ i ≤ len ∧ CS wr w.heap.size w.heap.size x n q P R en ∧ n ≤ 65536 ∧ q ≤ 1048576 ∧ Below w.heap.size w wr)
  case atStart => exact ⟨0, 0, 0, fun _ => 0, fun _ => 0, false, rfl, rfl, by omega, ⟨none, 0, none, 0, none, 0, none, 0, HC3.out, HK3.out, HD.out⟩, by omega, by omega, HB3.out⟩
  case round =>
    obtain ⟨i, n, q, P, R, en, rfl, hk, hil, ⟨I, ci, O, co, J, cj, U, cu, hC, hK, hd⟩, hn, hq, hB⟩ := hrel
    have HC := Lib.hid hC
    have HKK := Lib.hid hK
    have HDD := Lib.hid hd
    have HB := Lib.hid hB
    have HK := Lib.hid hk
    clear hC hK hd hB hk
    by_cases hlt : i < len
    · obtain ⟨b, off, hA, hadB, hat⟩ := H0.out.2.2.2 (by omega)
      obtain ⟨e0, f0, e1, e2, f2, e3, f3, f4⟩ := (hat i hlt).below hadB HB.out
      subst hA
      clear hat
      have HF3 := Lib.hid f3
      clear f3
      go_wp2_with fail
      refine (cstep_any w.heap.size w.heap.size x n ci q co cj cu I O J U P R en wr HC.out HKK.out HDD.out HB.out.size hn hq (o i).x0 (o i).x1 (o i).x2 (o i).a3 (o i).l3 (o i).k3 (o i).y3 HF3.out f4).mono ?_
      rintro e w5 ⟨rfl, ⟨n', q', P', R', en', hS, b1, b2⟩, hB⟩
      have HS5 := Lib.hid hS
      have HB5 := Lib.hid (HB.out.trans hB)
      clear hS hB e0 e1 e2 e3
      go_wp2_with fail
      go_roundg (len - (i + 1))
      case measure => have := HK.out; omega
      case rel =>
        exact ⟨i + 1, n', q', P', R', en', by go_num, rfl, by omega, HS5.out, b1, b2, HB5.out⟩
    · obtain rfl : i = len := by omega
      go_wp2_with fail
      refine (cstep_any w.heap.size w.heap.size x n ci q co cj cu I O J U P R en wr HC.out HKK.out HDD.out HB.out.size hn hq 8 false 0 none 0 0 (fun _ => 0) ⟨Nat.le_refl _, by unfold maxLen; omega, fun _ => (show (Lit.int .u8 0).wf = true by decide), fun h => absurd h (by omega)⟩ (by simp)).mono ?_
      rintro e w5 ⟨rfl, _, hB⟩
      have HB5 := Lib.hid (HB.out.trans hB)
      clear hB
      go_wp2
      go_ret
      exact ⟨by first | rfl | simp, HB5.out⟩
end Go.Proofs.Ytmifomppnmhmpaa
