import Derived.Test.YtmifomppnmhmpaaStep
/- PipePlays. -/
namespace Go.Proofs.Ytmifomppnmhmpaa
open Go.RowKit
set_option linter.unusedVariables false
set_option linter.unusedSimpArgs false
attribute [local go_sem] szIs_lit row_at row_past row_alloc nf_alloc row_set nf_set row_cell nf_cell row_drew nf_drew row_drewN nf_drewN cell_setRow frozen_setRow nlt1 nlt2 nlt3 nlt4 nne1 nne2 nne3 nen1 nen2 nen3
attribute [local go_sem] rg_setf rg_setn rg_setm

set_option maxRecDepth 100000 in
set_option maxHeartbeats 2000000 in
theorem plays_walk (A : Option Addr) (len cap : Nat) (o : Nat → OpV) (w : World) (hO : AreOp w w.heap.size A len cap o) (hsm : len ≤ 1048576) :
    Calls Try.prog 6 #[.slice A len cap] w fun e w' => e = .returned (.bool true) ∧ Below w.heap.size w w' := by
  have hlc : len ≤ cap := hO.1
  have hcm : cap ≤ 9223372036854775807 := hO.2.1
  have H0 := Lib.hid hO
  clear hO
  go_enter Try.func6, Try.ntmps6
  go_wp2_with fail
  refine (new_ok _).mono ?_
  rintro e w1 ⟨g, m, rfl, hg, hm, hP, hB⟩
  have HP1 := Lib.hid hP
  have HB1 := Lib.hid hB
  clear hP hB
  go_wp2_with fail
  refine (rnew _).mono ?_
  rintro e w2 ⟨rfl, hX, hB⟩
  obtain ⟨gl, ml⟩ := HP1.out.lt
  have HP2 := Lib.hid (HP1.out.below hB gl ml)
  have HX2 := Lib.hid (show RefA w2 w.heap.size w1.heap.size g m none 0 0 (fun _ => 0) 1 1 from ⟨hX, Own.nil _ _ _ _, HB1.out.size, by omega, by omega, fun k e => by cases e⟩)
  have HB2 := Lib.hid (HB1.out.trans (hB.mono HB1.out.size))
  clear hB hX HP1 HB1
  generalize w1.heap.size = x at *
  go_wp2_with fail
  refine (lives_ok _).mono ?_
  rintro e w3 ⟨rfl, hB⟩
  have HP3 := Lib.hid (HP2.out.below hB HP2.out.lt.1 HP2.out.lt.2)
  have HX3 := Lib.hid (HX2.out.below hB)
  have HB3 := Lib.hid (HB2.out.trans (hB.mono HB2.out.size))
  clear hB HP2 HX2 HB2
  go_wp2_with fail
  go_loopg [5] len (fun k i_ wr => ∃ (i n c : Nat) (A' : Option Addr) (Q : Nat → Int) (r s : Int), i_ = .int .i64 (i : Int) ∧ k = len - i ∧ i ≤ len ∧ PipeAt wr g m Q n r s ∧ RefA wr w.heap.size x g m A' n c Q r s ∧ 0 ≤ r ∧ r ≤ i + 1 ∧ 0 ≤ s ∧ s ≤ i + 1 ∧ Below w.heap.size w wr)
  case atStart => exact ⟨0, 0, 0, none, fun _ => 0, 1, 1, rfl, rfl, by omega, HP3.out, HX3.out, by omega, by omega, by omega, by omega, HB3.out⟩
  case round =>
    obtain ⟨i, n, c, A', Q, r, s, rfl, hk, hil, hP, hX, hr0, hr1, hs0, hs1, hB⟩ := hrel
    have HP := Lib.hid hP
    have HX := Lib.hid hX
    have HB := Lib.hid hB
    have HK := Lib.hid hk
    clear hP hX hB hk
    by_cases hlt : i < len
    · obtain ⟨b, off, hA, hadB, hat⟩ := H0.out.2.2.2 (by omega)
      obtain ⟨e0, f0, e1, e2, f2, e3, f3, f4⟩ := (hat i hlt).below hadB HB.out
      subst hA
      clear hat
      have HF3 := Lib.hid f3
      clear f3
      go_wp2_with fail
      refine (step_any w.heap.size g m x n c A' Q r s wr HP.out HX.out hg hm HB.out.size hr0 (by omega) hs0 (by omega) (o i).x0 (o i).x1 (o i).x2 (o i).a3 (o i).l3 (o i).k3 (o i).y3 HF3.out f4).mono ?_
      rintro e w5 ⟨rfl, ⟨n', Q', r', s', A2, c2, hP, hX, b1, b2, b3, b4⟩, hB⟩
      have HP5 := Lib.hid hP
      have HX5 := Lib.hid hX
      have HB5 := Lib.hid (HB.out.trans hB)
      clear hP hX hB e0 e1 e2 e3
      go_wp2_with fail
      go_roundg (len - (i + 1))
      case measure => have := HK.out; omega
      case rel =>
        exact ⟨i + 1, n', c2, A2, Q', r', s', by go_num, rfl, by omega, HP5.out, HX5.out, b1, by omega, b3, by omega, HB5.out⟩
    · obtain rfl : i = len := by omega
      go_wp2_with fail
      refine (step_any w.heap.size g m x n c A' Q r s wr HP.out HX.out hg hm HB.out.size hr0 (by omega) hs0 (by omega) 8 false 0 none 0 0 (fun _ => 0) ⟨Nat.le_refl _, by unfold maxLen; omega, fun _ => (show (Lit.int .u8 0).wf = true by decide), fun h => absurd h (by omega)⟩ (by simp)).mono ?_
      rintro e w5 ⟨rfl, _, hB⟩
      have HB5 := Lib.hid (HB.out.trans hB)
      clear hB
      go_wp2
      go_ret
      exact ⟨by first | rfl | simp, HB5.out⟩
end Go.Proofs.Ytmifomppnmhmpaa
