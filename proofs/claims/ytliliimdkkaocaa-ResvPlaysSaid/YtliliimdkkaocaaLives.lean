import Derived.Test.YtliliimdkkaocaaHeap
/- lives. -/
namespace Go.Proofs.Ytliliimdkkaocaa
open Go.RowKit
set_option linter.unusedVariables false
set_option linter.unusedSimpArgs false
attribute [local go_sem] szIs_lit row_at row_past row_alloc nf_alloc row_set nf_set row_cell nf_cell row_drew nf_drew row_drewN nf_drewN cell_setRow frozen_setRow nlt1 nlt2 nlt3 nlt4 nne1 nne2 nne3 nen1 nen2 nen3

def LV1 : List Seat := [⟨1, 60, 0, false⟩]
def LV2 : List Seat := [⟨1, 60, 0, false⟩, ⟨2, 50, 0, true⟩]
def LV3 : List Seat := [⟨1, 60, 0, false⟩, ⟨2, 50, 0, true⟩, ⟨3, 10, 0, true⟩]
def LV4 : List Seat := [⟨1, 20, 40, false⟩, ⟨2, 50, 0, true⟩, ⟨3, 10, 0, true⟩]
def LV5 : List Seat := [⟨2, 50, 0, false⟩, ⟨3, 10, 0, false⟩]
theorem lv1 : ent 100 0 [] 1 60 = (true, 0, LV1) := by decide
theorem lv2 : ent 100 0 LV1 2 50 = (false, 0, LV2) := by decide
theorem lv3 : ent 100 0 LV2 3 10 = (false, 0, LV3) := by decide
theorem lv4 : tak 0 LV3 1 40 = (0, 40, LV4) := by decide
theorem lv5 : lea 100 40 LV4 1 = ([2, 3], 0, LV5) := by decide
theorem wf0 (n : Int) (h1 : 1 ≤ n) (h2 : n ≤ 1073741824) : WF n 0 [] := ⟨h1, h2, Int.le_refl _, by simp [res]; omega, by simp, by simp⟩
set_option maxRecDepth 20000 in
set_option maxHeartbeats 2000000 in
theorem lives_ok (w : World) : Calls Try.prog 11 #[] w fun e w' => e = .returned (.bool true) ∧ Below w.heap.size w w' := by
  have HN := Lib.hid (new_ok 100 w (by omega) (by omega))
  have hw0 := wf0 100 (by omega) (by omega)
  have hw1 := hw0.ent 1 60
  rw [lv1] at hw1
  have hw2 := hw1.ent 2 50
  rw [lv2] at hw2
  have hw3 := hw2.ent 3 10
  rw [lv3] at hw3
  have hw4 := hw3.tak 1 40
  rw [lv4] at hw4
  have hw5 := hw4.lea 1
  rw [lv5] at hw5
  have HW0 := Lib.hid hw0
  have HW1 := Lib.hid hw1
  have HW2 := Lib.hid hw2
  have HW3 := Lib.hid hw3
  have HW4 := Lib.hid hw4
  have HW5 := Lib.hid hw5
  clear hw0 hw1 hw2 hw3 hw4 hw5
  go_enter Try.func11, Try.ntmps11
  go_wp2_with fail
  refine HN.out.mono ?_
  rintro e w0 ⟨rfl, hG, hB⟩
  have HB0 := Lib.hid hB
  have HG0 := Lib.hid hG
  have HZ0 := Lib.hid hB.size
  have HE := Lib.hid (enter_ok _ _ _ _ _ _ _ w0 hG HW0.out HZ0.out 1 60)
  rw [lv1] at HE
  clear hB hG
  go_wp2_with fail
  refine HE.out.mono ?_
  rintro e w1 ⟨A1, c1, rfl, hG, hF⟩
  have HF1 := Lib.hid hF
  have HZ1 := Lib.hid (Nat.le_trans HZ0.out hF.size)
  clear HE
  have HE := Lib.hid (enter_ok _ _ _ _ _ _ _ w1 hG HW1.out HZ1.out 2 50)
  rw [lv2] at HE
  have HG1 := Lib.hid hG
  clear hG hF
  go_wp2_with fail
  refine HE.out.mono ?_
  rintro e w2 ⟨A2, c2, rfl, hG, hF⟩
  have HF2 := Lib.hid (HF1.out.trans hF)
  have HZ2 := Lib.hid (Nat.le_trans HZ1.out hF.size)
  clear HE
  have HE := Lib.hid (enter_ok _ _ _ _ _ _ _ w2 hG HW2.out HZ2.out 3 10)
  rw [lv3] at HE
  have HG2 := Lib.hid hG
  clear hG hF
  go_wp2_with fail
  refine HE.out.mono ?_
  rintro e w3 ⟨A3, c3, rfl, hG, hF⟩
  have HF3 := Lib.hid (HF2.out.trans hF)
  have HZ3 := Lib.hid (Nat.le_trans HZ2.out hF.size)
  clear HE
  have HE := Lib.hid (take_ok _ _ _ _ _ _ _ w3 hG HW3.out HZ3.out 1 40)
  rw [lv4] at HE
  have HG3 := Lib.hid hG
  clear hG hF
  go_wp2_with fail
  refine HE.out.mono ?_
  rintro e w4 ⟨A4, c4, rfl, hG, hF⟩
  have HF4 := Lib.hid (HF3.out.trans hF)
  have HZ4 := Lib.hid (Nat.le_trans HZ3.out hF.size)
  clear HE
  have HE := Lib.hid (leave_ok _ _ _ _ _ _ _ w4 hG HW4.out HZ4.out 1)
  rw [lv5] at HE
  have HG4 := Lib.hid hG
  clear hG hF
  go_wp2_with fail
  refine HE.out.mono ?_
  rintro e w5 ⟨A5, c5, O, co, rfl, hO, hG, hF⟩
  have HF5 := Lib.hid (HF4.out.trans hF)
  have HZ5 := Lib.hid (Nat.le_trans HZ4.out hF.size)
  have HH := Lib.hid (heap_ok _ _ _ _ _ _ _ w5 hG HW5.out)
  have hres : res LV5 = 60 := by decide
  rw [hres] at HH
  obtain ⟨bo, hbo, hco⟩ := hO.cells (by decide)
  subst hbo
  have o0 : w5.cell? ⟨bo, 0, none⟩ = some (.int .i64 2) := hco 0 (by decide)
  have o1 : w5.cell? ⟨bo, 1, none⟩ = some (.int .i64 3) := hco 1 (by decide)
  clear hO hG hF hco hres HE
  go_wp2_with fail
  refine HH.out.mono ?_
  rintro e w6 ⟨rfl, hB⟩
  unfold heapV
  have HB6 := Lib.hid ((HB0.out.trans (HF5.out.below HG0.out HZ0.out)).trans (hB.mono HZ5.out))
  clear hB
  go_wp2
  go_ret
  exact ⟨by first | rfl | simp, HB6.out⟩
end Go.Proofs.Ytliliimdkkaocaa
