import Derived.Test.YtngjpokbjnjodaaStart
import Derived.Test.YtngjpokbjnjodaaStepW
import Derived.Test.YtngjpokbjnjodaaStandW
import Derived.Test.YtngjpokbjnjodaaKit
import Derived.Deep.LoopGhost
import Derived.OpenShut
/- The walk of PtabPlays. -/
namespace Go.Proofs.Ytngjpokbjnjodaa
open Go.RowKit Go.BigFrame
set_option linter.unusedVariables false
set_option linter.unusedSimpArgs false
attribute [local go_sem] szIs_lit row_at row_past row_alloc nf_alloc row_set nf_set row_cell nf_cell row_drew nf_drew row_drewN nf_drewN cell_setRow frozen_setRow nlt1 nlt2 nlt3 nlt4 nne1 nne2 nne3 nen1 nen2 nen3
attribute [local go_sem] by_get by_set
set_option maxHeartbeats 4000000 in
set_option maxRecDepth 100000 in
theorem plays_walk (fr root : Int) (A : Option Addr) (len cap : Nat) (o : Nat → OpV) (w : World) (hN : AreOp w w.heap.size A len cap o) :
    Calls Try.prog 7 #[.int .i64 fr, .int .i64 root, .slice A len cap] w fun r w' => r = .returned (.bool true) ∧ Below w.heap.size w w' := by
  have hlen : len ≤ 70368744177664 := by have := hN.2.2.1; unfold reachBytes at this; omega
  have HA := Lib.hid hN
  clear hN
  go_enter Try.func7, Try.ntmps7
  go_wp2_with fail
  refine (start_ok fr root w).mono ?_
  rintro r w1 (⟨rfl, hb⟩ | ⟨bb, g, b, t, x, F, rt, rfl, hj, hb⟩)
  · go_wp2_with fail
    go_ret
    exact ⟨by first | rfl | simp, hb⟩
  · have HJ := Lib.hid hj
    have HB := Lib.hid hb
    clear hj hb
    go_wp2_with fail
    go_loopg [9] len (fun k i_ wr => ∃ (j : Nat) (L : Nat → Option Nat) (E : Nat → Int), i_ = .int .i64 (j : Int) ∧ k = len - j ∧ j ≤ len ∧ J2 wr w.heap.size bb g b t x F rt L E ∧ Below w.heap.size w wr)
    case atStart => exact ⟨0, _, _, rfl, rfl, by omega, HJ.out, HB.out⟩
    case round =>
      obtain ⟨j, L, E, rfl, hk, hj, hjj, hb⟩ := hrel
      have HK := Lib.hid hk
      have HJ2 := Lib.hid hjj
      have HB2 := Lib.hid hb
      clear hk hjj hb
      by_cases hlt : j < len
      · obtain ⟨ab, off, rfl, hab, hat⟩ := HA.out.2.2.2 (by omega)
        have hi := (hat j hlt).below hab HB2.out
        obtain ⟨i0, -, i1, -, i2, i3, i4, -, i5, i6, i7⟩ := hi
        have HST := Lib.hid (step_ok HB2.out.size HJ2.out (o j).x0 (o j).x1 (o j).x2 (o j).x3 (o j).x4 (o j).x5 (Go.bounds_u32 i3) (Go.bounds_u32 i6) (fun u hu => stands_ok hu (o j).x1))
        unfold opC at HST
        clear i3 i6 hat
        generalize (o j).x0 = y0 at *
        generalize (o j).x1 = y1 at *
        generalize (o j).x2 = y2 at *
        generalize (o j).x3 = y3 at *
        generalize (o j).x4 = y4 at *
        generalize (o j).x5 = y5 at *
        go_wp2_with fail
        refine HST.out.mono ?_
        rintro r w2 ⟨rfl, ⟨L', E', hj2⟩, hb2⟩
        have HJ3 := Lib.hid hj2
        have HB3 := Lib.hid (HB2.out.trans hb2)
        clear hj2 hb2 i0 i1 i2 i4 i5 i7
        go_wp2_with fail
        go_roundg (len - (j + 1))
        case measure => have := HK.out; omega
        case rel => exact ⟨j + 1, L', E', by go_num, rfl, by omega, HJ3.out, HB3.out⟩
      · obtain rfl : j = len := by omega
        go_wp2_with fail
        refine (stands_ok HJ2.out 1).mono ?_
        rintro r w2 ⟨rfl, hb2⟩
        have HB3 := Lib.hid (HB2.out.trans (Below.mono hb2 HB2.out.size))
        clear hb2
        go_wp2_with fail
        go_ret
        exact ⟨by first | rfl | simp, HB3.out⟩
end Go.Proofs.Ytngjpokbjnjodaa
