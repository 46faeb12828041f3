import Derived.Test.YtngjpokbjnjodaaTab4
import Derived.Deep.QuietTactic
import Derived.BigQuiet
/- lives. -/
namespace Go.Proofs.Ytngjpokbjnjodaa
open Go.RowKit Go.BigFrame
set_option linter.unusedVariables false
set_option linter.unusedSimpArgs false
attribute [local go_sem] szIs_lit row_at row_past row_alloc nf_alloc row_set nf_set row_cell nf_cell row_drew nf_drew row_drewN nf_drewN cell_setRow frozen_setRow nlt1 nlt2 nlt3 nlt4 nne1 nne2 nne3 nen1 nen2 nen3
attribute [local go_sem] by_get by_set
theorem below_grown {B b : Nat} {a w w' : World} (h : Below B a w) (h2 : w.grownBy w' (some b)) (hb : B ≤ b) (hB : B ≤ w.heap.size) : Below B a w' := below_only h h2 hb hB
def z0 : Nat → Int := zf (fun _ => 0) 512 256
def m1 : Nat → Int := growM z0 2 65 4
def m2 : Nat → Int := putM m1 2 65 2307
theorem feq (x : Nat) (w : World) : (binOp .eql 48 (.func (.func 48) #[] #[.pointer (some ⟨x, 0, none⟩)]) .nilFunc).run Try.prog w = .ok (.bool false) w := by kernel_rfl
theorem l1a : hasL z0 20 2 65 = false := by decide
theorem l1b : hasL m1 20 2 65 = true := by decide
theorem l1c : leafF m1 2 65 = 4 := by decide
theorem l2a : wlk m2 20 2 65 = 2307 := by
  have h1 : m2 = st32 m1 1028 2307 4 := by unfold m2 putM; rw [l1c]
  have h2 : le32 m2 1028 = 2307 := by rw [h1]; exact le32_st _ _ _ (by omega) (by omega)
  have h3 : hasL m2 20 2 65 = true := by rw [h1]; decide
  have h4 : leafF m2 2 65 = 4 := by rw [h1]; decide
  unfold wlk
  rw [h3, h4]
  exact h2
set_option maxHeartbeats 2000000 in
set_option maxRecDepth 20000 in
theorem lives_ok (w : World) : Calls Try.prog 10 #[] w fun r w' => r = .returned (.bool true) ∧ Below w.heap.size w w' := by
  have HN := Lib.hid (new_ok 20 (by omega) (by omega) w)
  go_enter Try.func10, Try.ntmps10
  go_wp2_with fail
  refine HN.out.mono ?_
  rintro r w1 ⟨g, b, rfl, q1, q2, q3, q4, q5, q6⟩
  have hm : MP w1 g b 20 (fun _ => 0) := ⟨q1, q2, by omega, q5, bytes_zero 0⟩
  have HNT := Lib.hid (newt_ok hm 2 (by omega))
  have HB1 := Lib.hid q6
  have HQ := Lib.hid (And.intro q4 q2.lt)
  clear q1 q2 q3 q4 q5 q6 hm HN
  go_wp2_with fail
  refine HNT.out.mono ?_
  rintro r w2 ⟨t, rfl, q1, q2, q3, q4⟩
  have q1 : MP w2 g b 20 z0 := q1
  have HB2 := Lib.hid (below_grown HB1.out q4 HQ.out.1 HB1.out.size)
  have HM2 := Lib.hid q1
  have HT2 := Lib.hid q2
  have HNE := Lib.hid (show t ≠ b by have := HQ.out.2; omega)
  have HA := Lib.hid (all_ok t w2)
  clear q1 q2 q3 q4 HNT
  go_wp2_with fail
  refine HA.out.mono ?_
  rintro r w3 ⟨⟨x, rfl, -, -⟩, hb3⟩
  have HB3 := Lib.hid (HB2.out.trans (Below.mono hb3 HB2.out.size))
  have hs : Calls Try.prog 23 #[.pointer (some ⟨t, 0, none⟩), .int .i64 65, .int .u32 2307, .int .i64 4] w3 fun r w' => r = .returned (.tuple #[.bool true, .int .i64 0]) ∧ MP w' g b 20 m2 ∧ Blk w' t (tabS g 2) ∧ w3.grownBy w' (some b) := set_grow (HM2.out.below hb3) (HT2.out.below hb3 HT2.out.lt) HNE.out (by omega) 65 4 2307 (by omega) (by omega) (by omega) (by decide) l1a (by omega) l1b
  obtain ⟨mm, hmm⟩ : ∃ mm, mm = m2 := ⟨_, rfl⟩
  rw [← hmm] at hs
  have hl2 : wlk mm 20 2 65 = 2307 := by rw [hmm]; exact l2a
  have HL2 := Lib.hid hl2
  clear hmm hl2
  have HS := Lib.hid hs
  have hfe := feq x w3
  clear hb3 hs HA HM2 HT2
  go_wp2_with fail
  refine (pack_ok 9 3 (by omega) (by omega) (by omega) (by omega) w3).mono ?_
  rintro r w' ⟨rfl, rfl⟩
  go_wp2_with fail
  refine HS.out.mono ?_
  rintro r w4 ⟨rfl, q1, q2, q3⟩
  have HB4 := Lib.hid (below_grown HB3.out q3 HQ.out.1 HB3.out.size)
  have HTR := Lib.hid (trans_2307 q1 q2 (by omega) HL2.out)
  have HM4 := Lib.hid q1
  clear q1 q2 q3 HS
  go_wp2_with fail
  refine HTR.out.mono ?_
  rintro r w5 ⟨rfl, hb5⟩
  have HB5 := Lib.hid (HB4.out.trans (Below.mono hb5 HB4.out.size))
  have hw := walk_ok (HM4.out.below hb5) 2 65 (by omega) (by omega)
  rw [HL2.out] at hw
  have HW := Lib.hid hw
  clear hb5 hw HTR HM4
  go_wp2_with fail
  refine HW.out.mono ?_
  rintro r w6 ⟨rfl, hb6⟩
  have HB6 := Lib.hid (HB5.out.trans (Below.mono hb6 HB5.out.size))
  clear hb6
  go_wp2
  go_ret
  exact ⟨by first | rfl | simp, HB6.out⟩
end Go.Proofs.Ytngjpokbjnjodaa
