import Derived.Test.YtngjpokbjnjodaaStepP
/- The start of both tables. -/
namespace Go.Proofs.Ytngjpokbjnjodaa
open Go.RowKit Go.BigFrame
set_option linter.unusedVariables false
set_option linter.unusedSimpArgs false
attribute [local go_sem] szIs_lit row_at row_past row_alloc nf_alloc row_set nf_set row_cell nf_cell row_drew nf_drew row_drewN nf_drewN cell_setRow frozen_setRow nlt1 nlt2 nlt3 nlt4 nne1 nne2 nne3 nen1 nen2 nen3
attribute [local go_sem] by_get by_set
theorem new_no (k : Int) (h : ¬ (1 ≤ k ∧ k ≤ 4096)) (w : World) : Calls Try.prog 16 #[.int .i64 k] w fun r w' => r = .returned (.tuple #[.pointer none, .int .i64 1]) ∧ w = w' := by
  by_cases h1 : k < 1
  · clear h
    go_enter Try.func16, Try.ntmps16
    go_wp2
    go_ret2
    exact ⟨by first | rfl | simp, rfl⟩
  · have h2 : 1 ≤ k := by omega
    have h3 : 4096 < k := by omega
    clear h h1
    go_enter Try.func16, Try.ntmps16
    go_wp2
    go_ret2
    exact ⟨by first | rfl | simp, rfl⟩
theorem rnew_no (k : Int) (h : ¬ (1 ≤ k ∧ k ≤ 4096)) (w : World) : Calls Try.prog 17 #[.int .i64 k] w fun r w' => r = .returned (.tuple #[.pointer none, .int .i64 1]) ∧ w = w' := by
  by_cases h1 : k < 1
  · clear h
    go_enter Try.func17, Try.ntmps17
    go_wp2
    go_ret2
    exact ⟨by first | rfl | simp, rfl⟩
  · have h2 : 1 ≤ k := by omega
    have h3 : 4096 < k := by omega
    clear h h1
    go_enter Try.func17, Try.ntmps17
    go_wp2
    go_ret2
    exact ⟨by first | rfl | simp, rfl⟩
def St (w : World) (r : Ending) (w' : World) : Prop := (r = .returned (.tuple #[.pointer none, .bool true]) ∧ Below w.heap.size w w') ∨
  ∃ bb g b t x F root, r = .returned (.tuple #[.pointer (some ⟨bb, 0, none⟩), .bool true]) ∧ J2 w' w.heap.size bb g b t x F root (fun _ => none) (fun _ => 0) ∧ Below w.heap.size w w'
set_option maxHeartbeats 2000000 in
theorem start_bad (fr root : Int) (hf : ¬ (1 ≤ fr ∧ fr ≤ 4096)) (w : World) : Calls Try.prog 28 #[.int .i64 fr, .int .i64 root] w (St w) := by
  have H1 := Lib.hid (new_no fr hf)
  have H2 := Lib.hid (rnew_no fr hf)
  clear hf
  go_enter Try.func28, Try.ntmps28
  go_wp2_with fail
  refine (H1.out _).mono ?_
  rintro r w1 ⟨rfl, rfl⟩
  go_wp2_with fail
  refine (H2.out _).mono ?_
  rintro r w1 ⟨rfl, rfl⟩
  go_wp2_with fail
  refine (lives_ok w).mono ?_
  rintro r w1 ⟨rfl, hb1⟩
  go_wp2_with fail
  refine (newt_nil root w1).mono ?_
  rintro r w2 ⟨rfl, rfl⟩
  go_wp2_with fail
  go_ret2
  exact .inl ⟨by first | rfl | simp, hb1⟩
set_option maxHeartbeats 4000000 in
theorem start_good (k : Nat) (h1 : 1 ≤ k) (h2 : k ≤ 4096) (root : Int) (w : World) : Calls Try.prog 28 #[.int .i64 (k : Int), .int .i64 root] w (St w) := by
  have HK := Lib.hid (And.intro h1 h2)
  have H1 := Lib.hid (new_ok k h1 h2)
  have H2 := Lib.hid (rnew_ok k h1 h2)
  clear h1 h2
  go_enter Try.func28, Try.ntmps28
  go_wp2_with fail
  refine (H1.out _).mono ?_
  rintro r w1 ⟨g, b, rfl, q1, q2, q3, q4, q5, q6⟩
  have HM1 := Lib.hid (show MP w1 g b k (fun _ => 0) from ⟨q1, q2, HK.out, q5, bytes_zero 0⟩)
  have HB1 := Lib.hid q6
  have HQ := Lib.hid (And.intro q4 (And.intro q2.lt q1.lt))
  have HQ3 := Lib.hid q3
  clear q1 q2 q3 q4 q5 q6
  go_wp2_with fail
  refine (H2.out _).mono ?_
  rintro r w2 ⟨g2, b2, rfl, -, -, -, -, -, q6⟩
  have HM2 := Lib.hid (HM1.out.below q6)
  have HB2 := Lib.hid (HB1.out.trans (Below.mono q6 HB1.out.size))
  have HS2 := Lib.hid q6.size
  clear q6 HM1 HB1
  go_wp2_with fail
  refine (lives_ok w2).mono ?_
  rintro r w3 ⟨rfl, q6⟩
  have HM3 := Lib.hid (HM2.out.below q6)
  have HB3 := Lib.hid (HB2.out.trans (Below.mono q6 HB2.out.size))
  have HS3 := Lib.hid (Nat.le_trans HS2.out q6.size)
  clear q6 HM2 HB2 HS2
  by_cases hr : 0 ≤ root ∧ root < (k : Int)
  · obtain ⟨rt, rfl⟩ := Int.eq_ofNat_of_zero_le hr.1
    have hrk : rt < k := by omega
    have HR := Lib.hid hrk
    have HT := Lib.hid (newt_ok HM3.out rt hrk)
    have HX := Lib.hid (rnewt_ok (k : Int) (rt : Int) hr.1 hr.2)
    clear hr hrk
    go_wp2_with fail
    refine HT.out.mono ?_
    rintro r w4 ⟨t, rfl, q1, q2, q3, q4⟩
    have HT4 := Lib.hid (show TS w4 g b k t rt (fun _ => none) (fun _ => 0) from ⟨⟨_, q1, TB.zero _ _ _⟩, q2, by have := HQ.out.2.1; have := HS3.out; omega, HR.out⟩)
    have HB4 := Lib.hid (below_only HB3.out q4 HQ.out.1 HB3.out.size)
    have HS4 := Lib.hid (Nat.le_trans HS3.out q4.size)
    have HTL := Lib.hid q2.lt
    clear q1 q2 q3 q4 HT HM3 HB3 HS3
    go_wp2_with fail
    refine (HX.out _).mono ?_
    rintro r w5 ⟨⟨x, rfl, q1, q2⟩, q6⟩
    have HT5 := Lib.hid (HT4.out.below q6)
    have HB5 := Lib.hid (HB4.out.trans (Below.mono q6 HB4.out.size))
    have HX5 := Lib.hid (And.intro q1 q2)
    have HS5 := Lib.hid q6.size
    clear q1 q2 q6 HX
    go_wp2_with fail
    go_ret2
    refine .inr ⟨w5.heap.size, g, b, t, x, k, rt, by first | rfl | simp, ⟨?_, ?_, ⟨none, 0, ?_, Rw.nil _ _ _, by simp [blkOf]⟩, ?_, ?_, ?_, ?_, ?_, HQ.out.1, ?_, fun _ => ⟨Int.le_refl _, by decide⟩⟩, HB5.out.alloc HB5.out.size _⟩
    · exact Blk.of_heap (heap_at rfl)
    · exact HT5.out.below ((Below.refl _ _).alloc (Nat.le_refl _) _)
    · exact HX5.out.1.below ((Below.refl _ _).alloc (Nat.le_refl _) _) HX5.out.1.lt
    · have := HQ.out.2.1; have := HS4.out; have := HS5.out; omega
    · have := HX5.out.1.lt; omega
    · have := HQ.out.2.1; have := HS4.out; have := HX5.out.2; omega
    · have := HTL.out; have := HX5.out.2; omega
    · have := HQ.out.2.2; have := HS4.out; have := HX5.out.2; omega
    · have := HX5.out.2; have := HB4.out.size; omega
  · have HT := Lib.hid (newt_no HM3.out root hr)
    have HX := Lib.hid (rnewt_no (k : Int) root hr)
    clear hr
    go_wp2_with fail
    refine HT.out.mono ?_
    rintro r w4 ⟨rfl, rfl⟩
    go_wp2_with fail
    refine (HX.out _).mono ?_
    rintro r w5 ⟨rfl, rfl⟩
    go_wp2_with fail
    go_ret2
    exact .inl ⟨by first | rfl | simp, HB3.out⟩
theorem start_ok (fr root : Int) (w : World) : Calls Try.prog 28 #[.int .i64 fr, .int .i64 root] w (St w) := by
  by_cases h : 1 ≤ fr ∧ fr ≤ 4096
  · obtain ⟨k, rfl⟩ := Int.eq_ofNat_of_zero_le (show 0 ≤ fr by omega)
    exact start_good k (by omega) (by omega) root w
  · exact start_bad fr root h w
end Go.Proofs.Ytngjpokbjnjodaa
