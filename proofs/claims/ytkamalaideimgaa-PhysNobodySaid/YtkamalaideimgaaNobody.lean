import Derived.Test.YtkamalaideimgaaLives
/- A nil memory: each call, and the walk of PhysNobody. -/
namespace Go.Proofs.Ytkamalaideimgaa
open Go.RowKit
set_option linter.unusedVariables false
attribute [local go_sem] szIs_lit row_at row_past row_alloc nf_alloc row_set nf_set row_cell nf_cell row_drew nf_drew row_drewN nf_drewN cell_setRow frozen_setRow nlt1 nlt2 nlt3 nlt4 nne1 nne2 nne3 nen1 nen2 nen3

theorem span_nil (a n : Int) (w : World) : Calls Try.prog 21 #[.pointer none, .int .i64 a, .int .i64 n] w fun e w' => e = .returned (.tuple #[.slice none 0 0, .int .i64 6]) ∧ w = w' := by
  go_enter Try.func21, Try.ntmps21
  go_wp2
  go_ret2
  exact ⟨by simp, rfl⟩
theorem word_nil (a : Int) (w : World) : Calls Try.prog 20 #[.pointer none, .int .i64 a] w fun e w' => e = .returned (.tuple #[.slice none 0 0, .int .i64 6]) ∧ w = w' := by
  have H0 := Lib.hid (span_nil a 4 w)
  go_enter Try.func20, Try.ntmps20
  go_wp2_with fail
  refine (H0.out).mono ?_; rintro e w' ⟨rfl, rfl⟩
  go_wp2
  go_ret2
  exact ⟨by simp, rfl⟩
theorem frame_nil (a : Int) (w : World) : Calls Try.prog 22 #[.pointer none, .int .i64 a] w fun e w' => e = .returned (.tuple #[.slice none 0 0, .int .i64 6]) ∧ w = w' := by
  have H0 := Lib.hid (fun x => span_nil x 256 w)
  go_enter Try.func22, Try.ntmps22
  go_wp2_with fail
  refine (H0.out _).mono ?_; rintro e w' ⟨rfl, rfl⟩
  go_wp2
  go_ret2
  exact ⟨by simp, rfl⟩
theorem clone_nil (w : World) : Calls Try.prog 23 #[.slice none 0 0] w fun e w' => e = .returned (.slice none 0 0) ∧ w = w' := by
  have he := fun w => Lib.run_eql_slice_nil (P := Try.prog) w 36 5 none 0 0 0 0 Try.underlying36
  go_enter Try.func23, Try.ntmps23
  go_wp2
  go_ret
  exact ⟨by simp, rfl⟩
theorem clear_nil (w : World) : (Builtin.clear_ #[36] 0 #[.slice none 0 0]).run Try.prog w = .ok (.tuple #[]) w := by
  simp [Builtin.clear_, run_underlying Try.underlying36]
theorem load8_nil (a : Int) (w : World) : Calls Try.prog 11 #[.pointer none, .int .i64 a] w fun e w' => e = .returned (.tuple #[.int .u8 0, .int .i64 6]) ∧ w = w' := by
  have H0 := Lib.hid (span_nil a 1 w)
  go_enter Try.func11, Try.ntmps11
  go_wp2_with fail
  refine (H0.out).mono ?_; rintro e w' ⟨rfl, rfl⟩
  go_wp2
  go_ret2
  exact ⟨by simp, rfl⟩
theorem load32_nil (a : Int) (w : World) : Calls Try.prog 10 #[.pointer none, .int .i64 a] w fun e w' => e = .returned (.tuple #[.int .u32 0, .int .i64 6]) ∧ w = w' := by
  have H0 := Lib.hid (word_nil a w)
  go_enter Try.func10, Try.ntmps10
  go_wp2_with fail
  refine (H0.out).mono ?_; rintro e w' ⟨rfl, rfl⟩
  go_wp2
  go_ret2
  exact ⟨by simp, rfl⟩
theorem store32_nil (a x : Int) (w : World) : Calls Try.prog 8 #[.pointer none, .int .i64 a, .int .u32 x] w fun e w' => e = .returned (.int .i64 6) ∧ w = w' := by
  have H0 := Lib.hid (word_nil a w)
  go_enter Try.func8, Try.ntmps8
  go_wp2_with fail
  refine (H0.out).mono ?_; rintro e w' ⟨rfl, rfl⟩
  go_wp2
  go_ret
  exact ⟨by simp, rfl⟩
theorem cas_nil (a x y : Int) (w : World) : Calls Try.prog 9 #[.pointer none, .int .i64 a, .int .u32 x, .int .u32 y] w fun e w' => e = .returned (.tuple #[.int .u32 0, .int .i64 6]) ∧ w = w' := by
  have H0 := Lib.hid (load32_nil a w)
  go_enter Try.func9, Try.ntmps9
  go_wp2_with fail
  refine (H0.out).mono ?_; rintro e w' ⟨rfl, rfl⟩
  go_wp2
  go_ret2
  exact ⟨by simp, rfl⟩
theorem read_nil (a n : Int) (w : World) : Calls Try.prog 13 #[.pointer none, .int .i64 a, .int .i64 n] w fun e w' => e = .returned (.tuple #[.slice none 0 0, .int .i64 6]) ∧ w = w' := by
  have H0 := Lib.hid (span_nil a n w)
  have H1 := Lib.hid (clone_nil w)
  go_enter Try.func13, Try.ntmps13
  go_wp2_with fail
  refine (H0.out).mono ?_; rintro e w' ⟨rfl, rfl⟩
  go_wp2_with fail
  refine (H1.out).mono ?_; rintro e w' ⟨rfl, rfl⟩
  go_wp2
  go_ret2
  exact ⟨by simp, rfl⟩
theorem frameb_nil (a : Int) (w : World) : Calls Try.prog 12 #[.pointer none, .int .i64 a] w fun e w' => e = .returned (.tuple #[.slice none 0 0, .int .i64 6]) ∧ w = w' := by
  have H0 := Lib.hid (frame_nil a w)
  have H1 := Lib.hid (clone_nil w)
  go_enter Try.func12, Try.ntmps12
  go_wp2_with fail
  refine (H0.out).mono ?_; rintro e w' ⟨rfl, rfl⟩
  go_wp2_with fail
  refine (H1.out).mono ?_; rintro e w' ⟨rfl, rfl⟩
  go_wp2
  go_ret2
  exact ⟨by simp, rfl⟩
theorem write_nil (a : Int) (sl : Option Addr) (len cap : Nat) (w : World) : Calls Try.prog 15 #[.pointer none, .int .i64 a, .slice sl len cap] w fun e w' => e = .returned (.int .i64 6) ∧ w = w' := by
  have H0 := Lib.hid (fun n => span_nil a n w)
  go_enter Try.func15, Try.ntmps15
  go_wp2_with fail
  refine (H0.out _).mono ?_; rintro e w' ⟨rfl, rfl⟩
  go_wp2
  go_ret
  exact ⟨by simp, rfl⟩
theorem zero_nil (a : Int) (w : World) : Calls Try.prog 16 #[.pointer none, .int .i64 a] w fun e w' => e = .returned (.int .i64 6) ∧ w = w' := by
  have H0 := Lib.hid (frame_nil a w)
  have hc := clear_nil
  go_enter Try.func16, Try.ntmps16
  go_wp2_with fail
  refine (H0.out).mono ?_; rintro e w' ⟨rfl, rfl⟩
  go_wp2
  go_ret
  exact ⟨by simp, rfl⟩
theorem copy_nil (a c : Int) (w : World) : Calls Try.prog 17 #[.pointer none, .int .i64 a, .int .i64 c] w fun e w' => e = .returned (.int .i64 6) ∧ w = w' := by
  have H0 := Lib.hid (frame_nil a w)
  go_enter Try.func17, Try.ntmps17
  go_wp2_with fail
  refine (H0.out).mono ?_; rintro e w' ⟨rfl, rfl⟩
  go_wp2
  go_ret
  exact ⟨by simp, rfl⟩
theorem frames_nil (w : World) : Calls Try.prog 18 #[.pointer none] w fun e w' => e = .returned (.int .i64 0) ∧ w = w' := by
  go_enter Try.func18, Try.ntmps18
  go_wp2
  go_ret
  exact ⟨by simp, rfl⟩
theorem fork_nil (w : World) : Calls Try.prog 19 #[.pointer none] w fun e w' => e = .returned (.pointer none) ∧ w = w' := by
  go_enter Try.func19, Try.ntmps19
  go_wp2
  go_ret
  exact ⟨by simp, rfl⟩
theorem store8_nil (a x : Int) (w : World) : Calls Try.prog 14 #[.pointer none, .int .i64 a, .int .u8 x] w fun e w' => e = .returned (.int .i64 6) ∧ Below w.heap.size w w' := by
  have H0 := Lib.hid (fun sl len cap w => write_nil a sl len cap w)
  go_enter Try.func14, Try.ntmps14
  go_wp2_with fail
  refine (H0.out _ _ _ _).mono ?_; rintro e w' ⟨rfl, rfl⟩
  go_wp2
  go_ret
  refine ⟨by simp, ?_⟩
  repeat (first | (with_reducible exact Below.refl _ _) | (with_reducible refine Below.alloc ?_ ?h _; (case h => (first | omega | (simp; done) | (simp; omega)))) | (with_reducible refine Below.drew ?_) | (with_reducible refine below_drewN ?_ _) | (with_reducible refine Below.setCell ?_ ?h _; (case h => (first | omega | (simp; done) | (simp; omega)))) | (with_reducible refine below_row ?_ ?h _; (case h => (first | omega | (simp; done) | (simp; omega)))))
set_option maxHeartbeats 2000000 in
set_option maxRecDepth 100000 in
theorem nobody_walk (a x : Int) (sl : Option Addr) (len cap : Nat) (w : World) : Calls Try.prog 5 #[.int .i64 a, .int .u32 x, .slice sl len cap] w fun e w' => e = .returned (.bool true) ∧ Below w.heap.size w w' := by
  have H1 := Lib.hid (load8_nil a w)
  have H2 := Lib.hid (load32_nil a w)
  have H3 := Lib.hid (cas_nil a x x w)
  have H4 := Lib.hid (read_nil a 1 w)
  have H5 := Lib.hid (frameb_nil a w)
  have HL := Lib.hid lives_true
  have H6 := Lib.hid (store8_nil a 1)
  have H7 := Lib.hid (store32_nil a x)
  have H8 := Lib.hid (write_nil a sl len cap)
  have H9 := Lib.hid (zero_nil a)
  have H10 := Lib.hid (copy_nil a a)
  have H11 := Lib.hid frames_nil
  have H12 := Lib.hid fork_nil
  go_enter Try.func5, Try.ntmps5
  go_wp2_with fail
  refine (H1.out).mono ?_; rintro e w' ⟨rfl, rfl⟩
  go_wp2_with fail
  refine (H2.out).mono ?_; rintro e w' ⟨rfl, rfl⟩
  go_wp2_with fail
  refine (H3.out).mono ?_; rintro e w' ⟨rfl, rfl⟩
  go_wp2_with fail
  refine (H4.out).mono ?_; rintro e w' ⟨rfl, rfl⟩
  go_wp2_with fail
  refine (H5.out).mono ?_; rintro e w' ⟨rfl, rfl⟩
  go_wp2_with fail
  refine (HL.out _).mono ?_; rintro e w1 ⟨rfl, bel1⟩
  have Hb1 := Lib.hid bel1
  clear bel1
  go_wp2_with fail
  refine (H6.out _).mono ?_; rintro e w2 ⟨rfl, bel2⟩
  have Hb2 := Lib.hid bel2
  clear bel2
  go_wp2_with fail
  refine (H7.out _).mono ?_; rintro e w' ⟨rfl, rfl⟩
  go_wp2_with fail
  refine (H8.out _).mono ?_; rintro e w' ⟨rfl, rfl⟩
  go_wp2_with fail
  refine (H9.out _).mono ?_; rintro e w' ⟨rfl, rfl⟩
  go_wp2_with fail
  refine (H10.out _).mono ?_; rintro e w' ⟨rfl, rfl⟩
  go_wp2_with fail
  refine (H11.out _).mono ?_; rintro e w' ⟨rfl, rfl⟩
  go_wp2_with fail
  refine (H12.out _).mono ?_; rintro e w' ⟨rfl, rfl⟩
  go_wp2
  go_ret
  exact ⟨by simp, Hb1.out.trans (Hb2.out.mono Hb1.out.size)⟩
end Go.Proofs.Ytkamalaideimgaa
