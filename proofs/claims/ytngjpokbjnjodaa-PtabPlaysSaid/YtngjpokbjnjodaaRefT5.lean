import Derived.Test.YtngjpokbjnjodaaRefT4
import Derived.Deep.QuietTactic
import Derived.BigQuiet
/- The reference table: May. -/
namespace Go.Proofs.Ytngjpokbjnjodaa
open Go.RowKit Go.BigFrame
set_option linter.unusedVariables false
set_option linter.unusedSimpArgs false
attribute [local go_sem] szIs_lit row_at row_past row_alloc nf_alloc row_set nf_set row_cell nf_cell row_drew nf_drew row_drewN nf_drewN cell_setRow frozen_setRow nlt1 nlt2 nlt3 nlt4 nne1 nne2 nne3 nen1 nen2 nen3
attribute [local go_sem] by_get by_set
section
variable {w w' : World} {x : Nat} {F root : Int} {sl : Value} {E : Nat → Int}
theorem rmay_zero (v : Value) (w : World) : Calls Try.prog 59 #[v, .int .u32 0] w fun r w' => r = .returned (.bool true) ∧ w = w' := by
  go_enter Try.func59, Try.ntmps59
  go_wp2
  go_ret
  exact ⟨by first | rfl | simp, rfl⟩
set_option maxRecDepth 20000 in
theorem rmay_1 (h : Blk w x (rrow F root sl E)) (e : Int) (x0 : 0 ≤ e) (x1 : e ≤ 4294967295) (hz : ¬ e = 0) (hf : e % 256 = 1) : Calls Try.prog 59 #[.pointer (some ⟨x, 0, none⟩), .int .u32 e] w fun r w' => r = .returned (.bool (decide (e / 256 < F))) ∧ ∃ n, w' = w.drewN n := by
  have c0 : w.cell? ⟨x, 0, none⟩ = some (.int .i64 F) := (h.all.2.2.1 0).trans (by unfold rrow; rw [List.getElem?_toArray]; rfl)
  have k1 : (e == 0) = false := by simpa using hz
  have k2 : (e % 256 == 1) = true := by simp [hf]
  have HFL := Lib.hid (rflags_ok e x0 x1 w)
  clear h hz hf
  generalize e % 256 = fl at *
  go_enter Try.func59, Try.ntmps59
  go_wp2_with fail
  refine HFL.out.mono ?_
  rintro r w' ⟨rfl, rfl⟩
  go_wp2_with fail
  go_quiet ((go_at_call 14; refine Calls.quiet_of_same ((rframe_ok e x0 x1 _).mono fun _ _ ⟨a, b⟩ => ⟨a, b.symm⟩)))
  go_wp2_with fail
  go_ret
  exact ⟨by first | rfl | simp, _, rfl⟩
set_option maxRecDepth 20000 in
theorem rmay_3 (h : Blk w x (rrow F root sl E)) (e : Int) (x0 : 0 ≤ e) (x1 : e ≤ 4294967295) (hz : ¬ e = 0) (hf : e % 256 = 3) : Calls Try.prog 59 #[.pointer (some ⟨x, 0, none⟩), .int .u32 e] w fun r w' => r = .returned (.bool (decide (e / 256 < F))) ∧ ∃ n, w' = w.drewN n := by
  have c0 : w.cell? ⟨x, 0, none⟩ = some (.int .i64 F) := (h.all.2.2.1 0).trans (by unfold rrow; rw [List.getElem?_toArray]; rfl)
  have k1 : (e == 0) = false := by simpa using hz
  have k2 : (e % 256 == 1) = false := by simp [hf]
  have k3 : (e % 256 == 3) = true := by simp [hf]
  have HFL := Lib.hid (rflags_ok e x0 x1 w)
  clear h hz hf
  generalize e % 256 = fl at *
  go_enter Try.func59, Try.ntmps59
  go_wp2_with fail
  refine HFL.out.mono ?_
  rintro r w' ⟨rfl, rfl⟩
  go_wp2_with fail
  go_quiet ((go_at_call 14; refine Calls.quiet_of_same ((rframe_ok e x0 x1 _).mono fun _ _ ⟨a, b⟩ => ⟨a, b.symm⟩)))
  go_wp2_with fail
  go_ret
  exact ⟨by first | rfl | simp, _, rfl⟩
set_option maxRecDepth 20000 in
theorem rmay_5 (h : Blk w x (rrow F root sl E)) (e : Int) (x0 : 0 ≤ e) (x1 : e ≤ 4294967295) (hz : ¬ e = 0) (hf : e % 256 = 5) : Calls Try.prog 59 #[.pointer (some ⟨x, 0, none⟩), .int .u32 e] w fun r w' => r = .returned (.bool (decide (e / 256 < F))) ∧ ∃ n, w' = w.drewN n := by
  have c0 : w.cell? ⟨x, 0, none⟩ = some (.int .i64 F) := (h.all.2.2.1 0).trans (by unfold rrow; rw [List.getElem?_toArray]; rfl)
  have k1 : (e == 0) = false := by simpa using hz
  have k2 : (e % 256 == 1) = false := by simp [hf]
  have k3 : (e % 256 == 3) = false := by simp [hf]
  have k4 : (e % 256 == 5) = true := by simp [hf]
  have HFL := Lib.hid (rflags_ok e x0 x1 w)
  clear h hz hf
  generalize e % 256 = fl at *
  go_enter Try.func59, Try.ntmps59
  go_wp2_with fail
  refine HFL.out.mono ?_
  rintro r w' ⟨rfl, rfl⟩
  go_wp2_with fail
  go_quiet ((go_at_call 14; refine Calls.quiet_of_same ((rframe_ok e x0 x1 _).mono fun _ _ ⟨a, b⟩ => ⟨a, b.symm⟩)))
  go_wp2_with fail
  go_ret
  exact ⟨by first | rfl | simp, _, rfl⟩
set_option maxRecDepth 20000 in
theorem rmay_no (h : Blk w x (rrow F root sl E)) (e : Int) (x0 : 0 ≤ e) (x1 : e ≤ 4294967295) (hz : ¬ e = 0) (hf : ¬ (e % 256 = 1 ∨ e % 256 = 3 ∨ e % 256 = 5)) : Calls Try.prog 59 #[.pointer (some ⟨x, 0, none⟩), .int .u32 e] w fun r w' => r = .returned (.bool (false)) ∧ ∃ n, w' = w.drewN n := by
  have c0 : w.cell? ⟨x, 0, none⟩ = some (.int .i64 F) := (h.all.2.2.1 0).trans (by unfold rrow; rw [List.getElem?_toArray]; rfl)
  have k1 : (e == 0) = false := by simpa using hz
  have k2 : (e % 256 == 1) = false := by
    have : ¬ e % 256 = 1 := by omega
    simpa using this
  have k3 : (e % 256 == 3) = false := by
    have : ¬ e % 256 = 3 := by omega
    simpa using this
  have k4 : (e % 256 == 5) = false := by
    have : ¬ e % 256 = 5 := by omega
    simpa using this
  have HFL := Lib.hid (rflags_ok e x0 x1 w)
  clear h hz hf
  generalize e % 256 = fl at *
  go_enter Try.func59, Try.ntmps59
  go_wp2_with fail
  refine HFL.out.mono ?_
  rintro r w' ⟨rfl, rfl⟩
  go_wp2_with fail
  go_quiet ((go_at_call 14; refine Calls.quiet_of_same ((rframe_ok e x0 x1 _).mono fun _ _ ⟨a, b⟩ => ⟨a, b.symm⟩)))
  go_wp2_with fail
  go_ret
  exact ⟨by first | rfl | simp, _, rfl⟩
end
end Go.Proofs.Ytngjpokbjnjodaa
