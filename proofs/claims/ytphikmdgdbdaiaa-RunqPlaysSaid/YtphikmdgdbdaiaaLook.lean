import Derived.Test.YtphikmdgdbdaiaaRep
import Derived.Outline
/- is, long, Running, Idle, Where. -/
namespace Go.Proofs.Ytphikmdgdbdaiaa
open Go.RowKit Go.BigFrame
set_option linter.unusedVariables false
set_option linter.unusedSimpArgs false
attribute [local go_sem] szIs_lit row_at row_past row_alloc nf_alloc row_set nf_set row_cell nf_cell row_drew nf_drew row_drewN nf_drewN cell_setRow frozen_setRow nlt1 nlt2 nlt3 nlt4 nne1 nne2 nne3 nen1 nen2 nen3
theorem ret_int {k : IntKind} {a b : Int} (h : a = b) : Ending.returned (.int k a) = .returned (.int k b) := by rw [h]
section
variable {w : World} {a : QA} {S : QS}
theorem is_nil (h : Int) (w : World) : Calls Try.prog 24 #[.pointer none, .int .i64 h] w fun e w' => e = .returned (.bool false) ∧ w = w' := by
  go_enter Try.func24, Try.ntmps24
  go_wp2
  go_ret
  exact ⟨by first | rfl | simp, rfl⟩
theorem is_yes (H : QR w a S) (h : Nat) (hh : h < S.n) : Calls Try.prog 24 #[.pointer (some ⟨a.g, 0, none⟩), .int .i64 (h : Int)] w fun e w' => e = .returned (.bool true) ∧ w = w' := by
  have c0 := H.cells.1
  clear H
  go_enter Try.func24, Try.ntmps24
  go_wp2
  go_ret
  exact ⟨by first | rfl | simp, rfl⟩
theorem is_no (H : QR w a S) (h : Int) (hh : ¬ (0 ≤ h ∧ h < S.n)) : Calls Try.prog 24 #[.pointer (some ⟨a.g, 0, none⟩), .int .i64 h] w fun e w' => e = .returned (.bool false) ∧ w = w' := by
  have c0 := H.cells.1
  by_cases h0 : 0 ≤ h
  · have h1 : ¬ h < S.n := fun q => hh ⟨h0, q⟩
    have h1' : decide (h < (S.n : Int)) = false := by simpa using h1
    clear H hh h1
    go_enter Try.func24, Try.ntmps24
    go_wp2
    go_ret
    exact ⟨by first | rfl | simp, rfl⟩
  · have h0' : decide (h ≥ 0) = false := by simpa using h0
    clear H hh h0
    go_enter Try.func24, Try.ntmps24
    go_wp2
    go_ret
    exact ⟨by first | rfl | simp, rfl⟩
def longS (S : QS) (h : Nat) : Int := (S.Q h).length + if 0 < S.R h then 1 else 0
theorem long_any (H : QR w a S) (h : Nat) (hh : h < 8) (hlen : (S.Q h).length ≤ 1000) : Calls Try.prog 28 #[.pointer (some ⟨a.g, 0, none⟩), .int .i64 (h : Int)] w fun e w' => e = .returned (.int .i64 (longS S h)) ∧ w = w' := by
  have c1 := H.runs hh
  have c2 := H.queue hh
  clear H
  by_cases hr : 0 < S.R h
  · have HL := Lib.hid (show longS S h = (S.Q h).length + 1 by unfold longS; rw [if_pos hr])
    go_enter Try.func28, Try.ntmps28
    go_wp2
    go_ret
    exact ⟨ret_int HL.out.symm, rfl⟩
  · have HL := Lib.hid (show longS S h = (S.Q h).length by unfold longS; rw [if_neg hr]; simp)
    go_enter Try.func28, Try.ntmps28
    go_wp2
    go_ret
    exact ⟨ret_int HL.out.symm, rfl⟩
theorem running_nil (h : Int) (w : World) : Calls Try.prog 15 #[.pointer none, .int .i64 h] w fun e w' => e = .returned (.int .i64 0) ∧ w = w' := by
  go_enter Try.func15, Try.ntmps15
  go_wp2_with fail
  refine (is_nil h w).mono ?_
  rintro e w' ⟨rfl, rfl⟩
  go_wp2
  go_ret
  exact ⟨by first | rfl | simp, rfl⟩
theorem running_yes (H : QR w a S) (h : Nat) (hh : h < S.n) : Calls Try.prog 15 #[.pointer (some ⟨a.g, 0, none⟩), .int .i64 (h : Int)] w fun e w' => e = .returned (.int .i64 (S.R h)) ∧ w = w' := by
  have h8 : h < 8 := Nat.lt_of_lt_of_le hh H.n8
  have HI := Lib.hid (is_yes H h hh)
  have c1 := H.runs h8
  clear H hh
  go_enter Try.func15, Try.ntmps15
  go_wp2_with fail
  refine HI.out.mono ?_
  rintro e w' ⟨rfl, rfl⟩
  go_wp2
  go_ret
  exact ⟨by first | rfl | simp, rfl⟩
theorem running_no (H : QR w a S) (h : Int) (hh : ¬ (0 ≤ h ∧ h < S.n)) : Calls Try.prog 15 #[.pointer (some ⟨a.g, 0, none⟩), .int .i64 h] w fun e w' => e = .returned (.int .i64 0) ∧ w = w' := by
  have HI := Lib.hid (is_no H h hh)
  clear H hh
  go_enter Try.func15, Try.ntmps15
  go_wp2_with fail
  refine HI.out.mono ?_
  rintro e w' ⟨rfl, rfl⟩
  go_wp2
  go_ret
  exact ⟨by first | rfl | simp, rfl⟩
theorem idle_nil (w : World) : Calls Try.prog 23 #[.pointer none] w fun e w' => e = .returned (.bool true) ∧ w = w' := by
  go_enter Try.func23, Try.ntmps23
  go_wp2
  go_ret
  exact ⟨by first | rfl | simp, rfl⟩
theorem ty48 : Try.prog.underlying 48 = some (.map 3 3) := by kernel_rfl
theorem ty3 : Try.prog.underlying 3 = some (.int .i64) := by kernel_rfl
theorem zero3 (w : World) : (zeroValue 3).run Try.prog w = .ok (.int .i64 0) w := by kernel_rfl
theorem idle_yes (H : QR w a S) (h0 : S.M.length = 0) : Calls Try.prog 23 #[.pointer (some ⟨a.g, 0, none⟩)] w fun e w' => e = .returned (.bool true) ∧ w = w' := by
  have c17 := H.cells.2.1
  have hlen := fun ty => imap_len H.map ty48 ty
  rw [h0] at hlen
  clear H h0
  go_enter Try.func23, Try.ntmps23
  go_wp2
  go_ret
  exact ⟨by first | rfl | simp, rfl⟩
theorem idle_no (H : QR w a S) (h0 : 0 < S.M.length) : Calls Try.prog 23 #[.pointer (some ⟨a.g, 0, none⟩)] w fun e w' => e = .returned (.bool false) ∧ w = w' := by
  have c17 := H.cells.2.1
  have hlen := fun ty => imap_len H.map ty48 ty
  have h1 : ((S.M.length : Int) == 0) = false := by simp; intro e; rw [e] at h0; simp at h0
  clear H h0
  go_enter Try.func23, Try.ntmps23
  go_wp2
  go_ret
  exact ⟨by first | rfl | simp, rfl⟩
theorem where_nil (t : Int) (w : World) : Calls Try.prog 17 #[.pointer none, .int .i64 t] w fun e w' => e = .returned (.tuple #[.int .i64 0, .bool false]) ∧ w = w' := by
  go_enter Try.func17, Try.ntmps17
  go_wp2
  go_ret2
  exact ⟨by first | rfl | simp, rfl⟩
theorem where_none (H : QR w a S) (t : Int) (ht : S.M.get t = none) : Calls Try.prog 17 #[.pointer (some ⟨a.g, 0, none⟩), .int .i64 t] w fun e w' => e = .returned (.tuple #[.int .i64 0, .bool false]) ∧ w = w' := by
  have c17 := H.cells.2.1
  have hlk := imap_lookup (P := Try.prog) H.map ty48 ty3 (zero3 w) t true
  rw [ht] at hlk
  simp only [if_true, Option.getD_none, Option.isSome_none] at hlk
  clear H ht
  go_enter Try.func17, Try.ntmps17
  go_wp2
  go_ret2
  exact ⟨by first | rfl | simp, rfl⟩
theorem where_some (H : QR w a S) (t : Int) (v : Value) (ht : S.M.get t = some v) : Calls Try.prog 17 #[.pointer (some ⟨a.g, 0, none⟩), .int .i64 t] w fun e w' => e = .returned (.tuple #[v, .bool true]) ∧ w = w' := by
  have c17 := H.cells.2.1
  have hlk := imap_lookup (P := Try.prog) H.map ty48 ty3 (zero3 w) t true
  rw [ht] at hlk
  simp only [if_true, Option.getD_some, Option.isSome_some] at hlk
  clear H ht
  go_enter Try.func17, Try.ntmps17
  go_wp2
  go_ret2
  exact ⟨by first | rfl | simp, rfl⟩
end
end Go.Proofs.Ytphikmdgdbdaiaa
