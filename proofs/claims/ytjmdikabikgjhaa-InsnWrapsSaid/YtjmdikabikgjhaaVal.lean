import Derived.Test.YtjmdikabikgjhaaCpu
import Derived.Deep.QuietTactic
import Derived.BigQuiet
/- divided, truth, value and taken, of the program: what a register is behind an instruction of numbers. -/
namespace Go.Proofs.Ytjmdikabikgjhaa
open Go.RowKit
set_option linter.unusedVariables false
attribute [local go_sem] szIs_lit row_at row_past row_alloc nf_alloc row_set nf_set row_cell nf_cell row_drew nf_drew row_drewN nf_drewN cell_setRow frozen_setRow
def dq (a b : Int) : Int := if b = 0 then 4294967295 else a / b
def dr (a b : Int) : Int := if b = 0 then a else a % b
def bit (c : Bool) : Int := if c then 1 else 0
theorem div_any (a b : Int) (w : World) (h0 : 0 ≤ a) (h1 : a ≤ 4294967295) (h2 : 0 ≤ b) (h3 : b ≤ 4294967295) :
    Calls Try.prog 24 #[.int .u32 a, .int .u32 b] w fun e w' => e = .returned (.tuple #[.int .u32 (dq a b), .int .u32 (dr a b)]) ∧ Below w.heap.size w w' := by
  by_cases e : b = 0
  · have hb : (b == 0) = true := by simp [e]
    have e1 : dq a b = 4294967295 := by simp [dq, e]
    have e2 : dr a b = a := by simp [dr, e]
    rw [e1, e2]
    clear e e1 e2
    go_enter Try.func24, Try.ntmps24
    go_wp2
    go_ret2
    exact ⟨rfl, Below.refl _ _⟩
  · have hb : (b == 0) = false := beq_eq_false_iff_ne.2 e
    have hb1 : 1 ≤ b := by omega
    have e1 : dq a b = a / b := by simp [dq, e]
    have e2 : dr a b = a % b := by simp [dr, e]
    rw [e1, e2]
    clear e e1 e2
    go_enter Try.func24, Try.ntmps24
    go_wp2
    go_quiet (fail)
    go_wp2
    go_ret2
    exact ⟨rfl, below_drewN (Below.refl _ _) _⟩
theorem truth_any (c : Bool) (w : World) : Calls Try.prog 25 #[.bool c] w fun e w' => e = .returned (.int .u32 (bit c)) ∧ w = w' := by
  cases c
  all_goals
    go_enter Try.func25, Try.ntmps25
    go_wp2
    go_ret
    exact ⟨rfl, rfl⟩
theorem val_p1 (a b imm : Int) (w : World) (h0 : 0 ≤ a) (h1 : a ≤ 4294967295) (h2 : 0 ≤ b) (h3 : b ≤ 4294967295) :
    Calls Try.prog 20 #[.int .i64 1, .int .u32 a, .int .u32 b, .int .u32 imm] w fun e w' => e = .returned (.tuple #[.int .u32 imm, .bool true]) ∧ Below w.heap.size w w' := by
  go_enter Try.func20, Try.ntmps20
  go_wp2_with (first | (go_at_call 24; refine (div_any _ _ _ h0 h1 h2 h3).mono ?_; rintro e w' ⟨rfl, hb⟩))
  go_ret2
  exact ⟨rfl, hb⟩
theorem val_p2 (a b imm : Int) (w : World) (h0 : 0 ≤ a) (h1 : a ≤ 4294967295) (h2 : 0 ≤ b) (h3 : b ≤ 4294967295) (hl : bits BinOp.or IntKind.u32 (bits BinOp.and IntKind.u32 a 65535) (imm * 65536 % 4294967296) = a % 65536 + imm * 65536 % 4294967296) :
    Calls Try.prog 20 #[.int .i64 2, .int .u32 a, .int .u32 b, .int .u32 imm] w fun e w' => e = .returned (.tuple #[.int .u32 (a % 65536 + imm * 65536 % 4294967296), .bool true]) ∧ Below w.heap.size w w' := by
  go_enter Try.func20, Try.ntmps20
  go_wp2_with (first | (go_at_call 24; refine (div_any _ _ _ h0 h1 h2 h3).mono ?_; rintro e w' ⟨rfl, hb⟩))
  go_ret2
  exact ⟨rfl, hb⟩
theorem val_p3 (a b imm : Int) (w : World) (h0 : 0 ≤ a) (h1 : a ≤ 4294967295) (h2 : 0 ≤ b) (h3 : b ≤ 4294967295) :
    Calls Try.prog 20 #[.int .i64 3, .int .u32 a, .int .u32 b, .int .u32 imm] w fun e w' => e = .returned (.tuple #[.int .u32 ((a + b) % 4294967296), .bool true]) ∧ Below w.heap.size w w' := by
  go_enter Try.func20, Try.ntmps20
  go_wp2_with (first | (go_at_call 24; refine (div_any _ _ _ h0 h1 h2 h3).mono ?_; rintro e w' ⟨rfl, hb⟩))
  go_ret2
  exact ⟨rfl, hb⟩
theorem val_p4 (a b imm : Int) (w : World) (h0 : 0 ≤ a) (h1 : a ≤ 4294967295) (h2 : 0 ≤ b) (h3 : b ≤ 4294967295) :
    Calls Try.prog 20 #[.int .i64 4, .int .u32 a, .int .u32 b, .int .u32 imm] w fun e w' => e = .returned (.tuple #[.int .u32 ((a - b) % 4294967296), .bool true]) ∧ Below w.heap.size w w' := by
  go_enter Try.func20, Try.ntmps20
  go_wp2_with (first | (go_at_call 24; refine (div_any _ _ _ h0 h1 h2 h3).mono ?_; rintro e w' ⟨rfl, hb⟩))
  go_ret2
  exact ⟨rfl, hb⟩
theorem val_p5 (a b imm : Int) (w : World) (h0 : 0 ≤ a) (h1 : a ≤ 4294967295) (h2 : 0 ≤ b) (h3 : b ≤ 4294967295) :
    Calls Try.prog 20 #[.int .i64 5, .int .u32 a, .int .u32 b, .int .u32 imm] w fun e w' => e = .returned (.tuple #[.int .u32 (bits BinOp.and IntKind.u32 a b), .bool true]) ∧ Below w.heap.size w w' := by
  go_enter Try.func20, Try.ntmps20
  go_wp2_with (first | (go_at_call 24; refine (div_any _ _ _ h0 h1 h2 h3).mono ?_; rintro e w' ⟨rfl, hb⟩))
  go_ret2
  exact ⟨rfl, hb⟩
theorem val_p6 (a b imm : Int) (w : World) (h0 : 0 ≤ a) (h1 : a ≤ 4294967295) (h2 : 0 ≤ b) (h3 : b ≤ 4294967295) :
    Calls Try.prog 20 #[.int .i64 6, .int .u32 a, .int .u32 b, .int .u32 imm] w fun e w' => e = .returned (.tuple #[.int .u32 (bits BinOp.or IntKind.u32 a b), .bool true]) ∧ Below w.heap.size w w' := by
  go_enter Try.func20, Try.ntmps20
  go_wp2_with (first | (go_at_call 24; refine (div_any _ _ _ h0 h1 h2 h3).mono ?_; rintro e w' ⟨rfl, hb⟩))
  go_ret2
  exact ⟨rfl, hb⟩
theorem val_p7 (a b imm : Int) (w : World) (h0 : 0 ≤ a) (h1 : a ≤ 4294967295) (h2 : 0 ≤ b) (h3 : b ≤ 4294967295) :
    Calls Try.prog 20 #[.int .i64 7, .int .u32 a, .int .u32 b, .int .u32 imm] w fun e w' => e = .returned (.tuple #[.int .u32 (bits BinOp.xor IntKind.u32 a b), .bool true]) ∧ Below w.heap.size w w' := by
  go_enter Try.func20, Try.ntmps20
  go_wp2_with (first | (go_at_call 24; refine (div_any _ _ _ h0 h1 h2 h3).mono ?_; rintro e w' ⟨rfl, hb⟩))
  go_ret2
  exact ⟨rfl, hb⟩
theorem val_p8 (a b imm : Int) (w : World) (h0 : 0 ≤ a) (h1 : a ≤ 4294967295) (h2 : 0 ≤ b) (h3 : b ≤ 4294967295) (h31 : bits BinOp.and IntKind.u32 b 31 = b % 32) :
    Calls Try.prog 20 #[.int .i64 8, .int .u32 a, .int .u32 b, .int .u32 imm] w fun e w' => e = .returned (.tuple #[.int .u32 (a * 2 ^ (b % 32).toNat % 4294967296), .bool true]) ∧ Below w.heap.size w w' := by
  go_enter Try.func20, Try.ntmps20
  go_wp2_with (first | (go_at_call 24; refine (div_any _ _ _ h0 h1 h2 h3).mono ?_; rintro e w' ⟨rfl, hb⟩))
  go_ret2
  exact ⟨rfl, hb⟩
theorem val_p9 (a b imm : Int) (w : World) (h0 : 0 ≤ a) (h1 : a ≤ 4294967295) (h2 : 0 ≤ b) (h3 : b ≤ 4294967295) (h31 : bits BinOp.and IntKind.u32 b 31 = b % 32) :
    Calls Try.prog 20 #[.int .i64 9, .int .u32 a, .int .u32 b, .int .u32 imm] w fun e w' => e = .returned (.tuple #[.int .u32 (a / 2 ^ (b % 32).toNat), .bool true]) ∧ Below w.heap.size w w' := by
  go_enter Try.func20, Try.ntmps20
  go_wp2_with (first | (go_at_call 24; refine (div_any _ _ _ h0 h1 h2 h3).mono ?_; rintro e w' ⟨rfl, hb⟩))
  go_ret2
  exact ⟨rfl, hb⟩
theorem val_p10 (a b imm : Int) (w : World) (h0 : 0 ≤ a) (h1 : a ≤ 4294967295) (h2 : 0 ≤ b) (h3 : b ≤ 4294967295) (h31 : bits BinOp.and IntKind.u32 b 31 = b % 32) :
    Calls Try.prog 20 #[.int .i64 10, .int .u32 a, .int .u32 b, .int .u32 imm] w fun e w' => e = .returned (.tuple #[.int .u32 (wrap32 a / 2 ^ (b % 32).toNat % 4294967296), .bool true]) ∧ Below w.heap.size w w' := by
  go_enter Try.func20, Try.ntmps20
  go_wp2_with (first | (go_at_call 24; refine (div_any _ _ _ h0 h1 h2 h3).mono ?_; rintro e w' ⟨rfl, hb⟩))
  go_ret2
  exact ⟨rfl, hb⟩
theorem val_p11 (a b imm : Int) (w : World) (h0 : 0 ≤ a) (h1 : a ≤ 4294967295) (h2 : 0 ≤ b) (h3 : b ≤ 4294967295) :
    Calls Try.prog 20 #[.int .i64 11, .int .u32 a, .int .u32 b, .int .u32 imm] w fun e w' => e = .returned (.tuple #[.int .u32 (a * b % 4294967296), .bool true]) ∧ Below w.heap.size w w' := by
  go_enter Try.func20, Try.ntmps20
  go_wp2_with (first | (go_at_call 24; refine (div_any _ _ _ h0 h1 h2 h3).mono ?_; rintro e w' ⟨rfl, hb⟩))
  go_ret2
  exact ⟨rfl, hb⟩
theorem val_p12 (a b imm : Int) (w : World) (h0 : 0 ≤ a) (h1 : a ≤ 4294967295) (h2 : 0 ≤ b) (h3 : b ≤ 4294967295) :
    Calls Try.prog 20 #[.int .i64 12, .int .u32 a, .int .u32 b, .int .u32 imm] w fun e w' => e = .returned (.tuple #[.int .u32 (dq a b), .bool true]) ∧ Below w.heap.size w w' := by
  go_enter Try.func20, Try.ntmps20
  go_wp2_with (first | (go_at_call 24; refine (div_any _ _ _ h0 h1 h2 h3).mono ?_; rintro e w' ⟨rfl, hb⟩))
  go_ret2
  exact ⟨rfl, hb⟩
theorem val_p13 (a b imm : Int) (w : World) (h0 : 0 ≤ a) (h1 : a ≤ 4294967295) (h2 : 0 ≤ b) (h3 : b ≤ 4294967295) :
    Calls Try.prog 20 #[.int .i64 13, .int .u32 a, .int .u32 b, .int .u32 imm] w fun e w' => e = .returned (.tuple #[.int .u32 (dr a b), .bool true]) ∧ Below w.heap.size w w' := by
  go_enter Try.func20, Try.ntmps20
  go_wp2_with (first | (go_at_call 24; refine (div_any _ _ _ h0 h1 h2 h3).mono ?_; rintro e w' ⟨rfl, hb⟩))
  go_ret2
  exact ⟨rfl, hb⟩
theorem val_p14 (a b imm : Int) (w : World) (h0 : 0 ≤ a) (h1 : a ≤ 4294967295) (h2 : 0 ≤ b) (h3 : b ≤ 4294967295) :
    Calls Try.prog 20 #[.int .i64 14, .int .u32 a, .int .u32 b, .int .u32 imm] w fun e w' => e = .returned (.tuple #[.int .u32 (bit (decide (wrap32 a < wrap32 b))), .bool true]) ∧ Below w.heap.size w w' := by
  go_enter Try.func20, Try.ntmps20
  go_wp2_with (first | (go_at_call 24; refine (div_any _ _ _ h0 h1 h2 h3).mono ?_; rintro e w' ⟨rfl, hb⟩) | (go_at_call 25; refine (truth_any _ _).mono ?_; rintro e w2 ⟨rfl, rfl⟩))
  go_ret2
  exact ⟨rfl, hb⟩
theorem val_p15 (a b imm : Int) (w : World) (h0 : 0 ≤ a) (h1 : a ≤ 4294967295) (h2 : 0 ≤ b) (h3 : b ≤ 4294967295) :
    Calls Try.prog 20 #[.int .i64 15, .int .u32 a, .int .u32 b, .int .u32 imm] w fun e w' => e = .returned (.tuple #[.int .u32 (bit (decide (a < b))), .bool true]) ∧ Below w.heap.size w w' := by
  go_enter Try.func20, Try.ntmps20
  go_wp2_with (first | (go_at_call 24; refine (div_any _ _ _ h0 h1 h2 h3).mono ?_; rintro e w' ⟨rfl, hb⟩) | (go_at_call 25; refine (truth_any _ _).mono ?_; rintro e w2 ⟨rfl, rfl⟩))
  go_ret2
  exact ⟨rfl, hb⟩
theorem val_p16 (a b imm : Int) (w : World) (h0 : 0 ≤ a) (h1 : a ≤ 4294967295) (h2 : 0 ≤ b) (h3 : b ≤ 4294967295) :
    Calls Try.prog 20 #[.int .i64 16, .int .u32 a, .int .u32 b, .int .u32 imm] w fun e w' => e = .returned (.tuple #[.int .u32 ((b + imm) % 4294967296), .bool true]) ∧ Below w.heap.size w w' := by
  go_enter Try.func20, Try.ntmps20
  go_wp2_with (first | (go_at_call 24; refine (div_any _ _ _ h0 h1 h2 h3).mono ?_; rintro e w' ⟨rfl, hb⟩))
  go_ret2
  exact ⟨rfl, hb⟩
theorem val_none (op a b imm : Int) (w : World) (h0 : 0 ≤ a) (h1 : a ≤ 4294967295) (h2 : 0 ≤ b) (h3 : b ≤ 4294967295) (n1 : (op == 1) = false) (n2 : (op == 2) = false) (n3 : (op == 3) = false) (n4 : (op == 4) = false) (n5 : (op == 5) = false) (n6 : (op == 6) = false) (n7 : (op == 7) = false) (n8 : (op == 8) = false) (n9 : (op == 9) = false) (n10 : (op == 10) = false) (n11 : (op == 11) = false) (n12 : (op == 12) = false) (n13 : (op == 13) = false) (n14 : (op == 14) = false) (n15 : (op == 15) = false) (n16 : (op == 16) = false) :
    Calls Try.prog 20 #[.int .i64 op, .int .u32 a, .int .u32 b, .int .u32 imm] w fun e w' => e = .returned (.tuple #[.int .u32 0, .bool false]) ∧ Below w.heap.size w w' := by
  go_enter Try.func20, Try.ntmps20
  go_wp2_with (first | (go_at_call 24; refine (div_any _ _ _ h0 h1 h2 h3).mono ?_; rintro e w' ⟨rfl, hb⟩))
  go_ret2
  exact ⟨rfl, hb⟩
theorem tak_p21 (a b : Int) (w : World) (h0 : 0 ≤ a) (h1 : a ≤ 4294967295) (h2 : 0 ≤ b) (h3 : b ≤ 4294967295) :
    Calls Try.prog 21 #[.int .i64 21, .int .u32 a, .int .u32 b] w fun e w' => e = .returned (.bool (a == b)) ∧ w = w' := by
  go_enter Try.func21, Try.ntmps21
  go_wp2
  go_ret
  exact ⟨rfl, rfl⟩
theorem tak_p22 (a b : Int) (w : World) (h0 : 0 ≤ a) (h1 : a ≤ 4294967295) (h2 : 0 ≤ b) (h3 : b ≤ 4294967295) :
    Calls Try.prog 21 #[.int .i64 22, .int .u32 a, .int .u32 b] w fun e w' => e = .returned (.bool (a != b)) ∧ w = w' := by
  go_enter Try.func21, Try.ntmps21
  go_wp2
  go_ret
  exact ⟨rfl, rfl⟩
theorem tak_p23 (a b : Int) (w : World) (h0 : 0 ≤ a) (h1 : a ≤ 4294967295) (h2 : 0 ≤ b) (h3 : b ≤ 4294967295) :
    Calls Try.prog 21 #[.int .i64 23, .int .u32 a, .int .u32 b] w fun e w' => e = .returned (.bool (decide (wrap32 a < wrap32 b))) ∧ w = w' := by
  go_enter Try.func21, Try.ntmps21
  go_wp2
  go_ret
  exact ⟨rfl, rfl⟩
theorem tak_p24 (a b : Int) (w : World) (h0 : 0 ≤ a) (h1 : a ≤ 4294967295) (h2 : 0 ≤ b) (h3 : b ≤ 4294967295) :
    Calls Try.prog 21 #[.int .i64 24, .int .u32 a, .int .u32 b] w fun e w' => e = .returned (.bool (decide (a < b))) ∧ w = w' := by
  go_enter Try.func21, Try.ntmps21
  go_wp2
  go_ret
  exact ⟨rfl, rfl⟩
end Go.Proofs.Ytjmdikabikgjhaa
