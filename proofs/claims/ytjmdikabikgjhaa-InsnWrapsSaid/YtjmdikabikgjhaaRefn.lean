import Derived.Test.YtjmdikabikgjhaaCpu
import Derived.Test.YtjmdikabikgjhaaVal
/- signed, shift, branches and value, of the reference. -/
namespace Go.Proofs.Ytjmdikabikgjhaa
open Go.RowKit
set_option linter.unusedVariables false
attribute [local go_sem] szIs_lit row_at row_past row_alloc nf_alloc row_set nf_set row_cell nf_cell row_drew nf_drew row_drewN nf_drewN cell_setRow frozen_setRow
theorem signed_lo (x : Int) (w : World) (h0 : 0 ≤ x) (h1 : x < 2147483648) : Calls Try.prog 26 #[.int .u32 x] w fun e w' => e = .returned (.int .i64 x) ∧ w = w' := by
  go_enter Try.func26, Try.ntmps26
  go_wp2
  go_ret
  exact ⟨rfl, rfl⟩
theorem signed_hi (x : Int) (w : World) (h0 : 2147483648 ≤ x) (h1 : x ≤ 4294967295) : Calls Try.prog 26 #[.int .u32 x] w fun e w' => e = .returned (.int .i64 (x - 4294967296)) ∧ w = w' := by
  go_enter Try.func26, Try.ntmps26
  go_wp2
  go_ret
  exact ⟨rfl, rfl⟩
theorem signed_any (x : Int) (w : World) (h0 : 0 ≤ x) (h1 : x ≤ 4294967295) : Calls Try.prog 26 #[.int .u32 x] w fun e w' => e = .returned (.int .i64 (wrap32 x)) ∧ w = w' := by
  by_cases h : x < 2147483648
  · have e : wrap32 x = x := by unfold wrap32; omega
    rw [e]; exact signed_lo x w h0 h
  · have e : wrap32 x = x - 4294967296 := by unfold wrap32; omega
    rw [e]; exact signed_hi x w (by omega) h1
theorem shift_8 (F : Nat → Int) (n : Nat) (w : World) (hn : n ≤ 31) (hB : ∀ k, 0 ≤ F k ∧ F k ≤ 4294967295) (hS : ∀ k, F k * 2 % 4294967296 = F (k + 1)) :
    Calls Try.prog 27 #[.int .i64 8, .int .u32 (F 0), .int .u32 n] w fun e w' => e = .returned (.int .u32 (F n)) ∧ w = w' := by
  have HB := Lib.hid hB
  have HS := Lib.hid hS
  clear hB hS
  go_enter Try.func27, Try.ntmps27
  go_wp2
  go_loop [1, 7] (fun t i => ∃ k : Nat, k ≤ n ∧ i = .int .u32 k ∧ t = .int .u32 (F k)) (fun _ i => n - (intOf i).toNat)
  case atStart => exact ⟨0, Nat.zero_le _, rfl, rfl⟩
  case round =>
    obtain ⟨k, hk, rfl, rfl⟩ := hrel
    obtain ⟨b0, b1⟩ := HB.out k
    by_cases hlt : k < n
    · go_wp2
      go_round
      case rel => exact ⟨k + 1, by omega, by go_num, by rw [← HS.out k]⟩
      case measure => simp [intOf]; omega
    · obtain rfl : k = n := by omega
      go_wp2
      go_ret
      exact ⟨rfl, rfl⟩
theorem shift_9 (F : Nat → Int) (n : Nat) (w : World) (hn : n ≤ 31) (hB : ∀ k, 0 ≤ F k ∧ F k ≤ 4294967295) (hS : ∀ k, F k / 2 = F (k + 1)) :
    Calls Try.prog 27 #[.int .i64 9, .int .u32 (F 0), .int .u32 n] w fun e w' => e = .returned (.int .u32 (F n)) ∧ w = w' := by
  have HB := Lib.hid hB
  have HS := Lib.hid hS
  clear hB hS
  go_enter Try.func27, Try.ntmps27
  go_wp2
  go_loop [1, 7] (fun t i => ∃ k : Nat, k ≤ n ∧ i = .int .u32 k ∧ t = .int .u32 (F k)) (fun _ i => n - (intOf i).toNat)
  case atStart => exact ⟨0, Nat.zero_le _, rfl, rfl⟩
  case round =>
    obtain ⟨k, hk, rfl, rfl⟩ := hrel
    obtain ⟨b0, b1⟩ := HB.out k
    by_cases hlt : k < n
    · go_wp2
      go_round
      case rel => exact ⟨k + 1, by omega, by go_num, by rw [← HS.out k]⟩
      case measure => simp [intOf]; omega
    · obtain rfl : k = n := by omega
      go_wp2
      go_ret
      exact ⟨rfl, rfl⟩
theorem shift_10 (F : Nat → Int) (n : Nat) (w : World) (hn : n ≤ 31) (hB : ∀ k, 0 ≤ F k ∧ F k ≤ 4294967295) (hS : ∀ k, F k / 2 + F k / 2147483648 * 2147483648 = F (k + 1)) :
    Calls Try.prog 27 #[.int .i64 10, .int .u32 (F 0), .int .u32 n] w fun e w' => e = .returned (.int .u32 (F n)) ∧ w = w' := by
  have HB := Lib.hid hB
  have HS := Lib.hid hS
  clear hB hS
  go_enter Try.func27, Try.ntmps27
  go_wp2
  go_loop [1, 7] (fun t i => ∃ k : Nat, k ≤ n ∧ i = .int .u32 k ∧ t = .int .u32 (F k)) (fun _ i => n - (intOf i).toNat)
  case atStart => exact ⟨0, Nat.zero_le _, rfl, rfl⟩
  case round =>
    obtain ⟨k, hk, rfl, rfl⟩ := hrel
    obtain ⟨b0, b1⟩ := HB.out k
    by_cases hlt : k < n
    · go_wp2
      go_round
      case rel => exact ⟨k + 1, by omega, by go_num, by rw [← HS.out k]⟩
      case measure => simp [intOf]; omega
    · obtain rfl : k = n := by omega
      go_wp2
      go_ret
      exact ⟨rfl, rfl⟩
theorem bra_r21 (a b : Int) (w : World) (h0 : 0 ≤ a) (h1 : a ≤ 4294967295) (h2 : 0 ≤ b) (h3 : b ≤ 4294967295) :
    Calls Try.prog 22 #[.int .i64 21, .int .u32 a, .int .u32 b] w fun e w' => e = .returned (.bool (a == b)) ∧ w = w' := by
  go_enter Try.func22, Try.ntmps22
  go_wp2
  go_ret
  exact ⟨rfl, rfl⟩
theorem bra_r22 (a b : Int) (w : World) (h0 : 0 ≤ a) (h1 : a ≤ 4294967295) (h2 : 0 ≤ b) (h3 : b ≤ 4294967295) :
    Calls Try.prog 22 #[.int .i64 22, .int .u32 a, .int .u32 b] w fun e w' => e = .returned (.bool (a != b)) ∧ w = w' := by
  go_enter Try.func22, Try.ntmps22
  go_wp2
  go_ret
  exact ⟨rfl, rfl⟩
theorem bra_r23 (a b : Int) (w : World) (h0 : 0 ≤ a) (h1 : a ≤ 4294967295) (h2 : 0 ≤ b) (h3 : b ≤ 4294967295) :
    Calls Try.prog 22 #[.int .i64 23, .int .u32 a, .int .u32 b] w fun e w' => e = .returned (.bool (decide (wrap32 a < wrap32 b))) ∧ w = w' := by
  go_enter Try.func22, Try.ntmps22
  go_wp2_with fail
  refine (signed_any a _ h0 h1).mono ?_; rintro e w' ⟨rfl, rfl⟩
  go_wp2_with fail
  refine (signed_any b _ h2 h3).mono ?_; rintro e w' ⟨rfl, rfl⟩
  go_wp2
  go_ret
  exact ⟨rfl, rfl⟩
theorem bra_r24 (a b : Int) (w : World) (h0 : 0 ≤ a) (h1 : a ≤ 4294967295) (h2 : 0 ≤ b) (h3 : b ≤ 4294967295) :
    Calls Try.prog 22 #[.int .i64 24, .int .u32 a, .int .u32 b] w fun e w' => e = .returned (.bool (decide (a < b))) ∧ w = w' := by
  go_enter Try.func22, Try.ntmps22
  go_wp2
  go_ret
  exact ⟨rfl, rfl⟩
theorem val_r1 (a b k m imm : Int) (w : World) (h0 : 0 ≤ a) (h1 : a ≤ 4294967295) (h2 : 0 ≤ b) (h3 : b ≤ 4294967295) :
    Calls Try.prog 23 #[.agg #[.int .i64 1, .int .i64 k, .int .i64 m, .int .i64 imm], .int .u32 a, .int .u32 b] w fun e w' => e = .returned (.int .u32 (imm % 4294967296)) ∧ Below w.heap.size w w' := by
  go_enter Try.func23, Try.ntmps23
  go_wp2
  go_ret
  refine ⟨by simp, ?_⟩
  repeat (first | (with_reducible exact Below.refl _ _) | (with_reducible refine Below.alloc ?_ ?h _; (case h => (first | omega | (simp; done) | (simp; omega)))) | (with_reducible refine Below.drew ?_) | (with_reducible refine below_drewN ?_ _) | (with_reducible refine Below.setCell ?_ ?h _; (case h => (first | omega | (simp; done) | (simp; omega)))) | (with_reducible refine below_row ?_ ?h _; (case h => (first | omega | (simp; done) | (simp; omega)))))
theorem val_r2 (a b k m imm : Int) (w : World) (h0 : 0 ≤ a) (h1 : a ≤ 4294967295) (h2 : 0 ≤ b) (h3 : b ≤ 4294967295) :
    Calls Try.prog 23 #[.agg #[.int .i64 2, .int .i64 k, .int .i64 m, .int .i64 imm], .int .u32 a, .int .u32 b] w fun e w' => e = .returned (.int .u32 (a % 65536 + (imm % 4294967296) * 65536 % 4294967296)) ∧ Below w.heap.size w w' := by
  go_enter Try.func23, Try.ntmps23
  go_wp2
  go_ret
  refine ⟨by simp, ?_⟩
  repeat (first | (with_reducible exact Below.refl _ _) | (with_reducible refine Below.alloc ?_ ?h _; (case h => (first | omega | (simp; done) | (simp; omega)))) | (with_reducible refine Below.drew ?_) | (with_reducible refine below_drewN ?_ _) | (with_reducible refine Below.setCell ?_ ?h _; (case h => (first | omega | (simp; done) | (simp; omega)))) | (with_reducible refine below_row ?_ ?h _; (case h => (first | omega | (simp; done) | (simp; omega)))))
theorem val_r3 (a b k m imm : Int) (w : World) (h0 : 0 ≤ a) (h1 : a ≤ 4294967295) (h2 : 0 ≤ b) (h3 : b ≤ 4294967295) :
    Calls Try.prog 23 #[.agg #[.int .i64 3, .int .i64 k, .int .i64 m, .int .i64 imm], .int .u32 a, .int .u32 b] w fun e w' => e = .returned (.int .u32 ((a + b) % 4294967296)) ∧ Below w.heap.size w w' := by
  go_enter Try.func23, Try.ntmps23
  go_wp2
  go_ret
  refine ⟨by simp, ?_⟩
  repeat (first | (with_reducible exact Below.refl _ _) | (with_reducible refine Below.alloc ?_ ?h _; (case h => (first | omega | (simp; done) | (simp; omega)))) | (with_reducible refine Below.drew ?_) | (with_reducible refine below_drewN ?_ _) | (with_reducible refine Below.setCell ?_ ?h _; (case h => (first | omega | (simp; done) | (simp; omega)))) | (with_reducible refine below_row ?_ ?h _; (case h => (first | omega | (simp; done) | (simp; omega)))))
theorem val_r4 (a b k m imm : Int) (w : World) (h0 : 0 ≤ a) (h1 : a ≤ 4294967295) (h2 : 0 ≤ b) (h3 : b ≤ 4294967295) :
    Calls Try.prog 23 #[.agg #[.int .i64 4, .int .i64 k, .int .i64 m, .int .i64 imm], .int .u32 a, .int .u32 b] w fun e w' => e = .returned (.int .u32 ((a - b) % 4294967296)) ∧ Below w.heap.size w w' := by
  go_enter Try.func23, Try.ntmps23
  go_wp2
  go_ret
  refine ⟨by simp, ?_⟩
  repeat (first | (with_reducible exact Below.refl _ _) | (with_reducible refine Below.alloc ?_ ?h _; (case h => (first | omega | (simp; done) | (simp; omega)))) | (with_reducible refine Below.drew ?_) | (with_reducible refine below_drewN ?_ _) | (with_reducible refine Below.setCell ?_ ?h _; (case h => (first | omega | (simp; done) | (simp; omega)))) | (with_reducible refine below_row ?_ ?h _; (case h => (first | omega | (simp; done) | (simp; omega)))))
theorem val_r5 (a b k m imm : Int) (w : World) (h0 : 0 ≤ a) (h1 : a ≤ 4294967295) (h2 : 0 ≤ b) (h3 : b ≤ 4294967295) :
    Calls Try.prog 23 #[.agg #[.int .i64 5, .int .i64 k, .int .i64 m, .int .i64 imm], .int .u32 a, .int .u32 b] w fun e w' => e = .returned (.int .u32 (bits BinOp.and IntKind.u32 a b)) ∧ Below w.heap.size w w' := by
  go_enter Try.func23, Try.ntmps23
  go_wp2
  go_ret
  refine ⟨by simp, ?_⟩
  repeat (first | (with_reducible exact Below.refl _ _) | (with_reducible refine Below.alloc ?_ ?h _; (case h => (first | omega | (simp; done) | (simp; omega)))) | (with_reducible refine Below.drew ?_) | (with_reducible refine below_drewN ?_ _) | (with_reducible refine Below.setCell ?_ ?h _; (case h => (first | omega | (simp; done) | (simp; omega)))) | (with_reducible refine below_row ?_ ?h _; (case h => (first | omega | (simp; done) | (simp; omega)))))
theorem val_r6 (a b k m imm : Int) (w : World) (h0 : 0 ≤ a) (h1 : a ≤ 4294967295) (h2 : 0 ≤ b) (h3 : b ≤ 4294967295) :
    Calls Try.prog 23 #[.agg #[.int .i64 6, .int .i64 k, .int .i64 m, .int .i64 imm], .int .u32 a, .int .u32 b] w fun e w' => e = .returned (.int .u32 (bits BinOp.or IntKind.u32 a b)) ∧ Below w.heap.size w w' := by
  go_enter Try.func23, Try.ntmps23
  go_wp2
  go_ret
  refine ⟨by simp, ?_⟩
  repeat (first | (with_reducible exact Below.refl _ _) | (with_reducible refine Below.alloc ?_ ?h _; (case h => (first | omega | (simp; done) | (simp; omega)))) | (with_reducible refine Below.drew ?_) | (with_reducible refine below_drewN ?_ _) | (with_reducible refine Below.setCell ?_ ?h _; (case h => (first | omega | (simp; done) | (simp; omega)))) | (with_reducible refine below_row ?_ ?h _; (case h => (first | omega | (simp; done) | (simp; omega)))))
theorem val_r7 (a b k m imm : Int) (w : World) (h0 : 0 ≤ a) (h1 : a ≤ 4294967295) (h2 : 0 ≤ b) (h3 : b ≤ 4294967295) :
    Calls Try.prog 23 #[.agg #[.int .i64 7, .int .i64 k, .int .i64 m, .int .i64 imm], .int .u32 a, .int .u32 b] w fun e w' => e = .returned (.int .u32 (bits BinOp.xor IntKind.u32 a b)) ∧ Below w.heap.size w w' := by
  go_enter Try.func23, Try.ntmps23
  go_wp2
  go_ret
  refine ⟨by simp, ?_⟩
  repeat (first | (with_reducible exact Below.refl _ _) | (with_reducible refine Below.alloc ?_ ?h _; (case h => (first | omega | (simp; done) | (simp; omega)))) | (with_reducible refine Below.drew ?_) | (with_reducible refine below_drewN ?_ _) | (with_reducible refine Below.setCell ?_ ?h _; (case h => (first | omega | (simp; done) | (simp; omega)))) | (with_reducible refine below_row ?_ ?h _; (case h => (first | omega | (simp; done) | (simp; omega)))))
theorem val_r11 (a b k m imm : Int) (w : World) (h0 : 0 ≤ a) (h1 : a ≤ 4294967295) (h2 : 0 ≤ b) (h3 : b ≤ 4294967295) :
    Calls Try.prog 23 #[.agg #[.int .i64 11, .int .i64 k, .int .i64 m, .int .i64 imm], .int .u32 a, .int .u32 b] w fun e w' => e = .returned (.int .u32 (a * b % 4294967296)) ∧ Below w.heap.size w w' := by
  go_enter Try.func23, Try.ntmps23
  go_wp2
  go_ret
  refine ⟨by simp, ?_⟩
  repeat (first | (with_reducible exact Below.refl _ _) | (with_reducible refine Below.alloc ?_ ?h _; (case h => (first | omega | (simp; done) | (simp; omega)))) | (with_reducible refine Below.drew ?_) | (with_reducible refine below_drewN ?_ _) | (with_reducible refine Below.setCell ?_ ?h _; (case h => (first | omega | (simp; done) | (simp; omega)))) | (with_reducible refine below_row ?_ ?h _; (case h => (first | omega | (simp; done) | (simp; omega)))))
theorem val_r12z (a b k m imm : Int) (w : World) (h0 : 0 ≤ a) (h1 : a ≤ 4294967295) (h2 : 0 ≤ b) (h3 : b ≤ 4294967295) (hb : (b == 0) = true) :
    Calls Try.prog 23 #[.agg #[.int .i64 12, .int .i64 k, .int .i64 m, .int .i64 imm], .int .u32 a, .int .u32 b] w fun e w' => e = .returned (.int .u32 4294967295) ∧ Below w.heap.size w w' := by
  go_enter Try.func23, Try.ntmps23
  go_wp2
  go_ret
  refine ⟨by simp, ?_⟩
  repeat (first | (with_reducible exact Below.refl _ _) | (with_reducible refine Below.alloc ?_ ?h _; (case h => (first | omega | (simp; done) | (simp; omega)))) | (with_reducible refine Below.drew ?_) | (with_reducible refine below_drewN ?_ _) | (with_reducible refine Below.setCell ?_ ?h _; (case h => (first | omega | (simp; done) | (simp; omega)))) | (with_reducible refine below_row ?_ ?h _; (case h => (first | omega | (simp; done) | (simp; omega)))))
theorem val_r12p (a b k m imm : Int) (w : World) (h0 : 0 ≤ a) (h1 : a ≤ 4294967295) (h2 : 0 ≤ b) (h3 : b ≤ 4294967295) (hb : (b == 0) = false) (hb1 : 1 ≤ b) :
    Calls Try.prog 23 #[.agg #[.int .i64 12, .int .i64 k, .int .i64 m, .int .i64 imm], .int .u32 a, .int .u32 b] w fun e w' => e = .returned (.int .u32 (a / b)) ∧ Below w.heap.size w w' := by
  go_enter Try.func23, Try.ntmps23
  go_wp2
  go_ret
  refine ⟨by simp, ?_⟩
  repeat (first | (with_reducible exact Below.refl _ _) | (with_reducible refine Below.alloc ?_ ?h _; (case h => (first | omega | (simp; done) | (simp; omega)))) | (with_reducible refine Below.drew ?_) | (with_reducible refine below_drewN ?_ _) | (with_reducible refine Below.setCell ?_ ?h _; (case h => (first | omega | (simp; done) | (simp; omega)))) | (with_reducible refine below_row ?_ ?h _; (case h => (first | omega | (simp; done) | (simp; omega)))))
theorem val_r13z (a b k m imm : Int) (w : World) (h0 : 0 ≤ a) (h1 : a ≤ 4294967295) (h2 : 0 ≤ b) (h3 : b ≤ 4294967295) (hb : (b == 0) = true) :
    Calls Try.prog 23 #[.agg #[.int .i64 13, .int .i64 k, .int .i64 m, .int .i64 imm], .int .u32 a, .int .u32 b] w fun e w' => e = .returned (.int .u32 a) ∧ Below w.heap.size w w' := by
  go_enter Try.func23, Try.ntmps23
  go_wp2
  go_ret
  refine ⟨by simp, ?_⟩
  repeat (first | (with_reducible exact Below.refl _ _) | (with_reducible refine Below.alloc ?_ ?h _; (case h => (first | omega | (simp; done) | (simp; omega)))) | (with_reducible refine Below.drew ?_) | (with_reducible refine below_drewN ?_ _) | (with_reducible refine Below.setCell ?_ ?h _; (case h => (first | omega | (simp; done) | (simp; omega)))) | (with_reducible refine below_row ?_ ?h _; (case h => (first | omega | (simp; done) | (simp; omega)))))
theorem val_r13p (a b k m imm : Int) (w : World) (h0 : 0 ≤ a) (h1 : a ≤ 4294967295) (h2 : 0 ≤ b) (h3 : b ≤ 4294967295) (hb : (b == 0) = false) (hb1 : 1 ≤ b) :
    Calls Try.prog 23 #[.agg #[.int .i64 13, .int .i64 k, .int .i64 m, .int .i64 imm], .int .u32 a, .int .u32 b] w fun e w' => e = .returned (.int .u32 (a % b)) ∧ Below w.heap.size w w' := by
  go_enter Try.func23, Try.ntmps23
  go_wp2
  go_ret
  refine ⟨by simp, ?_⟩
  repeat (first | (with_reducible exact Below.refl _ _) | (with_reducible refine Below.alloc ?_ ?h _; (case h => (first | omega | (simp; done) | (simp; omega)))) | (with_reducible refine Below.drew ?_) | (with_reducible refine below_drewN ?_ _) | (with_reducible refine Below.setCell ?_ ?h _; (case h => (first | omega | (simp; done) | (simp; omega)))) | (with_reducible refine below_row ?_ ?h _; (case h => (first | omega | (simp; done) | (simp; omega)))))
theorem val_r14t (a b k m imm : Int) (w : World) (h0 : 0 ≤ a) (h1 : a ≤ 4294967295) (h2 : 0 ≤ b) (h3 : b ≤ 4294967295) (c : wrap32 a < wrap32 b) :
    Calls Try.prog 23 #[.agg #[.int .i64 14, .int .i64 k, .int .i64 m, .int .i64 imm], .int .u32 a, .int .u32 b] w fun e w' => e = .returned (.int .u32 1) ∧ Below w.heap.size w w' := by
  go_enter Try.func23, Try.ntmps23
  go_wp2_with fail
  refine (signed_any a _ h0 h1).mono ?_; rintro e w' ⟨rfl, rfl⟩
  go_wp2_with fail
  refine (signed_any b _ h2 h3).mono ?_; rintro e w' ⟨rfl, rfl⟩
  go_wp2
  go_ret
  refine ⟨by simp, ?_⟩
  repeat (first | (with_reducible exact Below.refl _ _) | (with_reducible refine Below.alloc ?_ ?h _; (case h => (first | omega | (simp; done) | (simp; omega)))) | (with_reducible refine Below.drew ?_) | (with_reducible refine below_drewN ?_ _) | (with_reducible refine Below.setCell ?_ ?h _; (case h => (first | omega | (simp; done) | (simp; omega)))) | (with_reducible refine below_row ?_ ?h _; (case h => (first | omega | (simp; done) | (simp; omega)))))
theorem val_r14f (a b k m imm : Int) (w : World) (h0 : 0 ≤ a) (h1 : a ≤ 4294967295) (h2 : 0 ≤ b) (h3 : b ≤ 4294967295) (c : ¬ wrap32 a < wrap32 b) :
    Calls Try.prog 23 #[.agg #[.int .i64 14, .int .i64 k, .int .i64 m, .int .i64 imm], .int .u32 a, .int .u32 b] w fun e w' => e = .returned (.int .u32 0) ∧ Below w.heap.size w w' := by
  go_enter Try.func23, Try.ntmps23
  go_wp2_with fail
  refine (signed_any a _ h0 h1).mono ?_; rintro e w' ⟨rfl, rfl⟩
  go_wp2_with fail
  refine (signed_any b _ h2 h3).mono ?_; rintro e w' ⟨rfl, rfl⟩
  go_wp2
  go_ret
  refine ⟨by simp, ?_⟩
  repeat (first | (with_reducible exact Below.refl _ _) | (with_reducible refine Below.alloc ?_ ?h _; (case h => (first | omega | (simp; done) | (simp; omega)))) | (with_reducible refine Below.drew ?_) | (with_reducible refine below_drewN ?_ _) | (with_reducible refine Below.setCell ?_ ?h _; (case h => (first | omega | (simp; done) | (simp; omega)))) | (with_reducible refine below_row ?_ ?h _; (case h => (first | omega | (simp; done) | (simp; omega)))))
theorem val_r15t (a b k m imm : Int) (w : World) (h0 : 0 ≤ a) (h1 : a ≤ 4294967295) (h2 : 0 ≤ b) (h3 : b ≤ 4294967295) (c : a < b) :
    Calls Try.prog 23 #[.agg #[.int .i64 15, .int .i64 k, .int .i64 m, .int .i64 imm], .int .u32 a, .int .u32 b] w fun e w' => e = .returned (.int .u32 1) ∧ Below w.heap.size w w' := by
  go_enter Try.func23, Try.ntmps23
  go_wp2
  go_ret
  refine ⟨by simp, ?_⟩
  repeat (first | (with_reducible exact Below.refl _ _) | (with_reducible refine Below.alloc ?_ ?h _; (case h => (first | omega | (simp; done) | (simp; omega)))) | (with_reducible refine Below.drew ?_) | (with_reducible refine below_drewN ?_ _) | (with_reducible refine Below.setCell ?_ ?h _; (case h => (first | omega | (simp; done) | (simp; omega)))) | (with_reducible refine below_row ?_ ?h _; (case h => (first | omega | (simp; done) | (simp; omega)))))
theorem val_r15f (a b k m imm : Int) (w : World) (h0 : 0 ≤ a) (h1 : a ≤ 4294967295) (h2 : 0 ≤ b) (h3 : b ≤ 4294967295) (c : ¬ a < b) :
    Calls Try.prog 23 #[.agg #[.int .i64 15, .int .i64 k, .int .i64 m, .int .i64 imm], .int .u32 a, .int .u32 b] w fun e w' => e = .returned (.int .u32 0) ∧ Below w.heap.size w w' := by
  go_enter Try.func23, Try.ntmps23
  go_wp2
  go_ret
  refine ⟨by simp, ?_⟩
  repeat (first | (with_reducible exact Below.refl _ _) | (with_reducible refine Below.alloc ?_ ?h _; (case h => (first | omega | (simp; done) | (simp; omega)))) | (with_reducible refine Below.drew ?_) | (with_reducible refine below_drewN ?_ _) | (with_reducible refine Below.setCell ?_ ?h _; (case h => (first | omega | (simp; done) | (simp; omega)))) | (with_reducible refine below_row ?_ ?h _; (case h => (first | omega | (simp; done) | (simp; omega)))))
theorem val_r16 (a b k m imm : Int) (w : World) (h0 : 0 ≤ a) (h1 : a ≤ 4294967295) (h2 : 0 ≤ b) (h3 : b ≤ 4294967295) :
    Calls Try.prog 23 #[.agg #[.int .i64 16, .int .i64 k, .int .i64 m, .int .i64 imm], .int .u32 a, .int .u32 b] w fun e w' => e = .returned (.int .u32 ((b + imm) % 4294967296)) ∧ Below w.heap.size w w' := by
  go_enter Try.func23, Try.ntmps23
  go_wp2
  go_ret
  refine ⟨by simp, ?_⟩
  repeat (first | (with_reducible exact Below.refl _ _) | (with_reducible refine Below.alloc ?_ ?h _; (case h => (first | omega | (simp; done) | (simp; omega)))) | (with_reducible refine Below.drew ?_) | (with_reducible refine below_drewN ?_ _) | (with_reducible refine Below.setCell ?_ ?h _; (case h => (first | omega | (simp; done) | (simp; omega)))) | (with_reducible refine below_row ?_ ?h _; (case h => (first | omega | (simp; done) | (simp; omega)))))
theorem val_r8 (F : Nat → Int) (a b k m imm : Int) (n : Nat) (w : World) (h0 : 0 ≤ a) (h1 : a ≤ 4294967295) (h2 : 0 ≤ b) (h3 : b ≤ 4294967295) (hn : (n : Int) = b % 32) (hn1 : n ≤ 31) (hB : ∀ j, 0 ≤ F j ∧ F j ≤ 4294967295) (hS : ∀ j, F j * 2 % 4294967296 = F (j + 1)) (hz : F 0 = a) :
    Calls Try.prog 23 #[.agg #[.int .i64 8, .int .i64 k, .int .i64 m, .int .i64 imm], .int .u32 a, .int .u32 b] w fun e w' => e = .returned (.int .u32 (F n)) ∧ Below w.heap.size w w' := by
  have H : ∀ w, Calls Try.prog 27 #[.int .i64 8, .int .u32 a, .int .u32 (b % 32)] w fun e w' => e = .returned (.int .u32 (F n)) ∧ w = w' := fun w => by
    rw [← hn, ← hz]; exact shift_8 F n w hn1 hB hS
  have HH := Lib.hid H
  clear H hz hn hB hS
  go_enter Try.func23, Try.ntmps23
  go_wp2_with fail
  refine (HH.out _).mono ?_; rintro e w' ⟨rfl, rfl⟩
  go_wp2
  go_ret
  refine ⟨by simp, ?_⟩
  repeat (first | (with_reducible exact Below.refl _ _) | (with_reducible refine Below.alloc ?_ ?h _; (case h => (first | omega | (simp; done) | (simp; omega)))) | (with_reducible refine Below.drew ?_) | (with_reducible refine below_drewN ?_ _) | (with_reducible refine Below.setCell ?_ ?h _; (case h => (first | omega | (simp; done) | (simp; omega)))) | (with_reducible refine below_row ?_ ?h _; (case h => (first | omega | (simp; done) | (simp; omega)))))
theorem val_r9 (F : Nat → Int) (a b k m imm : Int) (n : Nat) (w : World) (h0 : 0 ≤ a) (h1 : a ≤ 4294967295) (h2 : 0 ≤ b) (h3 : b ≤ 4294967295) (hn : (n : Int) = b % 32) (hn1 : n ≤ 31) (hB : ∀ j, 0 ≤ F j ∧ F j ≤ 4294967295) (hS : ∀ j, F j / 2 = F (j + 1)) (hz : F 0 = a) :
    Calls Try.prog 23 #[.agg #[.int .i64 9, .int .i64 k, .int .i64 m, .int .i64 imm], .int .u32 a, .int .u32 b] w fun e w' => e = .returned (.int .u32 (F n)) ∧ Below w.heap.size w w' := by
  have H : ∀ w, Calls Try.prog 27 #[.int .i64 9, .int .u32 a, .int .u32 (b % 32)] w fun e w' => e = .returned (.int .u32 (F n)) ∧ w = w' := fun w => by
    rw [← hn, ← hz]; exact shift_9 F n w hn1 hB hS
  have HH := Lib.hid H
  clear H hz hn hB hS
  go_enter Try.func23, Try.ntmps23
  go_wp2_with fail
  refine (HH.out _).mono ?_; rintro e w' ⟨rfl, rfl⟩
  go_wp2
  go_ret
  refine ⟨by simp, ?_⟩
  repeat (first | (with_reducible exact Below.refl _ _) | (with_reducible refine Below.alloc ?_ ?h _; (case h => (first | omega | (simp; done) | (simp; omega)))) | (with_reducible refine Below.drew ?_) | (with_reducible refine below_drewN ?_ _) | (with_reducible refine Below.setCell ?_ ?h _; (case h => (first | omega | (simp; done) | (simp; omega)))) | (with_reducible refine below_row ?_ ?h _; (case h => (first | omega | (simp; done) | (simp; omega)))))
theorem val_r10 (F : Nat → Int) (a b k m imm : Int) (n : Nat) (w : World) (h0 : 0 ≤ a) (h1 : a ≤ 4294967295) (h2 : 0 ≤ b) (h3 : b ≤ 4294967295) (hn : (n : Int) = b % 32) (hn1 : n ≤ 31) (hB : ∀ j, 0 ≤ F j ∧ F j ≤ 4294967295) (hS : ∀ j, F j / 2 + F j / 2147483648 * 2147483648 = F (j + 1)) (hz : F 0 = a) :
    Calls Try.prog 23 #[.agg #[.int .i64 10, .int .i64 k, .int .i64 m, .int .i64 imm], .int .u32 a, .int .u32 b] w fun e w' => e = .returned (.int .u32 (F n)) ∧ Below w.heap.size w w' := by
  have H : ∀ w, Calls Try.prog 27 #[.int .i64 10, .int .u32 a, .int .u32 (b % 32)] w fun e w' => e = .returned (.int .u32 (F n)) ∧ w = w' := fun w => by
    rw [← hn, ← hz]; exact shift_10 F n w hn1 hB hS
  have HH := Lib.hid H
  clear H hz hn hB hS
  go_enter Try.func23, Try.ntmps23
  go_wp2_with fail
  refine (HH.out _).mono ?_; rintro e w' ⟨rfl, rfl⟩
  go_wp2
  go_ret
  refine ⟨by simp, ?_⟩
  repeat (first | (with_reducible exact Below.refl _ _) | (with_reducible refine Below.alloc ?_ ?h _; (case h => (first | omega | (simp; done) | (simp; omega)))) | (with_reducible refine Below.drew ?_) | (with_reducible refine below_drewN ?_ _) | (with_reducible refine Below.setCell ?_ ?h _; (case h => (first | omega | (simp; done) | (simp; omega)))) | (with_reducible refine below_row ?_ ?h _; (case h => (first | omega | (simp; done) | (simp; omega)))))
end Go.Proofs.Ytjmdikabikgjhaa
