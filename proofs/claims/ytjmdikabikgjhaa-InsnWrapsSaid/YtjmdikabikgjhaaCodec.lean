import Derived.Test.YtjmdikabikgjhaaCpu
/- Decode and Encode, of the program and of the reference. -/
namespace Go.Proofs.Ytjmdikabikgjhaa
open Go.RowKit
set_option linter.unusedVariables false
attribute [local go_sem] szIs_lit row_at row_past row_alloc nf_alloc row_set nf_set row_cell nf_cell row_drew nf_drew row_drewN nf_drewN cell_setRow frozen_setRow
set_option maxHeartbeats 400000 in
theorem dec_p_ok (x op imm u : Int) (k m : Nat) (w : World) (hx0 : 0 ≤ x) (hx1 : x ≤ 4294967295) (hk : k < 16) (hm : m < 16) (ho0 : 0 ≤ op) (ho1 : op < 256) (hb1 : bits BinOp.and IntKind.u32 x 255 = op) (hb2 : bits BinOp.and IntKind.u32 (x / 256) 15 = (k : Int)) (hb3 : bits BinOp.and IntKind.u32 (x / 4096) 15 = (m : Int)) (hb4 : IntKind.i16.wrap (x / 65536) = imm) (hi0 : -32768 ≤ imm) (hi1 : imm ≤ 32767) (c1 : 1 ≤ op) (c2 : op ≤ 28)  :
    Calls Try.prog 10 #[.int .u32 x] w fun e w' => e = .returned (.tuple #[.agg #[.int .i64 op, .int .i64 k, .int .i64 m, .int .i64 imm], .int .i64 0]) ∧ Below w.heap.size w w' := by
  go_enter Try.func10, Try.ntmps10
  go_wp2
  refine bodyPost_ret (ret_ct rfl 4 _ _ w.heap.size rfl (by simp [go_sem]) (by simp [go_sem]) (by kernel_rfl) (by kernel_rfl)) rfl ⟨by simp [go_sem], ?_⟩
  repeat (first | (with_reducible exact Below.refl _ _) | (with_reducible refine Below.alloc ?_ ?h _; (case h => (first | (simp; done) | (simp; omega)))) | (with_reducible refine Below.drew ?_) | (with_reducible refine below_drewN ?_ _) | (with_reducible refine Below.setCell ?_ ?h _; (case h => (first | (simp; done) | (simp; omega)))) | (with_reducible refine below_row ?_ ?h _; (case h => (first | (simp; done) | (simp; omega)))))
set_option maxHeartbeats 400000 in
theorem dec_p_lo (x op imm u : Int) (k m : Nat) (w : World) (hx0 : 0 ≤ x) (hx1 : x ≤ 4294967295) (hk : k < 16) (hm : m < 16) (ho0 : 0 ≤ op) (ho1 : op < 256) (hb1 : bits BinOp.and IntKind.u32 x 255 = op) (hb2 : bits BinOp.and IntKind.u32 (x / 256) 15 = (k : Int)) (hb3 : bits BinOp.and IntKind.u32 (x / 4096) 15 = (m : Int)) (hb4 : IntKind.i16.wrap (x / 65536) = imm) (hi0 : -32768 ≤ imm) (hi1 : imm ≤ 32767) (c1 : op < 1)  :
    Calls Try.prog 10 #[.int .u32 x] w fun e w' => e = .returned (.tuple #[.agg #[.int .i64 0, .int .i64 0, .int .i64 0, .int .i64 0], .int .i64 30]) ∧ Below w.heap.size w w' := by
  go_enter Try.func10, Try.ntmps10
  go_wp2
  refine bodyPost_ret (ret_ct rfl 4 _ _ w.heap.size rfl (by simp [go_sem]) (by simp [go_sem]) (by kernel_rfl) (by kernel_rfl)) rfl ⟨by simp [go_sem], ?_⟩
  repeat (first | (with_reducible exact Below.refl _ _) | (with_reducible refine Below.alloc ?_ ?h _; (case h => (first | (simp; done) | (simp; omega)))) | (with_reducible refine Below.drew ?_) | (with_reducible refine below_drewN ?_ _) | (with_reducible refine Below.setCell ?_ ?h _; (case h => (first | (simp; done) | (simp; omega)))) | (with_reducible refine below_row ?_ ?h _; (case h => (first | (simp; done) | (simp; omega)))))
set_option maxHeartbeats 400000 in
theorem dec_p_hi (x op imm u : Int) (k m : Nat) (w : World) (hx0 : 0 ≤ x) (hx1 : x ≤ 4294967295) (hk : k < 16) (hm : m < 16) (ho0 : 0 ≤ op) (ho1 : op < 256) (hb1 : bits BinOp.and IntKind.u32 x 255 = op) (hb2 : bits BinOp.and IntKind.u32 (x / 256) 15 = (k : Int)) (hb3 : bits BinOp.and IntKind.u32 (x / 4096) 15 = (m : Int)) (hb4 : IntKind.i16.wrap (x / 65536) = imm) (hi0 : -32768 ≤ imm) (hi1 : imm ≤ 32767) (c1 : 1 ≤ op) (c2 : 28 < op)  :
    Calls Try.prog 10 #[.int .u32 x] w fun e w' => e = .returned (.tuple #[.agg #[.int .i64 0, .int .i64 0, .int .i64 0, .int .i64 0], .int .i64 30]) ∧ Below w.heap.size w w' := by
  go_enter Try.func10, Try.ntmps10
  go_wp2
  refine bodyPost_ret (ret_ct rfl 4 _ _ w.heap.size rfl (by simp [go_sem]) (by simp [go_sem]) (by kernel_rfl) (by kernel_rfl)) rfl ⟨by simp [go_sem], ?_⟩
  repeat (first | (with_reducible exact Below.refl _ _) | (with_reducible refine Below.alloc ?_ ?h _; (case h => (first | (simp; done) | (simp; omega)))) | (with_reducible refine Below.drew ?_) | (with_reducible refine below_drewN ?_ _) | (with_reducible refine Below.setCell ?_ ?h _; (case h => (first | (simp; done) | (simp; omega)))) | (with_reducible refine below_row ?_ ?h _; (case h => (first | (simp; done) | (simp; omega)))))
set_option maxHeartbeats 400000 in
theorem dec_r_okp (x op imm u : Int) (k m : Nat) (w : World) (hx0 : 0 ≤ x) (hx1 : x ≤ 4294967295) (hk : k < 16) (hm : m < 16) (ho0 : 0 ≤ op) (ho1 : op < 256) (hb1 : x % 256 = op) (hb2 : x / 256 % 16 = (k : Int)) (hb3 : x / 4096 % 16 = (m : Int)) (hb4 : x / 65536 = u) (hu0 : 0 ≤ u) (hu1 : u ≤ 65535) (c1 : 1 ≤ op) (c2 : op ≤ 28) (hu : ¬ 32768 ≤ u) :
    Calls Try.prog 11 #[.int .u32 x] w fun e w' => e = .returned (.tuple #[.agg #[.int .i64 op, .int .i64 k, .int .i64 m, .int .i64 u], .int .i64 0]) ∧ Below w.heap.size w w' := by
  go_enter Try.func11, Try.ntmps11
  go_wp2
  refine bodyPost_ret (ret_ct rfl 4 _ _ w.heap.size rfl (by simp [go_sem]) (by simp [go_sem]) (by kernel_rfl) (by kernel_rfl)) rfl ⟨by simp [go_sem], ?_⟩
  repeat (first | (with_reducible exact Below.refl _ _) | (with_reducible refine Below.alloc ?_ ?h _; (case h => (first | (simp; done) | (simp; omega)))) | (with_reducible refine Below.drew ?_) | (with_reducible refine below_drewN ?_ _) | (with_reducible refine Below.setCell ?_ ?h _; (case h => (first | (simp; done) | (simp; omega)))) | (with_reducible refine below_row ?_ ?h _; (case h => (first | (simp; done) | (simp; omega)))))
set_option maxHeartbeats 400000 in
theorem dec_r_lop (x op imm u : Int) (k m : Nat) (w : World) (hx0 : 0 ≤ x) (hx1 : x ≤ 4294967295) (hk : k < 16) (hm : m < 16) (ho0 : 0 ≤ op) (ho1 : op < 256) (hb1 : x % 256 = op) (hb2 : x / 256 % 16 = (k : Int)) (hb3 : x / 4096 % 16 = (m : Int)) (hb4 : x / 65536 = u) (hu0 : 0 ≤ u) (hu1 : u ≤ 65535) (c1 : op < 1) (hu : ¬ 32768 ≤ u) :
    Calls Try.prog 11 #[.int .u32 x] w fun e w' => e = .returned (.tuple #[.agg #[.int .i64 0, .int .i64 0, .int .i64 0, .int .i64 0], .int .i64 30]) ∧ Below w.heap.size w w' := by
  go_enter Try.func11, Try.ntmps11
  go_wp2
  refine bodyPost_ret (ret_ct rfl 4 _ _ w.heap.size rfl (by simp [go_sem]) (by simp [go_sem]) (by kernel_rfl) (by kernel_rfl)) rfl ⟨by simp [go_sem], ?_⟩
  repeat (first | (with_reducible exact Below.refl _ _) | (with_reducible refine Below.alloc ?_ ?h _; (case h => (first | (simp; done) | (simp; omega)))) | (with_reducible refine Below.drew ?_) | (with_reducible refine below_drewN ?_ _) | (with_reducible refine Below.setCell ?_ ?h _; (case h => (first | (simp; done) | (simp; omega)))) | (with_reducible refine below_row ?_ ?h _; (case h => (first | (simp; done) | (simp; omega)))))
set_option maxHeartbeats 400000 in
theorem dec_r_hip (x op imm u : Int) (k m : Nat) (w : World) (hx0 : 0 ≤ x) (hx1 : x ≤ 4294967295) (hk : k < 16) (hm : m < 16) (ho0 : 0 ≤ op) (ho1 : op < 256) (hb1 : x % 256 = op) (hb2 : x / 256 % 16 = (k : Int)) (hb3 : x / 4096 % 16 = (m : Int)) (hb4 : x / 65536 = u) (hu0 : 0 ≤ u) (hu1 : u ≤ 65535) (c1 : 1 ≤ op) (c2 : 28 < op) (hu : ¬ 32768 ≤ u) :
    Calls Try.prog 11 #[.int .u32 x] w fun e w' => e = .returned (.tuple #[.agg #[.int .i64 0, .int .i64 0, .int .i64 0, .int .i64 0], .int .i64 30]) ∧ Below w.heap.size w w' := by
  go_enter Try.func11, Try.ntmps11
  go_wp2
  refine bodyPost_ret (ret_ct rfl 4 _ _ w.heap.size rfl (by simp [go_sem]) (by simp [go_sem]) (by kernel_rfl) (by kernel_rfl)) rfl ⟨by simp [go_sem], ?_⟩
  repeat (first | (with_reducible exact Below.refl _ _) | (with_reducible refine Below.alloc ?_ ?h _; (case h => (first | (simp; done) | (simp; omega)))) | (with_reducible refine Below.drew ?_) | (with_reducible refine below_drewN ?_ _) | (with_reducible refine Below.setCell ?_ ?h _; (case h => (first | (simp; done) | (simp; omega)))) | (with_reducible refine below_row ?_ ?h _; (case h => (first | (simp; done) | (simp; omega)))))
set_option maxHeartbeats 400000 in
theorem dec_r_okn (x op imm u : Int) (k m : Nat) (w : World) (hx0 : 0 ≤ x) (hx1 : x ≤ 4294967295) (hk : k < 16) (hm : m < 16) (ho0 : 0 ≤ op) (ho1 : op < 256) (hb1 : x % 256 = op) (hb2 : x / 256 % 16 = (k : Int)) (hb3 : x / 4096 % 16 = (m : Int)) (hb4 : x / 65536 = u) (hu0 : 0 ≤ u) (hu1 : u ≤ 65535) (c1 : 1 ≤ op) (c2 : op ≤ 28) (hu : 32768 ≤ u) :
    Calls Try.prog 11 #[.int .u32 x] w fun e w' => e = .returned (.tuple #[.agg #[.int .i64 op, .int .i64 k, .int .i64 m, .int .i64 (u - 65536)], .int .i64 0]) ∧ Below w.heap.size w w' := by
  go_enter Try.func11, Try.ntmps11
  go_wp2
  refine bodyPost_ret (ret_ct rfl 4 _ _ w.heap.size rfl (by simp [go_sem]) (by simp [go_sem]) (by kernel_rfl) (by kernel_rfl)) rfl ⟨by simp [go_sem], ?_⟩
  repeat (first | (with_reducible exact Below.refl _ _) | (with_reducible refine Below.alloc ?_ ?h _; (case h => (first | (simp; done) | (simp; omega)))) | (with_reducible refine Below.drew ?_) | (with_reducible refine below_drewN ?_ _) | (with_reducible refine Below.setCell ?_ ?h _; (case h => (first | (simp; done) | (simp; omega)))) | (with_reducible refine below_row ?_ ?h _; (case h => (first | (simp; done) | (simp; omega)))))
set_option maxHeartbeats 400000 in
theorem dec_r_lon (x op imm u : Int) (k m : Nat) (w : World) (hx0 : 0 ≤ x) (hx1 : x ≤ 4294967295) (hk : k < 16) (hm : m < 16) (ho0 : 0 ≤ op) (ho1 : op < 256) (hb1 : x % 256 = op) (hb2 : x / 256 % 16 = (k : Int)) (hb3 : x / 4096 % 16 = (m : Int)) (hb4 : x / 65536 = u) (hu0 : 0 ≤ u) (hu1 : u ≤ 65535) (c1 : op < 1) (hu : 32768 ≤ u) :
    Calls Try.prog 11 #[.int .u32 x] w fun e w' => e = .returned (.tuple #[.agg #[.int .i64 0, .int .i64 0, .int .i64 0, .int .i64 0], .int .i64 30]) ∧ Below w.heap.size w w' := by
  go_enter Try.func11, Try.ntmps11
  go_wp2
  refine bodyPost_ret (ret_ct rfl 4 _ _ w.heap.size rfl (by simp [go_sem]) (by simp [go_sem]) (by kernel_rfl) (by kernel_rfl)) rfl ⟨by simp [go_sem], ?_⟩
  repeat (first | (with_reducible exact Below.refl _ _) | (with_reducible refine Below.alloc ?_ ?h _; (case h => (first | (simp; done) | (simp; omega)))) | (with_reducible refine Below.drew ?_) | (with_reducible refine below_drewN ?_ _) | (with_reducible refine Below.setCell ?_ ?h _; (case h => (first | (simp; done) | (simp; omega)))) | (with_reducible refine below_row ?_ ?h _; (case h => (first | (simp; done) | (simp; omega)))))
set_option maxHeartbeats 400000 in
theorem dec_r_hin (x op imm u : Int) (k m : Nat) (w : World) (hx0 : 0 ≤ x) (hx1 : x ≤ 4294967295) (hk : k < 16) (hm : m < 16) (ho0 : 0 ≤ op) (ho1 : op < 256) (hb1 : x % 256 = op) (hb2 : x / 256 % 16 = (k : Int)) (hb3 : x / 4096 % 16 = (m : Int)) (hb4 : x / 65536 = u) (hu0 : 0 ≤ u) (hu1 : u ≤ 65535) (c1 : 1 ≤ op) (c2 : 28 < op) (hu : 32768 ≤ u) :
    Calls Try.prog 11 #[.int .u32 x] w fun e w' => e = .returned (.tuple #[.agg #[.int .i64 0, .int .i64 0, .int .i64 0, .int .i64 0], .int .i64 30]) ∧ Below w.heap.size w w' := by
  go_enter Try.func11, Try.ntmps11
  go_wp2
  refine bodyPost_ret (ret_ct rfl 4 _ _ w.heap.size rfl (by simp [go_sem]) (by simp [go_sem]) (by kernel_rfl) (by kernel_rfl)) rfl ⟨by simp [go_sem], ?_⟩
  repeat (first | (with_reducible exact Below.refl _ _) | (with_reducible refine Below.alloc ?_ ?h _; (case h => (first | (simp; done) | (simp; omega)))) | (with_reducible refine Below.drew ?_) | (with_reducible refine below_drewN ?_ _) | (with_reducible refine Below.setCell ?_ ?h _; (case h => (first | (simp; done) | (simp; omega)))) | (with_reducible refine below_row ?_ ?h _; (case h => (first | (simp; done) | (simp; omega)))))
set_option maxHeartbeats 400000 in
theorem enc_p_ok (op k m imm z : Int) (w : World) (a1 : 1 ≤ op) (a2 : op ≤ 28) (a3 : 0 ≤ k) (a4 : k ≤ 15) (a5 : 0 ≤ m) (a6 : m ≤ 15) (a7 : -32768 ≤ imm) (a8 : imm ≤ 32767) (hz : IntKind.u16.wrap imm = z) (hz0 : 0 ≤ z) (hz1 : z < 65536) (o1 : bits BinOp.or IntKind.u32 op (k * 256) = op + 256 * k) (o2 : bits BinOp.or IntKind.u32 (op + 256 * k) (m * 4096) = op + 256 * k + 4096 * m) (o3 : bits BinOp.or IntKind.u32 (op + 256 * k + 4096 * m) (z * 65536) = op + 256 * k + 4096 * m + 65536 * z) :
    Calls Try.prog 13 #[.agg #[.int .i64 op, .int .i64 k, .int .i64 m, .int .i64 imm]] w fun e w' => e = .returned (.tuple #[.int .u32 (op + 256 * k + 4096 * m + 65536 * z), .int .i64 0]) ∧ Below w.heap.size w w' := by
  go_enter Try.func13, Try.ntmps13
  go_wp2
  go_ret2
  refine ⟨by simp, ?_⟩
  repeat (first | (with_reducible exact Below.refl _ _) | (with_reducible refine Below.alloc ?_ ?h _; (case h => (first | (simp; done) | (simp; omega)))) | (with_reducible refine Below.drew ?_) | (with_reducible refine below_drewN ?_ _) | (with_reducible refine Below.setCell ?_ ?h _; (case h => (first | (simp; done) | (simp; omega)))) | (with_reducible refine below_row ?_ ?h _; (case h => (first | (simp; done) | (simp; omega)))))
set_option maxHeartbeats 400000 in
theorem enc_p_bad1 (op k m imm z : Int) (w : World)  (b : op < 1) :
    Calls Try.prog 13 #[.agg #[.int .i64 op, .int .i64 k, .int .i64 m, .int .i64 imm]] w fun e w' => e = .returned (.tuple #[.int .u32 0, .int .i64 30]) ∧ Below w.heap.size w w' := by
  go_enter Try.func13, Try.ntmps13
  go_wp2
  go_ret2
  refine ⟨by simp, ?_⟩
  repeat (first | (with_reducible exact Below.refl _ _) | (with_reducible refine Below.alloc ?_ ?h _; (case h => (first | (simp; done) | (simp; omega)))) | (with_reducible refine Below.drew ?_) | (with_reducible refine below_drewN ?_ _) | (with_reducible refine Below.setCell ?_ ?h _; (case h => (first | (simp; done) | (simp; omega)))) | (with_reducible refine below_row ?_ ?h _; (case h => (first | (simp; done) | (simp; omega)))))
set_option maxHeartbeats 400000 in
theorem enc_p_bad2 (op k m imm z : Int) (w : World) (a1 : 1 ≤ op) (b : 28 < op) :
    Calls Try.prog 13 #[.agg #[.int .i64 op, .int .i64 k, .int .i64 m, .int .i64 imm]] w fun e w' => e = .returned (.tuple #[.int .u32 0, .int .i64 30]) ∧ Below w.heap.size w w' := by
  go_enter Try.func13, Try.ntmps13
  go_wp2
  go_ret2
  refine ⟨by simp, ?_⟩
  repeat (first | (with_reducible exact Below.refl _ _) | (with_reducible refine Below.alloc ?_ ?h _; (case h => (first | (simp; done) | (simp; omega)))) | (with_reducible refine Below.drew ?_) | (with_reducible refine below_drewN ?_ _) | (with_reducible refine Below.setCell ?_ ?h _; (case h => (first | (simp; done) | (simp; omega)))) | (with_reducible refine below_row ?_ ?h _; (case h => (first | (simp; done) | (simp; omega)))))
set_option maxHeartbeats 400000 in
theorem enc_p_bad3 (op k m imm z : Int) (w : World) (a1 : 1 ≤ op) (a2 : op ≤ 28) (b : k < 0) :
    Calls Try.prog 13 #[.agg #[.int .i64 op, .int .i64 k, .int .i64 m, .int .i64 imm]] w fun e w' => e = .returned (.tuple #[.int .u32 0, .int .i64 30]) ∧ Below w.heap.size w w' := by
  go_enter Try.func13, Try.ntmps13
  go_wp2
  go_ret2
  refine ⟨by simp, ?_⟩
  repeat (first | (with_reducible exact Below.refl _ _) | (with_reducible refine Below.alloc ?_ ?h _; (case h => (first | (simp; done) | (simp; omega)))) | (with_reducible refine Below.drew ?_) | (with_reducible refine below_drewN ?_ _) | (with_reducible refine Below.setCell ?_ ?h _; (case h => (first | (simp; done) | (simp; omega)))) | (with_reducible refine below_row ?_ ?h _; (case h => (first | (simp; done) | (simp; omega)))))
set_option maxHeartbeats 400000 in
theorem enc_p_bad4 (op k m imm z : Int) (w : World) (a1 : 1 ≤ op) (a2 : op ≤ 28) (a3 : 0 ≤ k) (b : 16 ≤ k) :
    Calls Try.prog 13 #[.agg #[.int .i64 op, .int .i64 k, .int .i64 m, .int .i64 imm]] w fun e w' => e = .returned (.tuple #[.int .u32 0, .int .i64 30]) ∧ Below w.heap.size w w' := by
  go_enter Try.func13, Try.ntmps13
  go_wp2
  go_ret2
  refine ⟨by simp, ?_⟩
  repeat (first | (with_reducible exact Below.refl _ _) | (with_reducible refine Below.alloc ?_ ?h _; (case h => (first | (simp; done) | (simp; omega)))) | (with_reducible refine Below.drew ?_) | (with_reducible refine below_drewN ?_ _) | (with_reducible refine Below.setCell ?_ ?h _; (case h => (first | (simp; done) | (simp; omega)))) | (with_reducible refine below_row ?_ ?h _; (case h => (first | (simp; done) | (simp; omega)))))
set_option maxHeartbeats 400000 in
theorem enc_p_bad5 (op k m imm z : Int) (w : World) (a1 : 1 ≤ op) (a2 : op ≤ 28) (a3 : 0 ≤ k) (a4 : k ≤ 15) (b : m < 0) :
    Calls Try.prog 13 #[.agg #[.int .i64 op, .int .i64 k, .int .i64 m, .int .i64 imm]] w fun e w' => e = .returned (.tuple #[.int .u32 0, .int .i64 30]) ∧ Below w.heap.size w w' := by
  go_enter Try.func13, Try.ntmps13
  go_wp2
  go_ret2
  refine ⟨by simp, ?_⟩
  repeat (first | (with_reducible exact Below.refl _ _) | (with_reducible refine Below.alloc ?_ ?h _; (case h => (first | (simp; done) | (simp; omega)))) | (with_reducible refine Below.drew ?_) | (with_reducible refine below_drewN ?_ _) | (with_reducible refine Below.setCell ?_ ?h _; (case h => (first | (simp; done) | (simp; omega)))) | (with_reducible refine below_row ?_ ?h _; (case h => (first | (simp; done) | (simp; omega)))))
set_option maxHeartbeats 400000 in
theorem enc_p_bad6 (op k m imm z : Int) (w : World) (a1 : 1 ≤ op) (a2 : op ≤ 28) (a3 : 0 ≤ k) (a4 : k ≤ 15) (a5 : 0 ≤ m) (b : 16 ≤ m) :
    Calls Try.prog 13 #[.agg #[.int .i64 op, .int .i64 k, .int .i64 m, .int .i64 imm]] w fun e w' => e = .returned (.tuple #[.int .u32 0, .int .i64 30]) ∧ Below w.heap.size w w' := by
  go_enter Try.func13, Try.ntmps13
  go_wp2
  go_ret2
  refine ⟨by simp, ?_⟩
  repeat (first | (with_reducible exact Below.refl _ _) | (with_reducible refine Below.alloc ?_ ?h _; (case h => (first | (simp; done) | (simp; omega)))) | (with_reducible refine Below.drew ?_) | (with_reducible refine below_drewN ?_ _) | (with_reducible refine Below.setCell ?_ ?h _; (case h => (first | (simp; done) | (simp; omega)))) | (with_reducible refine below_row ?_ ?h _; (case h => (first | (simp; done) | (simp; omega)))))
set_option maxHeartbeats 400000 in
theorem enc_p_bad7 (op k m imm z : Int) (w : World) (a1 : 1 ≤ op) (a2 : op ≤ 28) (a3 : 0 ≤ k) (a4 : k ≤ 15) (a5 : 0 ≤ m) (a6 : m ≤ 15) (b : imm < -32768) :
    Calls Try.prog 13 #[.agg #[.int .i64 op, .int .i64 k, .int .i64 m, .int .i64 imm]] w fun e w' => e = .returned (.tuple #[.int .u32 0, .int .i64 30]) ∧ Below w.heap.size w w' := by
  go_enter Try.func13, Try.ntmps13
  go_wp2
  go_ret2
  refine ⟨by simp, ?_⟩
  repeat (first | (with_reducible exact Below.refl _ _) | (with_reducible refine Below.alloc ?_ ?h _; (case h => (first | (simp; done) | (simp; omega)))) | (with_reducible refine Below.drew ?_) | (with_reducible refine below_drewN ?_ _) | (with_reducible refine Below.setCell ?_ ?h _; (case h => (first | (simp; done) | (simp; omega)))) | (with_reducible refine below_row ?_ ?h _; (case h => (first | (simp; done) | (simp; omega)))))
set_option maxHeartbeats 400000 in
theorem enc_p_bad8 (op k m imm z : Int) (w : World) (a1 : 1 ≤ op) (a2 : op ≤ 28) (a3 : 0 ≤ k) (a4 : k ≤ 15) (a5 : 0 ≤ m) (a6 : m ≤ 15) (a7 : -32768 ≤ imm) (b : 32767 < imm) :
    Calls Try.prog 13 #[.agg #[.int .i64 op, .int .i64 k, .int .i64 m, .int .i64 imm]] w fun e w' => e = .returned (.tuple #[.int .u32 0, .int .i64 30]) ∧ Below w.heap.size w w' := by
  go_enter Try.func13, Try.ntmps13
  go_wp2
  go_ret2
  refine ⟨by simp, ?_⟩
  repeat (first | (with_reducible exact Below.refl _ _) | (with_reducible refine Below.alloc ?_ ?h _; (case h => (first | (simp; done) | (simp; omega)))) | (with_reducible refine Below.drew ?_) | (with_reducible refine below_drewN ?_ _) | (with_reducible refine Below.setCell ?_ ?h _; (case h => (first | (simp; done) | (simp; omega)))) | (with_reducible refine below_row ?_ ?h _; (case h => (first | (simp; done) | (simp; omega)))))
set_option maxHeartbeats 400000 in
theorem enc_r_okp (op k m imm z : Int) (w : World) (a1 : 1 ≤ op) (a2 : op ≤ 28) (a3 : 0 ≤ k) (a4 : k ≤ 15) (a5 : 0 ≤ m) (a6 : m ≤ 15) (a7 : -32768 ≤ imm) (a8 : imm ≤ 32767) (hi : 0 ≤ imm) :
    Calls Try.prog 14 #[.agg #[.int .i64 op, .int .i64 k, .int .i64 m, .int .i64 imm]] w fun e w' => e = .returned (.tuple #[.int .u32 (op + 256 * k + 4096 * m + 65536 * imm), .int .i64 0]) ∧ Below w.heap.size w w' := by
  go_enter Try.func14, Try.ntmps14
  go_wp2
  go_ret2
  refine ⟨by simp, ?_⟩
  repeat (first | (with_reducible exact Below.refl _ _) | (with_reducible refine Below.alloc ?_ ?h _; (case h => (first | (simp; done) | (simp; omega)))) | (with_reducible refine Below.drew ?_) | (with_reducible refine below_drewN ?_ _) | (with_reducible refine Below.setCell ?_ ?h _; (case h => (first | (simp; done) | (simp; omega)))) | (with_reducible refine below_row ?_ ?h _; (case h => (first | (simp; done) | (simp; omega)))))
set_option maxHeartbeats 400000 in
theorem enc_r_okn (op k m imm z : Int) (w : World) (a1 : 1 ≤ op) (a2 : op ≤ 28) (a3 : 0 ≤ k) (a4 : k ≤ 15) (a5 : 0 ≤ m) (a6 : m ≤ 15) (a7 : -32768 ≤ imm) (a8 : imm ≤ 32767) (hi : imm < 0) :
    Calls Try.prog 14 #[.agg #[.int .i64 op, .int .i64 k, .int .i64 m, .int .i64 imm]] w fun e w' => e = .returned (.tuple #[.int .u32 (op + 256 * k + 4096 * m + 65536 * (imm + 65536)), .int .i64 0]) ∧ Below w.heap.size w w' := by
  go_enter Try.func14, Try.ntmps14
  go_wp2
  go_ret2
  refine ⟨by simp, ?_⟩
  repeat (first | (with_reducible exact Below.refl _ _) | (with_reducible refine Below.alloc ?_ ?h _; (case h => (first | (simp; done) | (simp; omega)))) | (with_reducible refine Below.drew ?_) | (with_reducible refine below_drewN ?_ _) | (with_reducible refine Below.setCell ?_ ?h _; (case h => (first | (simp; done) | (simp; omega)))) | (with_reducible refine below_row ?_ ?h _; (case h => (first | (simp; done) | (simp; omega)))))
set_option maxHeartbeats 400000 in
theorem enc_r_bad1 (op k m imm z : Int) (w : World)  (b : op < 1) :
    Calls Try.prog 14 #[.agg #[.int .i64 op, .int .i64 k, .int .i64 m, .int .i64 imm]] w fun e w' => e = .returned (.tuple #[.int .u32 0, .int .i64 30]) ∧ Below w.heap.size w w' := by
  go_enter Try.func14, Try.ntmps14
  go_wp2
  go_ret2
  refine ⟨by simp, ?_⟩
  repeat (first | (with_reducible exact Below.refl _ _) | (with_reducible refine Below.alloc ?_ ?h _; (case h => (first | (simp; done) | (simp; omega)))) | (with_reducible refine Below.drew ?_) | (with_reducible refine below_drewN ?_ _) | (with_reducible refine Below.setCell ?_ ?h _; (case h => (first | (simp; done) | (simp; omega)))) | (with_reducible refine below_row ?_ ?h _; (case h => (first | (simp; done) | (simp; omega)))))
set_option maxHeartbeats 400000 in
theorem enc_r_bad2 (op k m imm z : Int) (w : World) (a1 : 1 ≤ op) (b : 28 < op) :
    Calls Try.prog 14 #[.agg #[.int .i64 op, .int .i64 k, .int .i64 m, .int .i64 imm]] w fun e w' => e = .returned (.tuple #[.int .u32 0, .int .i64 30]) ∧ Below w.heap.size w w' := by
  go_enter Try.func14, Try.ntmps14
  go_wp2
  go_ret2
  refine ⟨by simp, ?_⟩
  repeat (first | (with_reducible exact Below.refl _ _) | (with_reducible refine Below.alloc ?_ ?h _; (case h => (first | (simp; done) | (simp; omega)))) | (with_reducible refine Below.drew ?_) | (with_reducible refine below_drewN ?_ _) | (with_reducible refine Below.setCell ?_ ?h _; (case h => (first | (simp; done) | (simp; omega)))) | (with_reducible refine below_row ?_ ?h _; (case h => (first | (simp; done) | (simp; omega)))))
set_option maxHeartbeats 400000 in
theorem enc_r_bad3 (op k m imm z : Int) (w : World) (a1 : 1 ≤ op) (a2 : op ≤ 28) (b : k < 0) :
    Calls Try.prog 14 #[.agg #[.int .i64 op, .int .i64 k, .int .i64 m, .int .i64 imm]] w fun e w' => e = .returned (.tuple #[.int .u32 0, .int .i64 30]) ∧ Below w.heap.size w w' := by
  go_enter Try.func14, Try.ntmps14
  go_wp2
  go_ret2
  refine ⟨by simp, ?_⟩
  repeat (first | (with_reducible exact Below.refl _ _) | (with_reducible refine Below.alloc ?_ ?h _; (case h => (first | (simp; done) | (simp; omega)))) | (with_reducible refine Below.drew ?_) | (with_reducible refine below_drewN ?_ _) | (with_reducible refine Below.setCell ?_ ?h _; (case h => (first | (simp; done) | (simp; omega)))) | (with_reducible refine below_row ?_ ?h _; (case h => (first | (simp; done) | (simp; omega)))))
set_option maxHeartbeats 400000 in
theorem enc_r_bad4 (op k m imm z : Int) (w : World) (a1 : 1 ≤ op) (a2 : op ≤ 28) (a3 : 0 ≤ k) (b : 16 ≤ k) :
    Calls Try.prog 14 #[.agg #[.int .i64 op, .int .i64 k, .int .i64 m, .int .i64 imm]] w fun e w' => e = .returned (.tuple #[.int .u32 0, .int .i64 30]) ∧ Below w.heap.size w w' := by
  go_enter Try.func14, Try.ntmps14
  go_wp2
  go_ret2
  refine ⟨by simp, ?_⟩
  repeat (first | (with_reducible exact Below.refl _ _) | (with_reducible refine Below.alloc ?_ ?h _; (case h => (first | (simp; done) | (simp; omega)))) | (with_reducible refine Below.drew ?_) | (with_reducible refine below_drewN ?_ _) | (with_reducible refine Below.setCell ?_ ?h _; (case h => (first | (simp; done) | (simp; omega)))) | (with_reducible refine below_row ?_ ?h _; (case h => (first | (simp; done) | (simp; omega)))))
set_option maxHeartbeats 400000 in
theorem enc_r_bad5 (op k m imm z : Int) (w : World) (a1 : 1 ≤ op) (a2 : op ≤ 28) (a3 : 0 ≤ k) (a4 : k ≤ 15) (b : m < 0) :
    Calls Try.prog 14 #[.agg #[.int .i64 op, .int .i64 k, .int .i64 m, .int .i64 imm]] w fun e w' => e = .returned (.tuple #[.int .u32 0, .int .i64 30]) ∧ Below w.heap.size w w' := by
  go_enter Try.func14, Try.ntmps14
  go_wp2
  go_ret2
  refine ⟨by simp, ?_⟩
  repeat (first | (with_reducible exact Below.refl _ _) | (with_reducible refine Below.alloc ?_ ?h _; (case h => (first | (simp; done) | (simp; omega)))) | (with_reducible refine Below.drew ?_) | (with_reducible refine below_drewN ?_ _) | (with_reducible refine Below.setCell ?_ ?h _; (case h => (first | (simp; done) | (simp; omega)))) | (with_reducible refine below_row ?_ ?h _; (case h => (first | (simp; done) | (simp; omega)))))
set_option maxHeartbeats 400000 in
theorem enc_r_bad6 (op k m imm z : Int) (w : World) (a1 : 1 ≤ op) (a2 : op ≤ 28) (a3 : 0 ≤ k) (a4 : k ≤ 15) (a5 : 0 ≤ m) (b : 16 ≤ m) :
    Calls Try.prog 14 #[.agg #[.int .i64 op, .int .i64 k, .int .i64 m, .int .i64 imm]] w fun e w' => e = .returned (.tuple #[.int .u32 0, .int .i64 30]) ∧ Below w.heap.size w w' := by
  go_enter Try.func14, Try.ntmps14
  go_wp2
  go_ret2
  refine ⟨by simp, ?_⟩
  repeat (first | (with_reducible exact Below.refl _ _) | (with_reducible refine Below.alloc ?_ ?h _; (case h => (first | (simp; done) | (simp; omega)))) | (with_reducible refine Below.drew ?_) | (with_reducible refine below_drewN ?_ _) | (with_reducible refine Below.setCell ?_ ?h _; (case h => (first | (simp; done) | (simp; omega)))) | (with_reducible refine below_row ?_ ?h _; (case h => (first | (simp; done) | (simp; omega)))))
set_option maxHeartbeats 400000 in
theorem enc_r_bad7 (op k m imm z : Int) (w : World) (a1 : 1 ≤ op) (a2 : op ≤ 28) (a3 : 0 ≤ k) (a4 : k ≤ 15) (a5 : 0 ≤ m) (a6 : m ≤ 15) (b : imm < -32768) :
    Calls Try.prog 14 #[.agg #[.int .i64 op, .int .i64 k, .int .i64 m, .int .i64 imm]] w fun e w' => e = .returned (.tuple #[.int .u32 0, .int .i64 30]) ∧ Below w.heap.size w w' := by
  go_enter Try.func14, Try.ntmps14
  go_wp2
  go_ret2
  refine ⟨by simp, ?_⟩
  repeat (first | (with_reducible exact Below.refl _ _) | (with_reducible refine Below.alloc ?_ ?h _; (case h => (first | (simp; done) | (simp; omega)))) | (with_reducible refine Below.drew ?_) | (with_reducible refine below_drewN ?_ _) | (with_reducible refine Below.setCell ?_ ?h _; (case h => (first | (simp; done) | (simp; omega)))) | (with_reducible refine below_row ?_ ?h _; (case h => (first | (simp; done) | (simp; omega)))))
set_option maxHeartbeats 400000 in
theorem enc_r_bad8 (op k m imm z : Int) (w : World) (a1 : 1 ≤ op) (a2 : op ≤ 28) (a3 : 0 ≤ k) (a4 : k ≤ 15) (a5 : 0 ≤ m) (a6 : m ≤ 15) (a7 : -32768 ≤ imm) (b : 32767 < imm) :
    Calls Try.prog 14 #[.agg #[.int .i64 op, .int .i64 k, .int .i64 m, .int .i64 imm]] w fun e w' => e = .returned (.tuple #[.int .u32 0, .int .i64 30]) ∧ Below w.heap.size w w' := by
  go_enter Try.func14, Try.ntmps14
  go_wp2
  go_ret2
  refine ⟨by simp, ?_⟩
  repeat (first | (with_reducible exact Below.refl _ _) | (with_reducible refine Below.alloc ?_ ?h _; (case h => (first | (simp; done) | (simp; omega)))) | (with_reducible refine Below.drew ?_) | (with_reducible refine below_drewN ?_ _) | (with_reducible refine Below.setCell ?_ ?h _; (case h => (first | (simp; done) | (simp; omega)))) | (with_reducible refine below_row ?_ ?h _; (case h => (first | (simp; done) | (simp; omega)))))
end Go.Proofs.Ytjmdikabikgjhaa
