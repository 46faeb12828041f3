import Derived.Test.YtjmdikabikgjhaaCpu
import Derived.Deep.QuietTactic
import Derived.BigQuiet
/- The act of an instruction that asks the memory. -/
namespace Go.Proofs.Ytjmdikabikgjhaa
open Go.RowKit
set_option linter.unusedVariables false
attribute [local go_sem] cpu_get cpu_get16 cpu_set cpu_set16 szIs_cpu szIs_lit row_at row_past row_alloc nf_alloc row_set nf_set row_cell nf_cell row_drew nf_drew row_drewN nf_drewN cell_setRow frozen_setRow nlt1 nlt2 nlt3 nlt4 nne1 nne2 nne3 nen1 nen2 nen3
attribute [local go_sem ↓] exec_load35 exec_store35
attribute [local go_sem] run_load35 run_store35

set_option maxHeartbeats 400000 in
set_option maxRecDepth 100000 in
theorem mem_lw (r : Nat → Int) (pc imm : Int) (k m : Nat) (w : World) (hk : k < 16) (hm : m < 16) :
    Calls Try.prog 19 #[.agg (cpu r pc), .agg #[.int .i64 17, .int .i64 k, .int .i64 m, .int .i64 imm]] w
      fun e w' => e = .returned (.tuple #[.agg #[.int .i64 2, .int .u32 ((r m + imm) % 4294967296), .int .i64 4, .int .i64 k, .int .u32 0, .int .u32 0], .bool true]) ∧ Below w.heap.size w w' := by
  go_enter Try.func19, Try.ntmps19
  go_wp2_with fail
  go_quiet (fail)
  go_wp2
  refine bodyPost_ret (ret_ct rfl 6 _ _ (w.heap.size + 1 + 1) rfl (by simp [go_sem]) (by simp [go_sem]) (by kernel_rfl) (by kernel_rfl)) rfl ⟨by simp [go_sem], ?_⟩
  repeat (first | (with_reducible exact Below.refl _ _) | (with_reducible refine Below.alloc ?_ ?h _; (case h => (first | omega | (simp; done) | (simp; omega)))) | (with_reducible refine Below.drew ?_) | (with_reducible refine below_drewN ?_ _) | (with_reducible refine Below.setCell ?_ ?h _; (case h => (first | omega | (simp; done) | (simp; omega)))) | (with_reducible refine below_row ?_ ?h _; (case h => (first | omega | (simp; done) | (simp; omega)))))
set_option maxHeartbeats 400000 in
set_option maxRecDepth 100000 in
theorem mem_lb (r : Nat → Int) (pc imm : Int) (k m : Nat) (w : World) (hk : k < 16) (hm : m < 16) :
    Calls Try.prog 19 #[.agg (cpu r pc), .agg #[.int .i64 19, .int .i64 k, .int .i64 m, .int .i64 imm]] w
      fun e w' => e = .returned (.tuple #[.agg #[.int .i64 2, .int .u32 ((r m + imm) % 4294967296), .int .i64 1, .int .i64 k, .int .u32 0, .int .u32 0], .bool true]) ∧ Below w.heap.size w w' := by
  go_enter Try.func19, Try.ntmps19
  go_wp2_with fail
  go_quiet (fail)
  go_wp2
  refine bodyPost_ret (ret_ct rfl 6 _ _ (w.heap.size + 1 + 1) rfl (by simp [go_sem]) (by simp [go_sem]) (by kernel_rfl) (by kernel_rfl)) rfl ⟨by simp [go_sem], ?_⟩
  repeat (first | (with_reducible exact Below.refl _ _) | (with_reducible refine Below.alloc ?_ ?h _; (case h => (first | omega | (simp; done) | (simp; omega)))) | (with_reducible refine Below.drew ?_) | (with_reducible refine below_drewN ?_ _) | (with_reducible refine Below.setCell ?_ ?h _; (case h => (first | omega | (simp; done) | (simp; omega)))) | (with_reducible refine below_row ?_ ?h _; (case h => (first | omega | (simp; done) | (simp; omega)))))
set_option maxHeartbeats 400000 in
set_option maxRecDepth 100000 in
theorem mem_sw (r : Nat → Int) (pc imm : Int) (k m : Nat) (w : World) (hk : k < 16) (hm : m < 16) :
    Calls Try.prog 19 #[.agg (cpu r pc), .agg #[.int .i64 18, .int .i64 k, .int .i64 m, .int .i64 imm]] w
      fun e w' => e = .returned (.tuple #[.agg #[.int .i64 3, .int .u32 ((r m + imm) % 4294967296), .int .i64 4, .int .i64 0, .int .u32 (r k), .int .u32 0], .bool true]) ∧ Below w.heap.size w w' := by
  go_enter Try.func19, Try.ntmps19
  go_wp2_with fail
  go_quiet (fail)
  go_wp2
  refine bodyPost_ret (ret_ct rfl 6 _ _ (w.heap.size + 1 + 1) rfl (by simp [go_sem]) (by simp [go_sem]) (by kernel_rfl) (by kernel_rfl)) rfl ⟨by simp [go_sem], ?_⟩
  repeat (first | (with_reducible exact Below.refl _ _) | (with_reducible refine Below.alloc ?_ ?h _; (case h => (first | omega | (simp; done) | (simp; omega)))) | (with_reducible refine Below.drew ?_) | (with_reducible refine below_drewN ?_ _) | (with_reducible refine Below.setCell ?_ ?h _; (case h => (first | omega | (simp; done) | (simp; omega)))) | (with_reducible refine below_row ?_ ?h _; (case h => (first | omega | (simp; done) | (simp; omega)))))
set_option maxHeartbeats 400000 in
set_option maxRecDepth 100000 in
theorem mem_sb (r : Nat → Int) (pc imm : Int) (k m : Nat) (w : World) (hk : k < 16) (hm : m < 16) (hb255 : bits BinOp.and IntKind.u32 (r k) 255 = r k % 256) :
    Calls Try.prog 19 #[.agg (cpu r pc), .agg #[.int .i64 20, .int .i64 k, .int .i64 m, .int .i64 imm]] w
      fun e w' => e = .returned (.tuple #[.agg #[.int .i64 3, .int .u32 ((r m + imm) % 4294967296), .int .i64 1, .int .i64 0, .int .u32 (r k % 256), .int .u32 0], .bool true]) ∧ Below w.heap.size w w' := by
  go_enter Try.func19, Try.ntmps19
  go_wp2_with fail
  go_quiet (fail)
  go_wp2
  refine bodyPost_ret (ret_ct rfl 6 _ _ (w.heap.size + 1 + 1) rfl (by simp [go_sem]) (by simp [go_sem]) (by kernel_rfl) (by kernel_rfl)) rfl ⟨by simp [go_sem], ?_⟩
  repeat (first | (with_reducible exact Below.refl _ _) | (with_reducible refine Below.alloc ?_ ?h _; (case h => (first | omega | (simp; done) | (simp; omega)))) | (with_reducible refine Below.drew ?_) | (with_reducible refine below_drewN ?_ _) | (with_reducible refine Below.setCell ?_ ?h _; (case h => (first | omega | (simp; done) | (simp; omega)))) | (with_reducible refine below_row ?_ ?h _; (case h => (first | omega | (simp; done) | (simp; omega)))))
set_option maxHeartbeats 400000 in
set_option maxRecDepth 100000 in
theorem mem_cas (r : Nat → Int) (pc imm : Int) (k m : Nat) (w : World) (hk : k < 16) (hm : m < 16) :
    Calls Try.prog 19 #[.agg (cpu r pc), .agg #[.int .i64 27, .int .i64 k, .int .i64 m, .int .i64 imm]] w
      fun e w' => e = .returned (.tuple #[.agg #[.int .i64 4, .int .u32 ((r m + imm) % 4294967296), .int .i64 4, .int .i64 0, .int .u32 (r k), .int .u32 (r 15)], .bool true]) ∧ Below w.heap.size w w' := by
  go_enter Try.func19, Try.ntmps19
  go_wp2_with fail
  go_quiet (fail)
  go_wp2
  go_region
  go_wp2
  refine bodyPost_ret (ret_ct rfl 6 _ _ (w.heap.size + 1 + 1) rfl (by simp [go_sem]) (by simp [go_sem]) (by kernel_rfl) (by kernel_rfl)) rfl ⟨by simp [go_sem], ?_⟩
  repeat (first | (with_reducible exact Below.refl _ _) | (with_reducible refine Below.alloc ?_ ?h _; (case h => (first | omega | (simp; done) | (simp; omega)))) | (with_reducible refine Below.drew ?_) | (with_reducible refine below_drewN ?_ _) | (with_reducible refine Below.setCell ?_ ?h _; (case h => (first | omega | (simp; done) | (simp; omega)))) | (with_reducible refine below_row ?_ ?h _; (case h => (first | omega | (simp; done) | (simp; omega)))))
set_option maxHeartbeats 400000 in
set_option maxRecDepth 100000 in
theorem mem_none (r : Nat → Int) (pc imm : Int) (k m : Nat) (op : Int) (w : World) (hk : k < 16) (hm : m < 16) (h1 : (op == 17) = false) (h2 : (op == 18) = false) (h3 : (op == 19) = false) (h4 : (op == 20) = false) (h5 : (op == 27) = false) :
    Calls Try.prog 19 #[.agg (cpu r pc), .agg #[.int .i64 op, .int .i64 k, .int .i64 m, .int .i64 imm]] w
      fun e w' => e = .returned (.tuple #[.agg #[.int .i64 0, .int .u32 0, .int .i64 0, .int .i64 0, .int .u32 0, .int .u32 0], .bool false]) ∧ Below w.heap.size w w' := by
  go_enter Try.func19, Try.ntmps19
  go_wp2_with fail
  go_quiet (fail)
  go_wp2
  refine bodyPost_ret (ret_ct rfl 6 _ _ (w.heap.size + 1 + 1) rfl (by simp [go_sem]) (by simp [go_sem]) (by kernel_rfl) (by kernel_rfl)) rfl ⟨by simp [go_sem], ?_⟩
  repeat (first | (with_reducible exact Below.refl _ _) | (with_reducible refine Below.alloc ?_ ?h _; (case h => (first | omega | (simp; done) | (simp; omega)))) | (with_reducible refine Below.drew ?_) | (with_reducible refine below_drewN ?_ _) | (with_reducible refine Below.setCell ?_ ?h _; (case h => (first | omega | (simp; done) | (simp; omega)))) | (with_reducible refine below_row ?_ ?h _; (case h => (first | omega | (simp; done) | (simp; omega)))))
end Go.Proofs.Ytjmdikabikgjhaa
