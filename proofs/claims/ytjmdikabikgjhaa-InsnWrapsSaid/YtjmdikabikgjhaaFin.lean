import Derived.Test.YtjmdikabikgjhaaCpu
/- Finish, of the program and of the reference: the processor with the memory's answer. -/
namespace Go.Proofs.Ytjmdikabikgjhaa
open Go.RowKit
attribute [local go_sem] cpu_get cpu_get16 cpu_set cpu_set16 szIs_cpu szIs_lit row_at row_past row_alloc nf_alloc row_set nf_set row_cell nf_cell row_drew nf_drew row_drewN nf_drewN cell_setRow frozen_setRow nlt1 nlt2 nlt3 nlt4 nne1 nne2 nne3 nen1 nen2 nen3
attribute [local go_sem ↓] exec_load35 exec_store35
attribute [local go_sem] run_load35 run_store35

set_option maxHeartbeats 400000 in
set_option maxRecDepth 100000 in
theorem fin_p_load1 (r : Nat → Int) (pc addr value old v : Int) (k : Nat) (w : World) (hk : k < 16) (hb15 : bits BinOp.and IntKind.i64 (k : Int) 15 = (k : Int)) (hb255 : bits BinOp.and IntKind.u32 v 255 = v % 256) :
    Calls Try.prog 17 #[.agg (cpu r pc), .agg #[.int .i64 2, .int .u32 addr, .int .i64 1, .int .i64 k, .int .u32 value, .int .u32 old], .int .u32 v] w
      fun e w' => e = .returned (.agg (cpu (upd r k (v % 256)) ((pc + 4) % 4294967296))) ∧ Below w.heap.size w w' := by
  go_enter Try.func17, Try.ntmps17
  go_wp2
  refine bodyPost_ret (ret_c rfl 17 _ _ (w.heap.size + 1 + 1) rfl (by simp [go_sem]) (by simp [go_sem]) (by kernel_rfl) (by kernel_rfl)) rfl ⟨by simp [go_sem], ?_⟩
  repeat (first | (with_reducible exact Below.refl _ _) | (with_reducible refine Below.alloc ?_ ?h _; (case h => (first | omega | (simp; done) | (simp; omega)))) | (with_reducible refine Below.drew ?_) | (with_reducible refine below_drewN ?_ _) | (with_reducible refine Below.setCell ?_ ?h _; (case h => (first | omega | (simp; done) | (simp; omega)))) | (with_reducible refine below_row ?_ ?h _; (case h => (first | omega | (simp; done) | (simp; omega)))))
set_option maxHeartbeats 400000 in
set_option maxRecDepth 100000 in
theorem fin_p_load4 (r : Nat → Int) (pc addr value old v : Int) (k : Nat) (w : World) (hk : k < 16) (hb15 : bits BinOp.and IntKind.i64 (k : Int) 15 = (k : Int)) :
    Calls Try.prog 17 #[.agg (cpu r pc), .agg #[.int .i64 2, .int .u32 addr, .int .i64 4, .int .i64 k, .int .u32 value, .int .u32 old], .int .u32 v] w
      fun e w' => e = .returned (.agg (cpu (upd r k v) ((pc + 4) % 4294967296))) ∧ Below w.heap.size w w' := by
  go_enter Try.func17, Try.ntmps17
  go_wp2
  refine bodyPost_ret (ret_c rfl 17 _ _ (w.heap.size + 1 + 1) rfl (by simp [go_sem]) (by simp [go_sem]) (by kernel_rfl) (by kernel_rfl)) rfl ⟨by simp [go_sem], ?_⟩
  repeat (first | (with_reducible exact Below.refl _ _) | (with_reducible refine Below.alloc ?_ ?h _; (case h => (first | omega | (simp; done) | (simp; omega)))) | (with_reducible refine Below.drew ?_) | (with_reducible refine below_drewN ?_ _) | (with_reducible refine Below.setCell ?_ ?h _; (case h => (first | omega | (simp; done) | (simp; omega)))) | (with_reducible refine below_row ?_ ?h _; (case h => (first | omega | (simp; done) | (simp; omega)))))
set_option maxHeartbeats 400000 in
set_option maxRecDepth 100000 in
theorem fin_p_cas (r : Nat → Int) (pc addr value old v : Int) (size reg : Int) (w : World) :
    Calls Try.prog 17 #[.agg (cpu r pc), .agg #[.int .i64 4, .int .u32 addr, .int .i64 size, .int .i64 reg, .int .u32 value, .int .u32 old], .int .u32 v] w
      fun e w' => e = .returned (.agg (cpu (upd r 15 v) ((pc + 4) % 4294967296))) ∧ Below w.heap.size w w' := by
  go_enter Try.func17, Try.ntmps17
  go_wp2
  refine bodyPost_ret (ret_c rfl 17 _ _ (w.heap.size + 1 + 1) rfl (by simp [go_sem]) (by simp [go_sem]) (by kernel_rfl) (by kernel_rfl)) rfl ⟨by simp [go_sem], ?_⟩
  repeat (first | (with_reducible exact Below.refl _ _) | (with_reducible refine Below.alloc ?_ ?h _; (case h => (first | omega | (simp; done) | (simp; omega)))) | (with_reducible refine Below.drew ?_) | (with_reducible refine below_drewN ?_ _) | (with_reducible refine Below.setCell ?_ ?h _; (case h => (first | omega | (simp; done) | (simp; omega)))) | (with_reducible refine below_row ?_ ?h _; (case h => (first | omega | (simp; done) | (simp; omega)))))
set_option maxHeartbeats 400000 in
set_option maxRecDepth 100000 in
theorem fin_p_store (r : Nat → Int) (pc addr value old v : Int) (size reg : Int) (w : World) :
    Calls Try.prog 17 #[.agg (cpu r pc), .agg #[.int .i64 3, .int .u32 addr, .int .i64 size, .int .i64 reg, .int .u32 value, .int .u32 old], .int .u32 v] w
      fun e w' => e = .returned (.agg (cpu r ((pc + 4) % 4294967296))) ∧ Below w.heap.size w w' := by
  go_enter Try.func17, Try.ntmps17
  go_wp2
  refine bodyPost_ret (ret_c rfl 17 _ _ (w.heap.size + 1 + 1) rfl (by simp [go_sem]) (by simp [go_sem]) (by kernel_rfl) (by kernel_rfl)) rfl ⟨by simp [go_sem], ?_⟩
  repeat (first | (with_reducible exact Below.refl _ _) | (with_reducible refine Below.alloc ?_ ?h _; (case h => (first | omega | (simp; done) | (simp; omega)))) | (with_reducible refine Below.drew ?_) | (with_reducible refine below_drewN ?_ _) | (with_reducible refine Below.setCell ?_ ?h _; (case h => (first | omega | (simp; done) | (simp; omega)))) | (with_reducible refine below_row ?_ ?h _; (case h => (first | omega | (simp; done) | (simp; omega)))))
set_option maxHeartbeats 400000 in
set_option maxRecDepth 100000 in
theorem fin_p_other (r : Nat → Int) (pc addr value old v : Int) (K size reg : Int) (w : World) (h2 : (K == 2) = false) (h4 : (K == 4) = false) (h3 : (K == 3) = false) :
    Calls Try.prog 17 #[.agg (cpu r pc), .agg #[.int .i64 K, .int .u32 addr, .int .i64 size, .int .i64 reg, .int .u32 value, .int .u32 old], .int .u32 v] w
      fun e w' => e = .returned (.agg (cpu r pc)) ∧ Below w.heap.size w w' := by
  go_enter Try.func17, Try.ntmps17
  go_wp2
  refine bodyPost_ret (ret_c rfl 17 _ _ (w.heap.size + 1 + 1) rfl (by simp [go_sem]) (by simp [go_sem]) (by kernel_rfl) (by kernel_rfl)) rfl ⟨by simp [go_sem], ?_⟩
  repeat (first | (with_reducible exact Below.refl _ _) | (with_reducible refine Below.alloc ?_ ?h _; (case h => (first | omega | (simp; done) | (simp; omega)))) | (with_reducible refine Below.drew ?_) | (with_reducible refine below_drewN ?_ _) | (with_reducible refine Below.setCell ?_ ?h _; (case h => (first | omega | (simp; done) | (simp; omega)))) | (with_reducible refine below_row ?_ ?h _; (case h => (first | omega | (simp; done) | (simp; omega)))))
set_option maxHeartbeats 400000 in
set_option maxRecDepth 100000 in
theorem fin_r_load1 (r : Nat → Int) (pc addr value old v : Int) (k : Nat) (w : World) (hk : k < 16) (hv : 0 ≤ v) :
    Calls Try.prog 18 #[.agg (cpu r pc), .agg #[.int .i64 2, .int .u32 addr, .int .i64 1, .int .i64 k, .int .u32 value, .int .u32 old], .int .u32 v] w
      fun e w' => e = .returned (.agg (cpu (upd r k (v % 256)) ((pc + 4) % 4294967296))) ∧ Below w.heap.size w w' := by
  go_enter Try.func18, Try.ntmps18
  go_wp2
  refine bodyPost_ret (ret_c rfl 17 _ _ (w.heap.size + 1 + 1) rfl (by simp [go_sem]) (by simp [go_sem]) (by kernel_rfl) (by kernel_rfl)) rfl ⟨by simp [go_sem], ?_⟩
  repeat (first | (with_reducible exact Below.refl _ _) | (with_reducible refine Below.alloc ?_ ?h _; (case h => (first | omega | (simp; done) | (simp; omega)))) | (with_reducible refine Below.drew ?_) | (with_reducible refine below_drewN ?_ _) | (with_reducible refine Below.setCell ?_ ?h _; (case h => (first | omega | (simp; done) | (simp; omega)))) | (with_reducible refine below_row ?_ ?h _; (case h => (first | omega | (simp; done) | (simp; omega)))))
set_option maxHeartbeats 400000 in
set_option maxRecDepth 100000 in
theorem fin_r_load4 (r : Nat → Int) (pc addr value old v : Int) (k : Nat) (w : World) (hk : k < 16) :
    Calls Try.prog 18 #[.agg (cpu r pc), .agg #[.int .i64 2, .int .u32 addr, .int .i64 4, .int .i64 k, .int .u32 value, .int .u32 old], .int .u32 v] w
      fun e w' => e = .returned (.agg (cpu (upd r k v) ((pc + 4) % 4294967296))) ∧ Below w.heap.size w w' := by
  go_enter Try.func18, Try.ntmps18
  go_wp2
  refine bodyPost_ret (ret_c rfl 17 _ _ (w.heap.size + 1 + 1) rfl (by simp [go_sem]) (by simp [go_sem]) (by kernel_rfl) (by kernel_rfl)) rfl ⟨by simp [go_sem], ?_⟩
  repeat (first | (with_reducible exact Below.refl _ _) | (with_reducible refine Below.alloc ?_ ?h _; (case h => (first | omega | (simp; done) | (simp; omega)))) | (with_reducible refine Below.drew ?_) | (with_reducible refine below_drewN ?_ _) | (with_reducible refine Below.setCell ?_ ?h _; (case h => (first | omega | (simp; done) | (simp; omega)))) | (with_reducible refine below_row ?_ ?h _; (case h => (first | omega | (simp; done) | (simp; omega)))))
set_option maxHeartbeats 400000 in
set_option maxRecDepth 100000 in
theorem fin_r_cas (r : Nat → Int) (pc addr value old v : Int) (size reg : Int) (w : World) :
    Calls Try.prog 18 #[.agg (cpu r pc), .agg #[.int .i64 4, .int .u32 addr, .int .i64 size, .int .i64 reg, .int .u32 value, .int .u32 old], .int .u32 v] w
      fun e w' => e = .returned (.agg (cpu (upd r 15 v) ((pc + 4) % 4294967296))) ∧ Below w.heap.size w w' := by
  go_enter Try.func18, Try.ntmps18
  go_wp2
  refine bodyPost_ret (ret_c rfl 17 _ _ (w.heap.size + 1 + 1) rfl (by simp [go_sem]) (by simp [go_sem]) (by kernel_rfl) (by kernel_rfl)) rfl ⟨by simp [go_sem], ?_⟩
  repeat (first | (with_reducible exact Below.refl _ _) | (with_reducible refine Below.alloc ?_ ?h _; (case h => (first | omega | (simp; done) | (simp; omega)))) | (with_reducible refine Below.drew ?_) | (with_reducible refine below_drewN ?_ _) | (with_reducible refine Below.setCell ?_ ?h _; (case h => (first | omega | (simp; done) | (simp; omega)))) | (with_reducible refine below_row ?_ ?h _; (case h => (first | omega | (simp; done) | (simp; omega)))))
set_option maxHeartbeats 400000 in
set_option maxRecDepth 100000 in
theorem fin_r_store (r : Nat → Int) (pc addr value old v : Int) (size reg : Int) (w : World) :
    Calls Try.prog 18 #[.agg (cpu r pc), .agg #[.int .i64 3, .int .u32 addr, .int .i64 size, .int .i64 reg, .int .u32 value, .int .u32 old], .int .u32 v] w
      fun e w' => e = .returned (.agg (cpu r ((pc + 4) % 4294967296))) ∧ Below w.heap.size w w' := by
  go_enter Try.func18, Try.ntmps18
  go_wp2
  refine bodyPost_ret (ret_c rfl 17 _ _ (w.heap.size + 1 + 1) rfl (by simp [go_sem]) (by simp [go_sem]) (by kernel_rfl) (by kernel_rfl)) rfl ⟨by simp [go_sem], ?_⟩
  repeat (first | (with_reducible exact Below.refl _ _) | (with_reducible refine Below.alloc ?_ ?h _; (case h => (first | omega | (simp; done) | (simp; omega)))) | (with_reducible refine Below.drew ?_) | (with_reducible refine below_drewN ?_ _) | (with_reducible refine Below.setCell ?_ ?h _; (case h => (first | omega | (simp; done) | (simp; omega)))) | (with_reducible refine below_row ?_ ?h _; (case h => (first | omega | (simp; done) | (simp; omega)))))
set_option maxHeartbeats 400000 in
set_option maxRecDepth 100000 in
theorem fin_r_other (r : Nat → Int) (pc addr value old v : Int) (K size reg : Int) (w : World) (h2 : (K == 2) = false) (h4 : (K == 4) = false) (h3 : (K == 3) = false) :
    Calls Try.prog 18 #[.agg (cpu r pc), .agg #[.int .i64 K, .int .u32 addr, .int .i64 size, .int .i64 reg, .int .u32 value, .int .u32 old], .int .u32 v] w
      fun e w' => e = .returned (.agg (cpu r pc)) ∧ Below w.heap.size w w' := by
  go_enter Try.func18, Try.ntmps18
  go_wp2
  refine bodyPost_ret (ret_c rfl 17 _ _ (w.heap.size + 1 + 1) rfl (by simp [go_sem]) (by simp [go_sem]) (by kernel_rfl) (by kernel_rfl)) rfl ⟨by simp [go_sem], ?_⟩
  repeat (first | (with_reducible exact Below.refl _ _) | (with_reducible refine Below.alloc ?_ ?h _; (case h => (first | omega | (simp; done) | (simp; omega)))) | (with_reducible refine Below.drew ?_) | (with_reducible refine below_drewN ?_ _) | (with_reducible refine Below.setCell ?_ ?h _; (case h => (first | omega | (simp; done) | (simp; omega)))) | (with_reducible refine below_row ?_ ?h _; (case h => (first | omega | (simp; done) | (simp; omega)))))
end Go.Proofs.Ytjmdikabikgjhaa
