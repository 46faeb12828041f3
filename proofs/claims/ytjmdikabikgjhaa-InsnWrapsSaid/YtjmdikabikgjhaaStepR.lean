import Derived.Test.YtjmdikabikgjhaaCpu
import Derived.Deep.QuietTactic
import Derived.BigQuiet
import Derived.Deep.RegionWith
/- Step, of the reference. -/
namespace Go.Proofs.Ytjmdikabikgjhaa
open Go.RowKit
set_option linter.unusedVariables false
attribute [local go_sem] cpu_get cpu_get16 cpu_set cpu_set16 szIs_cpu szIs_lit row_at row_past row_alloc nf_alloc row_set nf_set row_cell nf_cell row_drew nf_drew row_drewN nf_drewN cell_setRow frozen_setRow nlt1 nlt2 nlt3 nlt4 nne1 nne2 nne3 nen1 nen2 nen3
attribute [local go_sem ↓] exec_load35 exec_store35
attribute [local go_sem] run_load35 run_store35

set_option maxHeartbeats 1000000 in
set_option maxRecDepth 100000 in
theorem step_r_bad (r : Nat → Int) (pc x imm : Int) (k m : Nat) (w : World) (hk : k < 16) (hm : m < 16) (hdec : ∀ w, Calls Try.prog 11 #[.int .u32 x] w fun e w' => e = .returned (.tuple #[.agg #[.int .i64 0, .int .i64 0, .int .i64 0, .int .i64 0], .int .i64 30]) ∧ Below w.heap.size w w') :
    Calls Try.prog 16 #[.agg (cpu r pc), .int .u32 x] w fun e w' => e = .returned (.tuple #[.agg (cpu r pc), .agg #[.int .i64 6, .int .u32 0, .int .i64 0, .int .i64 0, .int .u32 0, .int .u32 0]]) ∧ Below w.heap.size w w' := by
  have Hhdec := Lib.hid hdec
  clear hdec
  go_enter Try.func16, Try.ntmps16
  go_wp2_with fail
  refine (Hhdec.out _).mono ?_; rintro e w1 ⟨rfl, hb1⟩
  obtain ⟨br10, bn10, bc10, bf10⟩ := (Blk.below (g := w.heap.size) (c := cpu r pc) ⟨by first | (go_simp; done) | (go_simp; intro hq; exfalso; omega) | (go_simp; omega), by first | (go_simp; done) | (go_simp; intro hq; exfalso; omega) | (go_simp; omega)⟩ hb1 (by first | (go_simp; done) | (go_simp; intro hq; exfalso; omega) | (go_simp; omega))).all
  obtain ⟨bl10, be10⟩ := below_lt (g := w.heap.size) hb1 (by first | (go_simp; done) | (go_simp; intro hq; exfalso; omega) | (go_simp; omega))
  obtain ⟨br11, bn11, bc11, bf11⟩ := (Blk.below (g := w.heap.size + 1) (c := #[.int .u32 0, .int .u32 0, .int .u32 0, .int .u32 0, .int .u32 0, .int .u32 0, .int .u32 0, .int .u32 0, .int .u32 0, .int .u32 0, .int .u32 0, .int .u32 0, .int .u32 0, .int .u32 0, .int .u32 0, .int .u32 0, .int .u32 0]) ⟨by first | (go_simp; done) | (go_simp; intro hq; exfalso; omega) | (go_simp; omega), by first | (go_simp; done) | (go_simp; intro hq; exfalso; omega) | (go_simp; omega)⟩ hb1 (by first | (go_simp; done) | (go_simp; intro hq; exfalso; omega) | (go_simp; omega))).all
  obtain ⟨bl11, be11⟩ := below_lt (g := w.heap.size + 1) hb1 (by first | (go_simp; done) | (go_simp; intro hq; exfalso; omega) | (go_simp; omega))
  obtain ⟨br12, bn12, bc12, bf12⟩ := (Blk.below (g := w.heap.size + 1 + 1) (c := #[.int .i64 0, .int .u32 0, .int .i64 0, .int .i64 0, .int .u32 0, .int .u32 0]) ⟨by first | (go_simp; done) | (go_simp; intro hq; exfalso; omega) | (go_simp; omega), by first | (go_simp; done) | (go_simp; intro hq; exfalso; omega) | (go_simp; omega)⟩ hb1 (by first | (go_simp; done) | (go_simp; intro hq; exfalso; omega) | (go_simp; omega))).all
  obtain ⟨bl12, be12⟩ := below_lt (g := w.heap.size + 1 + 1) hb1 (by first | (go_simp; done) | (go_simp; intro hq; exfalso; omega) | (go_simp; omega))
  go_wp2
  refine bodyPost_ret (ret_cc rfl 17 6 _ _ (w.heap.size + 1) (w.heap.size + 1 + 1) rfl rfl (by go_simp) (by go_simp) (by go_simp) (by go_simp) (by kernel_rfl) (by kernel_rfl) (by kernel_rfl) (by kernel_rfl)) rfl ⟨by go_simp, ?_⟩
  repeat (first | (with_reducible exact Below.refl _ _) | (with_reducible refine Below.alloc ?_ ?h _; (case h => (first | omega | (simp; done) | (simp; omega)))) | (with_reducible refine Below.drew ?_) | (with_reducible refine below_drewN ?_ _) | (with_reducible refine Below.setCell ?_ ?h _; (case h => (first | omega | (simp; done) | (simp; omega)))) | (with_reducible refine below_row ?_ ?h _; (case h => (first | omega | (simp; done) | (simp; omega)))) | (with_reducible refine Below.trans ?_ (Below.mono hb1 ?h); (case h => (first | omega | (simp; done) | (simp; omega)))))
set_option maxHeartbeats 1000000 in
set_option maxRecDepth 100000 in
theorem step_r_lw (r : Nat → Int) (pc x imm : Int) (k m : Nat) (w : World) (hk : k < 16) (hm : m < 16) (hdec : ∀ w, Calls Try.prog 11 #[.int .u32 x] w fun e w' => e = .returned (.tuple #[.agg #[.int .i64 17, .int .i64 k, .int .i64 m, .int .i64 imm], .int .i64 0]) ∧ Below w.heap.size w w') (hv0 : 0 ≤ r k) (hv1 : r k ≤ 4294967295) (hm0 : 0 ≤ r m) (hm1 : r m ≤ 4294967295) :
    Calls Try.prog 16 #[.agg (cpu r pc), .int .u32 x] w fun e w' => e = .returned (.tuple #[.agg (cpu r pc), .agg #[.int .i64 2, .int .u32 ((r m + imm) % 4294967296), .int .i64 4, .int .i64 k, .int .u32 0, .int .u32 0]]) ∧ Below w.heap.size w w' := by
  have Hhdec := Lib.hid hdec
  clear hdec
  go_enter Try.func16, Try.ntmps16
  go_wp2_with fail
  refine (Hhdec.out _).mono ?_; rintro e w1 ⟨rfl, hb1⟩
  obtain ⟨br10, bn10, bc10, bf10⟩ := (Blk.below (g := w.heap.size) (c := cpu r pc) ⟨by first | (go_simp; done) | (go_simp; intro hq; exfalso; omega) | (go_simp; omega), by first | (go_simp; done) | (go_simp; intro hq; exfalso; omega) | (go_simp; omega)⟩ hb1 (by first | (go_simp; done) | (go_simp; intro hq; exfalso; omega) | (go_simp; omega))).all
  obtain ⟨bl10, be10⟩ := below_lt (g := w.heap.size) hb1 (by first | (go_simp; done) | (go_simp; intro hq; exfalso; omega) | (go_simp; omega))
  obtain ⟨br11, bn11, bc11, bf11⟩ := (Blk.below (g := w.heap.size + 1) (c := #[.int .u32 0, .int .u32 0, .int .u32 0, .int .u32 0, .int .u32 0, .int .u32 0, .int .u32 0, .int .u32 0, .int .u32 0, .int .u32 0, .int .u32 0, .int .u32 0, .int .u32 0, .int .u32 0, .int .u32 0, .int .u32 0, .int .u32 0]) ⟨by first | (go_simp; done) | (go_simp; intro hq; exfalso; omega) | (go_simp; omega), by first | (go_simp; done) | (go_simp; intro hq; exfalso; omega) | (go_simp; omega)⟩ hb1 (by first | (go_simp; done) | (go_simp; intro hq; exfalso; omega) | (go_simp; omega))).all
  obtain ⟨bl11, be11⟩ := below_lt (g := w.heap.size + 1) hb1 (by first | (go_simp; done) | (go_simp; intro hq; exfalso; omega) | (go_simp; omega))
  obtain ⟨br12, bn12, bc12, bf12⟩ := (Blk.below (g := w.heap.size + 1 + 1) (c := #[.int .i64 0, .int .u32 0, .int .i64 0, .int .i64 0, .int .u32 0, .int .u32 0]) ⟨by first | (go_simp; done) | (go_simp; intro hq; exfalso; omega) | (go_simp; omega), by first | (go_simp; done) | (go_simp; intro hq; exfalso; omega) | (go_simp; omega)⟩ hb1 (by first | (go_simp; done) | (go_simp; intro hq; exfalso; omega) | (go_simp; omega))).all
  obtain ⟨bl12, be12⟩ := below_lt (g := w.heap.size + 1 + 1) hb1 (by first | (go_simp; done) | (go_simp; intro hq; exfalso; omega) | (go_simp; omega))
  go_wp2_with fail
  go_quiet (fail)
  go_wp2
  go_region
  go_wp2
  refine bodyPost_ret (ret_cc rfl 17 6 _ _ (w.heap.size + 1) (w.heap.size + 1 + 1) rfl rfl (by go_simp) (by go_simp) (by go_simp) (by go_simp) (by kernel_rfl) (by kernel_rfl) (by kernel_rfl) (by kernel_rfl)) rfl ⟨by go_simp, ?_⟩
  repeat (first | (with_reducible exact Below.refl _ _) | (with_reducible refine Below.alloc ?_ ?h _; (case h => (first | omega | (simp; done) | (simp; omega)))) | (with_reducible refine Below.drew ?_) | (with_reducible refine below_drewN ?_ _) | (with_reducible refine Below.setCell ?_ ?h _; (case h => (first | omega | (simp; done) | (simp; omega)))) | (with_reducible refine below_row ?_ ?h _; (case h => (first | omega | (simp; done) | (simp; omega)))) | (with_reducible refine Below.trans ?_ (Below.mono hb1 ?h); (case h => (first | omega | (simp; done) | (simp; omega)))))
set_option maxHeartbeats 1000000 in
set_option maxRecDepth 100000 in
theorem step_r_lb (r : Nat → Int) (pc x imm : Int) (k m : Nat) (w : World) (hk : k < 16) (hm : m < 16) (hdec : ∀ w, Calls Try.prog 11 #[.int .u32 x] w fun e w' => e = .returned (.tuple #[.agg #[.int .i64 19, .int .i64 k, .int .i64 m, .int .i64 imm], .int .i64 0]) ∧ Below w.heap.size w w') (hv0 : 0 ≤ r k) (hv1 : r k ≤ 4294967295) (hm0 : 0 ≤ r m) (hm1 : r m ≤ 4294967295) :
    Calls Try.prog 16 #[.agg (cpu r pc), .int .u32 x] w fun e w' => e = .returned (.tuple #[.agg (cpu r pc), .agg #[.int .i64 2, .int .u32 ((r m + imm) % 4294967296), .int .i64 1, .int .i64 k, .int .u32 0, .int .u32 0]]) ∧ Below w.heap.size w w' := by
  have Hhdec := Lib.hid hdec
  clear hdec
  go_enter Try.func16, Try.ntmps16
  go_wp2_with fail
  refine (Hhdec.out _).mono ?_; rintro e w1 ⟨rfl, hb1⟩
  obtain ⟨br10, bn10, bc10, bf10⟩ := (Blk.below (g := w.heap.size) (c := cpu r pc) ⟨by first | (go_simp; done) | (go_simp; intro hq; exfalso; omega) | (go_simp; omega), by first | (go_simp; done) | (go_simp; intro hq; exfalso; omega) | (go_simp; omega)⟩ hb1 (by first | (go_simp; done) | (go_simp; intro hq; exfalso; omega) | (go_simp; omega))).all
  obtain ⟨bl10, be10⟩ := below_lt (g := w.heap.size) hb1 (by first | (go_simp; done) | (go_simp; intro hq; exfalso; omega) | (go_simp; omega))
  obtain ⟨br11, bn11, bc11, bf11⟩ := (Blk.below (g := w.heap.size + 1) (c := #[.int .u32 0, .int .u32 0, .int .u32 0, .int .u32 0, .int .u32 0, .int .u32 0, .int .u32 0, .int .u32 0, .int .u32 0, .int .u32 0, .int .u32 0, .int .u32 0, .int .u32 0, .int .u32 0, .int .u32 0, .int .u32 0, .int .u32 0]) ⟨by first | (go_simp; done) | (go_simp; intro hq; exfalso; omega) | (go_simp; omega), by first | (go_simp; done) | (go_simp; intro hq; exfalso; omega) | (go_simp; omega)⟩ hb1 (by first | (go_simp; done) | (go_simp; intro hq; exfalso; omega) | (go_simp; omega))).all
  obtain ⟨bl11, be11⟩ := below_lt (g := w.heap.size + 1) hb1 (by first | (go_simp; done) | (go_simp; intro hq; exfalso; omega) | (go_simp; omega))
  obtain ⟨br12, bn12, bc12, bf12⟩ := (Blk.below (g := w.heap.size + 1 + 1) (c := #[.int .i64 0, .int .u32 0, .int .i64 0, .int .i64 0, .int .u32 0, .int .u32 0]) ⟨by first | (go_simp; done) | (go_simp; intro hq; exfalso; omega) | (go_simp; omega), by first | (go_simp; done) | (go_simp; intro hq; exfalso; omega) | (go_simp; omega)⟩ hb1 (by first | (go_simp; done) | (go_simp; intro hq; exfalso; omega) | (go_simp; omega))).all
  obtain ⟨bl12, be12⟩ := below_lt (g := w.heap.size + 1 + 1) hb1 (by first | (go_simp; done) | (go_simp; intro hq; exfalso; omega) | (go_simp; omega))
  go_wp2_with fail
  go_quiet (fail)
  go_wp2
  go_region
  go_wp2
  refine bodyPost_ret (ret_cc rfl 17 6 _ _ (w.heap.size + 1) (w.heap.size + 1 + 1) rfl rfl (by go_simp) (by go_simp) (by go_simp) (by go_simp) (by kernel_rfl) (by kernel_rfl) (by kernel_rfl) (by kernel_rfl)) rfl ⟨by go_simp, ?_⟩
  repeat (first | (with_reducible exact Below.refl _ _) | (with_reducible refine Below.alloc ?_ ?h _; (case h => (first | omega | (simp; done) | (simp; omega)))) | (with_reducible refine Below.drew ?_) | (with_reducible refine below_drewN ?_ _) | (with_reducible refine Below.setCell ?_ ?h _; (case h => (first | omega | (simp; done) | (simp; omega)))) | (with_reducible refine below_row ?_ ?h _; (case h => (first | omega | (simp; done) | (simp; omega)))) | (with_reducible refine Below.trans ?_ (Below.mono hb1 ?h); (case h => (first | omega | (simp; done) | (simp; omega)))))
set_option maxHeartbeats 1000000 in
set_option maxRecDepth 100000 in
theorem step_r_sw (r : Nat → Int) (pc x imm : Int) (k m : Nat) (w : World) (hk : k < 16) (hm : m < 16) (hdec : ∀ w, Calls Try.prog 11 #[.int .u32 x] w fun e w' => e = .returned (.tuple #[.agg #[.int .i64 18, .int .i64 k, .int .i64 m, .int .i64 imm], .int .i64 0]) ∧ Below w.heap.size w w') (hv0 : 0 ≤ r k) (hv1 : r k ≤ 4294967295) (hm0 : 0 ≤ r m) (hm1 : r m ≤ 4294967295) :
    Calls Try.prog 16 #[.agg (cpu r pc), .int .u32 x] w fun e w' => e = .returned (.tuple #[.agg (cpu r pc), .agg #[.int .i64 3, .int .u32 ((r m + imm) % 4294967296), .int .i64 4, .int .i64 0, .int .u32 (r k), .int .u32 0]]) ∧ Below w.heap.size w w' := by
  have Hhdec := Lib.hid hdec
  clear hdec
  go_enter Try.func16, Try.ntmps16
  go_wp2_with fail
  refine (Hhdec.out _).mono ?_; rintro e w1 ⟨rfl, hb1⟩
  obtain ⟨br10, bn10, bc10, bf10⟩ := (Blk.below (g := w.heap.size) (c := cpu r pc) ⟨by first | (go_simp; done) | (go_simp; intro hq; exfalso; omega) | (go_simp; omega), by first | (go_simp; done) | (go_simp; intro hq; exfalso; omega) | (go_simp; omega)⟩ hb1 (by first | (go_simp; done) | (go_simp; intro hq; exfalso; omega) | (go_simp; omega))).all
  obtain ⟨bl10, be10⟩ := below_lt (g := w.heap.size) hb1 (by first | (go_simp; done) | (go_simp; intro hq; exfalso; omega) | (go_simp; omega))
  obtain ⟨br11, bn11, bc11, bf11⟩ := (Blk.below (g := w.heap.size + 1) (c := #[.int .u32 0, .int .u32 0, .int .u32 0, .int .u32 0, .int .u32 0, .int .u32 0, .int .u32 0, .int .u32 0, .int .u32 0, .int .u32 0, .int .u32 0, .int .u32 0, .int .u32 0, .int .u32 0, .int .u32 0, .int .u32 0, .int .u32 0]) ⟨by first | (go_simp; done) | (go_simp; intro hq; exfalso; omega) | (go_simp; omega), by first | (go_simp; done) | (go_simp; intro hq; exfalso; omega) | (go_simp; omega)⟩ hb1 (by first | (go_simp; done) | (go_simp; intro hq; exfalso; omega) | (go_simp; omega))).all
  obtain ⟨bl11, be11⟩ := below_lt (g := w.heap.size + 1) hb1 (by first | (go_simp; done) | (go_simp; intro hq; exfalso; omega) | (go_simp; omega))
  obtain ⟨br12, bn12, bc12, bf12⟩ := (Blk.below (g := w.heap.size + 1 + 1) (c := #[.int .i64 0, .int .u32 0, .int .i64 0, .int .i64 0, .int .u32 0, .int .u32 0]) ⟨by first | (go_simp; done) | (go_simp; intro hq; exfalso; omega) | (go_simp; omega), by first | (go_simp; done) | (go_simp; intro hq; exfalso; omega) | (go_simp; omega)⟩ hb1 (by first | (go_simp; done) | (go_simp; intro hq; exfalso; omega) | (go_simp; omega))).all
  obtain ⟨bl12, be12⟩ := below_lt (g := w.heap.size + 1 + 1) hb1 (by first | (go_simp; done) | (go_simp; intro hq; exfalso; omega) | (go_simp; omega))
  go_wp2_with fail
  go_quiet (fail)
  go_wp2
  refine bodyPost_ret (ret_cc rfl 17 6 _ _ (w.heap.size + 1) (w.heap.size + 1 + 1) rfl rfl (by go_simp) (by go_simp) (by go_simp) (by go_simp) (by kernel_rfl) (by kernel_rfl) (by kernel_rfl) (by kernel_rfl)) rfl ⟨by go_simp, ?_⟩
  repeat (first | (with_reducible exact Below.refl _ _) | (with_reducible refine Below.alloc ?_ ?h _; (case h => (first | omega | (simp; done) | (simp; omega)))) | (with_reducible refine Below.drew ?_) | (with_reducible refine below_drewN ?_ _) | (with_reducible refine Below.setCell ?_ ?h _; (case h => (first | omega | (simp; done) | (simp; omega)))) | (with_reducible refine below_row ?_ ?h _; (case h => (first | omega | (simp; done) | (simp; omega)))) | (with_reducible refine Below.trans ?_ (Below.mono hb1 ?h); (case h => (first | omega | (simp; done) | (simp; omega)))))
set_option maxHeartbeats 1000000 in
set_option maxRecDepth 100000 in
theorem step_r_sb (r : Nat → Int) (pc x imm : Int) (k m : Nat) (w : World) (hk : k < 16) (hm : m < 16) (hdec : ∀ w, Calls Try.prog 11 #[.int .u32 x] w fun e w' => e = .returned (.tuple #[.agg #[.int .i64 20, .int .i64 k, .int .i64 m, .int .i64 imm], .int .i64 0]) ∧ Below w.heap.size w w') (hv0 : 0 ≤ r k) (hv1 : r k ≤ 4294967295) (hm0 : 0 ≤ r m) (hm1 : r m ≤ 4294967295) :
    Calls Try.prog 16 #[.agg (cpu r pc), .int .u32 x] w fun e w' => e = .returned (.tuple #[.agg (cpu r pc), .agg #[.int .i64 3, .int .u32 ((r m + imm) % 4294967296), .int .i64 1, .int .i64 0, .int .u32 (r k % 256), .int .u32 0]]) ∧ Below w.heap.size w w' := by
  have Hhdec := Lib.hid hdec
  clear hdec
  go_enter Try.func16, Try.ntmps16
  go_wp2_with fail
  refine (Hhdec.out _).mono ?_; rintro e w1 ⟨rfl, hb1⟩
  obtain ⟨br10, bn10, bc10, bf10⟩ := (Blk.below (g := w.heap.size) (c := cpu r pc) ⟨by first | (go_simp; done) | (go_simp; intro hq; exfalso; omega) | (go_simp; omega), by first | (go_simp; done) | (go_simp; intro hq; exfalso; omega) | (go_simp; omega)⟩ hb1 (by first | (go_simp; done) | (go_simp; intro hq; exfalso; omega) | (go_simp; omega))).all
  obtain ⟨bl10, be10⟩ := below_lt (g := w.heap.size) hb1 (by first | (go_simp; done) | (go_simp; intro hq; exfalso; omega) | (go_simp; omega))
  obtain ⟨br11, bn11, bc11, bf11⟩ := (Blk.below (g := w.heap.size + 1) (c := #[.int .u32 0, .int .u32 0, .int .u32 0, .int .u32 0, .int .u32 0, .int .u32 0, .int .u32 0, .int .u32 0, .int .u32 0, .int .u32 0, .int .u32 0, .int .u32 0, .int .u32 0, .int .u32 0, .int .u32 0, .int .u32 0, .int .u32 0]) ⟨by first | (go_simp; done) | (go_simp; intro hq; exfalso; omega) | (go_simp; omega), by first | (go_simp; done) | (go_simp; intro hq; exfalso; omega) | (go_simp; omega)⟩ hb1 (by first | (go_simp; done) | (go_simp; intro hq; exfalso; omega) | (go_simp; omega))).all
  obtain ⟨bl11, be11⟩ := below_lt (g := w.heap.size + 1) hb1 (by first | (go_simp; done) | (go_simp; intro hq; exfalso; omega) | (go_simp; omega))
  obtain ⟨br12, bn12, bc12, bf12⟩ := (Blk.below (g := w.heap.size + 1 + 1) (c := #[.int .i64 0, .int .u32 0, .int .i64 0, .int .i64 0, .int .u32 0, .int .u32 0]) ⟨by first | (go_simp; done) | (go_simp; intro hq; exfalso; omega) | (go_simp; omega), by first | (go_simp; done) | (go_simp; intro hq; exfalso; omega) | (go_simp; omega)⟩ hb1 (by first | (go_simp; done) | (go_simp; intro hq; exfalso; omega) | (go_simp; omega))).all
  obtain ⟨bl12, be12⟩ := below_lt (g := w.heap.size + 1 + 1) hb1 (by first | (go_simp; done) | (go_simp; intro hq; exfalso; omega) | (go_simp; omega))
  go_wp2_with fail
  go_quiet (fail)
  go_wp2
  refine bodyPost_ret (ret_cc rfl 17 6 _ _ (w.heap.size + 1) (w.heap.size + 1 + 1) rfl rfl (by go_simp) (by go_simp) (by go_simp) (by go_simp) (by kernel_rfl) (by kernel_rfl) (by kernel_rfl) (by kernel_rfl)) rfl ⟨by go_simp, ?_⟩
  repeat (first | (with_reducible exact Below.refl _ _) | (with_reducible refine Below.alloc ?_ ?h _; (case h => (first | omega | (simp; done) | (simp; omega)))) | (with_reducible refine Below.drew ?_) | (with_reducible refine below_drewN ?_ _) | (with_reducible refine Below.setCell ?_ ?h _; (case h => (first | omega | (simp; done) | (simp; omega)))) | (with_reducible refine below_row ?_ ?h _; (case h => (first | omega | (simp; done) | (simp; omega)))) | (with_reducible refine Below.trans ?_ (Below.mono hb1 ?h); (case h => (first | omega | (simp; done) | (simp; omega)))))
set_option maxHeartbeats 1000000 in
set_option maxRecDepth 100000 in
theorem step_r_cas (r : Nat → Int) (pc x imm : Int) (k m : Nat) (w : World) (hk : k < 16) (hm : m < 16) (hdec : ∀ w, Calls Try.prog 11 #[.int .u32 x] w fun e w' => e = .returned (.tuple #[.agg #[.int .i64 27, .int .i64 k, .int .i64 m, .int .i64 imm], .int .i64 0]) ∧ Below w.heap.size w w') (hv0 : 0 ≤ r k) (hv1 : r k ≤ 4294967295) (hm0 : 0 ≤ r m) (hm1 : r m ≤ 4294967295) :
    Calls Try.prog 16 #[.agg (cpu r pc), .int .u32 x] w fun e w' => e = .returned (.tuple #[.agg (cpu r pc), .agg #[.int .i64 4, .int .u32 ((r m + imm) % 4294967296), .int .i64 4, .int .i64 0, .int .u32 (r k), .int .u32 (r 15)]]) ∧ Below w.heap.size w w' := by
  have Hhdec := Lib.hid hdec
  clear hdec
  go_enter Try.func16, Try.ntmps16
  go_wp2_with fail
  refine (Hhdec.out _).mono ?_; rintro e w1 ⟨rfl, hb1⟩
  obtain ⟨br10, bn10, bc10, bf10⟩ := (Blk.below (g := w.heap.size) (c := cpu r pc) ⟨by first | (go_simp; done) | (go_simp; intro hq; exfalso; omega) | (go_simp; omega), by first | (go_simp; done) | (go_simp; intro hq; exfalso; omega) | (go_simp; omega)⟩ hb1 (by first | (go_simp; done) | (go_simp; intro hq; exfalso; omega) | (go_simp; omega))).all
  obtain ⟨bl10, be10⟩ := below_lt (g := w.heap.size) hb1 (by first | (go_simp; done) | (go_simp; intro hq; exfalso; omega) | (go_simp; omega))
  obtain ⟨br11, bn11, bc11, bf11⟩ := (Blk.below (g := w.heap.size + 1) (c := #[.int .u32 0, .int .u32 0, .int .u32 0, .int .u32 0, .int .u32 0, .int .u32 0, .int .u32 0, .int .u32 0, .int .u32 0, .int .u32 0, .int .u32 0, .int .u32 0, .int .u32 0, .int .u32 0, .int .u32 0, .int .u32 0, .int .u32 0]) ⟨by first | (go_simp; done) | (go_simp; intro hq; exfalso; omega) | (go_simp; omega), by first | (go_simp; done) | (go_simp; intro hq; exfalso; omega) | (go_simp; omega)⟩ hb1 (by first | (go_simp; done) | (go_simp; intro hq; exfalso; omega) | (go_simp; omega))).all
  obtain ⟨bl11, be11⟩ := below_lt (g := w.heap.size + 1) hb1 (by first | (go_simp; done) | (go_simp; intro hq; exfalso; omega) | (go_simp; omega))
  obtain ⟨br12, bn12, bc12, bf12⟩ := (Blk.below (g := w.heap.size + 1 + 1) (c := #[.int .i64 0, .int .u32 0, .int .i64 0, .int .i64 0, .int .u32 0, .int .u32 0]) ⟨by first | (go_simp; done) | (go_simp; intro hq; exfalso; omega) | (go_simp; omega), by first | (go_simp; done) | (go_simp; intro hq; exfalso; omega) | (go_simp; omega)⟩ hb1 (by first | (go_simp; done) | (go_simp; intro hq; exfalso; omega) | (go_simp; omega))).all
  obtain ⟨bl12, be12⟩ := below_lt (g := w.heap.size + 1 + 1) hb1 (by first | (go_simp; done) | (go_simp; intro hq; exfalso; omega) | (go_simp; omega))
  go_wp2_with fail
  go_quiet (fail)
  go_wp2
  go_region
  go_wp2
  refine bodyPost_ret (ret_cc rfl 17 6 _ _ (w.heap.size + 1) (w.heap.size + 1 + 1) rfl rfl (by go_simp) (by go_simp) (by go_simp) (by go_simp) (by kernel_rfl) (by kernel_rfl) (by kernel_rfl) (by kernel_rfl)) rfl ⟨by go_simp, ?_⟩
  repeat (first | (with_reducible exact Below.refl _ _) | (with_reducible refine Below.alloc ?_ ?h _; (case h => (first | omega | (simp; done) | (simp; omega)))) | (with_reducible refine Below.drew ?_) | (with_reducible refine below_drewN ?_ _) | (with_reducible refine Below.setCell ?_ ?h _; (case h => (first | omega | (simp; done) | (simp; omega)))) | (with_reducible refine below_row ?_ ?h _; (case h => (first | omega | (simp; done) | (simp; omega)))) | (with_reducible refine Below.trans ?_ (Below.mono hb1 ?h); (case h => (first | omega | (simp; done) | (simp; omega)))))
set_option maxHeartbeats 1000000 in
set_option maxRecDepth 100000 in
theorem step_r_sys (r : Nat → Int) (pc x imm : Int) (k m : Nat) (w : World) (hk : k < 16) (hm : m < 16) (hdec : ∀ w, Calls Try.prog 11 #[.int .u32 x] w fun e w' => e = .returned (.tuple #[.agg #[.int .i64 28, .int .i64 k, .int .i64 m, .int .i64 imm], .int .i64 0]) ∧ Below w.heap.size w w') (hv0 : 0 ≤ r k) (hv1 : r k ≤ 4294967295) (hm0 : 0 ≤ r m) (hm1 : r m ≤ 4294967295) :
    Calls Try.prog 16 #[.agg (cpu r pc), .int .u32 x] w fun e w' => e = .returned (.tuple #[.agg (cpu r ((pc + 4) % 4294967296)), .agg #[.int .i64 5, .int .u32 0, .int .i64 0, .int .i64 0, .int .u32 0, .int .u32 0]]) ∧ Below w.heap.size w w' := by
  have Hhdec := Lib.hid hdec
  clear hdec
  go_enter Try.func16, Try.ntmps16
  go_wp2_with fail
  refine (Hhdec.out _).mono ?_; rintro e w1 ⟨rfl, hb1⟩
  obtain ⟨br10, bn10, bc10, bf10⟩ := (Blk.below (g := w.heap.size) (c := cpu r pc) ⟨by first | (go_simp; done) | (go_simp; intro hq; exfalso; omega) | (go_simp; omega), by first | (go_simp; done) | (go_simp; intro hq; exfalso; omega) | (go_simp; omega)⟩ hb1 (by first | (go_simp; done) | (go_simp; intro hq; exfalso; omega) | (go_simp; omega))).all
  obtain ⟨bl10, be10⟩ := below_lt (g := w.heap.size) hb1 (by first | (go_simp; done) | (go_simp; intro hq; exfalso; omega) | (go_simp; omega))
  obtain ⟨br11, bn11, bc11, bf11⟩ := (Blk.below (g := w.heap.size + 1) (c := #[.int .u32 0, .int .u32 0, .int .u32 0, .int .u32 0, .int .u32 0, .int .u32 0, .int .u32 0, .int .u32 0, .int .u32 0, .int .u32 0, .int .u32 0, .int .u32 0, .int .u32 0, .int .u32 0, .int .u32 0, .int .u32 0, .int .u32 0]) ⟨by first | (go_simp; done) | (go_simp; intro hq; exfalso; omega) | (go_simp; omega), by first | (go_simp; done) | (go_simp; intro hq; exfalso; omega) | (go_simp; omega)⟩ hb1 (by first | (go_simp; done) | (go_simp; intro hq; exfalso; omega) | (go_simp; omega))).all
  obtain ⟨bl11, be11⟩ := below_lt (g := w.heap.size + 1) hb1 (by first | (go_simp; done) | (go_simp; intro hq; exfalso; omega) | (go_simp; omega))
  obtain ⟨br12, bn12, bc12, bf12⟩ := (Blk.below (g := w.heap.size + 1 + 1) (c := #[.int .i64 0, .int .u32 0, .int .i64 0, .int .i64 0, .int .u32 0, .int .u32 0]) ⟨by first | (go_simp; done) | (go_simp; intro hq; exfalso; omega) | (go_simp; omega), by first | (go_simp; done) | (go_simp; intro hq; exfalso; omega) | (go_simp; omega)⟩ hb1 (by first | (go_simp; done) | (go_simp; intro hq; exfalso; omega) | (go_simp; omega))).all
  obtain ⟨bl12, be12⟩ := below_lt (g := w.heap.size + 1 + 1) hb1 (by first | (go_simp; done) | (go_simp; intro hq; exfalso; omega) | (go_simp; omega))
  go_wp2_with fail
  go_quiet (fail)
  go_wp2
  refine bodyPost_ret (ret_cc rfl 17 6 _ _ (w.heap.size + 1) (w.heap.size + 1 + 1) rfl rfl (by go_simp) (by go_simp) (by go_simp) (by go_simp) (by kernel_rfl) (by kernel_rfl) (by kernel_rfl) (by kernel_rfl)) rfl ⟨by go_simp, ?_⟩
  repeat (first | (with_reducible exact Below.refl _ _) | (with_reducible refine Below.alloc ?_ ?h _; (case h => (first | omega | (simp; done) | (simp; omega)))) | (with_reducible refine Below.drew ?_) | (with_reducible refine below_drewN ?_ _) | (with_reducible refine Below.setCell ?_ ?h _; (case h => (first | omega | (simp; done) | (simp; omega)))) | (with_reducible refine below_row ?_ ?h _; (case h => (first | omega | (simp; done) | (simp; omega)))) | (with_reducible refine Below.trans ?_ (Below.mono hb1 ?h); (case h => (first | omega | (simp; done) | (simp; omega)))))
set_option maxHeartbeats 1000000 in
set_option maxRecDepth 100000 in
theorem step_r_jal (r : Nat → Int) (pc x imm : Int) (k m : Nat) (w : World) (hk : k < 16) (hm : m < 16) (hdec : ∀ w, Calls Try.prog 11 #[.int .u32 x] w fun e w' => e = .returned (.tuple #[.agg #[.int .i64 25, .int .i64 k, .int .i64 m, .int .i64 imm], .int .i64 0]) ∧ Below w.heap.size w w') (hv0 : 0 ≤ r k) (hv1 : r k ≤ 4294967295) (hm0 : 0 ≤ r m) (hm1 : r m ≤ 4294967295) :
    Calls Try.prog 16 #[.agg (cpu r pc), .int .u32 x] w fun e w' => e = .returned (.tuple #[.agg (cpu (upd r k ((pc + 4) % 4294967296)) ((pc + 4 * (imm % 4294967296)) % 4294967296)), .agg #[.int .i64 1, .int .u32 0, .int .i64 0, .int .i64 0, .int .u32 0, .int .u32 0]]) ∧ Below w.heap.size w w' := by
  have Hhdec := Lib.hid hdec
  clear hdec
  go_enter Try.func16, Try.ntmps16
  go_wp2_with fail
  refine (Hhdec.out _).mono ?_; rintro e w1 ⟨rfl, hb1⟩
  obtain ⟨br10, bn10, bc10, bf10⟩ := (Blk.below (g := w.heap.size) (c := cpu r pc) ⟨by first | (go_simp; done) | (go_simp; intro hq; exfalso; omega) | (go_simp; omega), by first | (go_simp; done) | (go_simp; intro hq; exfalso; omega) | (go_simp; omega)⟩ hb1 (by first | (go_simp; done) | (go_simp; intro hq; exfalso; omega) | (go_simp; omega))).all
  obtain ⟨bl10, be10⟩ := below_lt (g := w.heap.size) hb1 (by first | (go_simp; done) | (go_simp; intro hq; exfalso; omega) | (go_simp; omega))
  obtain ⟨br11, bn11, bc11, bf11⟩ := (Blk.below (g := w.heap.size + 1) (c := #[.int .u32 0, .int .u32 0, .int .u32 0, .int .u32 0, .int .u32 0, .int .u32 0, .int .u32 0, .int .u32 0, .int .u32 0, .int .u32 0, .int .u32 0, .int .u32 0, .int .u32 0, .int .u32 0, .int .u32 0, .int .u32 0, .int .u32 0]) ⟨by first | (go_simp; done) | (go_simp; intro hq; exfalso; omega) | (go_simp; omega), by first | (go_simp; done) | (go_simp; intro hq; exfalso; omega) | (go_simp; omega)⟩ hb1 (by first | (go_simp; done) | (go_simp; intro hq; exfalso; omega) | (go_simp; omega))).all
  obtain ⟨bl11, be11⟩ := below_lt (g := w.heap.size + 1) hb1 (by first | (go_simp; done) | (go_simp; intro hq; exfalso; omega) | (go_simp; omega))
  obtain ⟨br12, bn12, bc12, bf12⟩ := (Blk.below (g := w.heap.size + 1 + 1) (c := #[.int .i64 0, .int .u32 0, .int .i64 0, .int .i64 0, .int .u32 0, .int .u32 0]) ⟨by first | (go_simp; done) | (go_simp; intro hq; exfalso; omega) | (go_simp; omega), by first | (go_simp; done) | (go_simp; intro hq; exfalso; omega) | (go_simp; omega)⟩ hb1 (by first | (go_simp; done) | (go_simp; intro hq; exfalso; omega) | (go_simp; omega))).all
  obtain ⟨bl12, be12⟩ := below_lt (g := w.heap.size + 1 + 1) hb1 (by first | (go_simp; done) | (go_simp; intro hq; exfalso; omega) | (go_simp; omega))
  go_wp2_with fail
  go_quiet (fail)
  go_wp2
  refine bodyPost_ret (ret_cc rfl 17 6 _ _ (w.heap.size + 1) (w.heap.size + 1 + 1) rfl rfl (by go_simp) (by go_simp) (by go_simp) (by go_simp) (by kernel_rfl) (by kernel_rfl) (by kernel_rfl) (by kernel_rfl)) rfl ⟨by go_simp, ?_⟩
  repeat (first | (with_reducible exact Below.refl _ _) | (with_reducible refine Below.alloc ?_ ?h _; (case h => (first | omega | (simp; done) | (simp; omega)))) | (with_reducible refine Below.drew ?_) | (with_reducible refine below_drewN ?_ _) | (with_reducible refine Below.setCell ?_ ?h _; (case h => (first | omega | (simp; done) | (simp; omega)))) | (with_reducible refine below_row ?_ ?h _; (case h => (first | omega | (simp; done) | (simp; omega)))) | (with_reducible refine Below.trans ?_ (Below.mono hb1 ?h); (case h => (first | omega | (simp; done) | (simp; omega)))))
set_option maxHeartbeats 1000000 in
set_option maxRecDepth 100000 in
theorem step_r_jalr (r : Nat → Int) (pc x imm : Int) (k m : Nat) (w : World) (hk : k < 16) (hm : m < 16) (hdec : ∀ w, Calls Try.prog 11 #[.int .u32 x] w fun e w' => e = .returned (.tuple #[.agg #[.int .i64 26, .int .i64 k, .int .i64 m, .int .i64 imm], .int .i64 0]) ∧ Below w.heap.size w w') (hv0 : 0 ≤ r k) (hv1 : r k ≤ 4294967295) (hm0 : 0 ≤ r m) (hm1 : r m ≤ 4294967295) :
    Calls Try.prog 16 #[.agg (cpu r pc), .int .u32 x] w fun e w' => e = .returned (.tuple #[.agg (cpu (upd r k ((pc + 4) % 4294967296)) ((r m + imm) % 4294967296)), .agg #[.int .i64 1, .int .u32 0, .int .i64 0, .int .i64 0, .int .u32 0, .int .u32 0]]) ∧ Below w.heap.size w w' := by
  have Hhdec := Lib.hid hdec
  clear hdec
  go_enter Try.func16, Try.ntmps16
  go_wp2_with fail
  refine (Hhdec.out _).mono ?_; rintro e w1 ⟨rfl, hb1⟩
  obtain ⟨br10, bn10, bc10, bf10⟩ := (Blk.below (g := w.heap.size) (c := cpu r pc) ⟨by first | (go_simp; done) | (go_simp; intro hq; exfalso; omega) | (go_simp; omega), by first | (go_simp; done) | (go_simp; intro hq; exfalso; omega) | (go_simp; omega)⟩ hb1 (by first | (go_simp; done) | (go_simp; intro hq; exfalso; omega) | (go_simp; omega))).all
  obtain ⟨bl10, be10⟩ := below_lt (g := w.heap.size) hb1 (by first | (go_simp; done) | (go_simp; intro hq; exfalso; omega) | (go_simp; omega))
  obtain ⟨br11, bn11, bc11, bf11⟩ := (Blk.below (g := w.heap.size + 1) (c := #[.int .u32 0, .int .u32 0, .int .u32 0, .int .u32 0, .int .u32 0, .int .u32 0, .int .u32 0, .int .u32 0, .int .u32 0, .int .u32 0, .int .u32 0, .int .u32 0, .int .u32 0, .int .u32 0, .int .u32 0, .int .u32 0, .int .u32 0]) ⟨by first | (go_simp; done) | (go_simp; intro hq; exfalso; omega) | (go_simp; omega), by first | (go_simp; done) | (go_simp; intro hq; exfalso; omega) | (go_simp; omega)⟩ hb1 (by first | (go_simp; done) | (go_simp; intro hq; exfalso; omega) | (go_simp; omega))).all
  obtain ⟨bl11, be11⟩ := below_lt (g := w.heap.size + 1) hb1 (by first | (go_simp; done) | (go_simp; intro hq; exfalso; omega) | (go_simp; omega))
  obtain ⟨br12, bn12, bc12, bf12⟩ := (Blk.below (g := w.heap.size + 1 + 1) (c := #[.int .i64 0, .int .u32 0, .int .i64 0, .int .i64 0, .int .u32 0, .int .u32 0]) ⟨by first | (go_simp; done) | (go_simp; intro hq; exfalso; omega) | (go_simp; omega), by first | (go_simp; done) | (go_simp; intro hq; exfalso; omega) | (go_simp; omega)⟩ hb1 (by first | (go_simp; done) | (go_simp; intro hq; exfalso; omega) | (go_simp; omega))).all
  obtain ⟨bl12, be12⟩ := below_lt (g := w.heap.size + 1 + 1) hb1 (by first | (go_simp; done) | (go_simp; intro hq; exfalso; omega) | (go_simp; omega))
  go_wp2_with fail
  go_quiet (fail)
  go_wp2
  refine bodyPost_ret (ret_cc rfl 17 6 _ _ (w.heap.size + 1) (w.heap.size + 1 + 1) rfl rfl (by go_simp) (by go_simp) (by go_simp) (by go_simp) (by kernel_rfl) (by kernel_rfl) (by kernel_rfl) (by kernel_rfl)) rfl ⟨by go_simp, ?_⟩
  repeat (first | (with_reducible exact Below.refl _ _) | (with_reducible refine Below.alloc ?_ ?h _; (case h => (first | omega | (simp; done) | (simp; omega)))) | (with_reducible refine Below.drew ?_) | (with_reducible refine below_drewN ?_ _) | (with_reducible refine Below.setCell ?_ ?h _; (case h => (first | omega | (simp; done) | (simp; omega)))) | (with_reducible refine below_row ?_ ?h _; (case h => (first | omega | (simp; done) | (simp; omega)))) | (with_reducible refine Below.trans ?_ (Below.mono hb1 ?h); (case h => (first | omega | (simp; done) | (simp; omega)))))
set_option maxHeartbeats 1000000 in
set_option maxRecDepth 100000 in
theorem step_r_br21 (r : Nat → Int) (pc x imm : Int) (k m : Nat) (w : World) (hk : k < 16) (hm : m < 16) (hdec : ∀ w, Calls Try.prog 11 #[.int .u32 x] w fun e w' => e = .returned (.tuple #[.agg #[.int .i64 21, .int .i64 k, .int .i64 m, .int .i64 imm], .int .i64 0]) ∧ Below w.heap.size w w') (hv0 : 0 ≤ r k) (hv1 : r k ≤ 4294967295) (hm0 : 0 ≤ r m) (hm1 : r m ≤ 4294967295) (htak : ∀ w, Calls Try.prog 22 #[.int .i64 21, .int .u32 (r k), .int .u32 (r m)] w fun e w' => e = .returned (.bool true) ∧ w = w') :
    Calls Try.prog 16 #[.agg (cpu r pc), .int .u32 x] w fun e w' => e = .returned (.tuple #[.agg (cpu r ((pc + 4 * (imm % 4294967296)) % 4294967296)), .agg #[.int .i64 1, .int .u32 0, .int .i64 0, .int .i64 0, .int .u32 0, .int .u32 0]]) ∧ Below w.heap.size w w' := by
  have Hhdec := Lib.hid hdec
  have Hhtak := Lib.hid htak
  clear hdec htak
  go_enter Try.func16, Try.ntmps16
  go_wp2_with fail
  refine (Hhdec.out _).mono ?_; rintro e w1 ⟨rfl, hb1⟩
  obtain ⟨br10, bn10, bc10, bf10⟩ := (Blk.below (g := w.heap.size) (c := cpu r pc) ⟨by first | (go_simp; done) | (go_simp; intro hq; exfalso; omega) | (go_simp; omega), by first | (go_simp; done) | (go_simp; intro hq; exfalso; omega) | (go_simp; omega)⟩ hb1 (by first | (go_simp; done) | (go_simp; intro hq; exfalso; omega) | (go_simp; omega))).all
  obtain ⟨bl10, be10⟩ := below_lt (g := w.heap.size) hb1 (by first | (go_simp; done) | (go_simp; intro hq; exfalso; omega) | (go_simp; omega))
  obtain ⟨br11, bn11, bc11, bf11⟩ := (Blk.below (g := w.heap.size + 1) (c := #[.int .u32 0, .int .u32 0, .int .u32 0, .int .u32 0, .int .u32 0, .int .u32 0, .int .u32 0, .int .u32 0, .int .u32 0, .int .u32 0, .int .u32 0, .int .u32 0, .int .u32 0, .int .u32 0, .int .u32 0, .int .u32 0, .int .u32 0]) ⟨by first | (go_simp; done) | (go_simp; intro hq; exfalso; omega) | (go_simp; omega), by first | (go_simp; done) | (go_simp; intro hq; exfalso; omega) | (go_simp; omega)⟩ hb1 (by first | (go_simp; done) | (go_simp; intro hq; exfalso; omega) | (go_simp; omega))).all
  obtain ⟨bl11, be11⟩ := below_lt (g := w.heap.size + 1) hb1 (by first | (go_simp; done) | (go_simp; intro hq; exfalso; omega) | (go_simp; omega))
  obtain ⟨br12, bn12, bc12, bf12⟩ := (Blk.below (g := w.heap.size + 1 + 1) (c := #[.int .i64 0, .int .u32 0, .int .i64 0, .int .i64 0, .int .u32 0, .int .u32 0]) ⟨by first | (go_simp; done) | (go_simp; intro hq; exfalso; omega) | (go_simp; omega), by first | (go_simp; done) | (go_simp; intro hq; exfalso; omega) | (go_simp; omega)⟩ hb1 (by first | (go_simp; done) | (go_simp; intro hq; exfalso; omega) | (go_simp; omega))).all
  obtain ⟨bl12, be12⟩ := below_lt (g := w.heap.size + 1 + 1) hb1 (by first | (go_simp; done) | (go_simp; intro hq; exfalso; omega) | (go_simp; omega))
  go_wp2_with fail
  go_quiet (fail)
  go_wp2_with fail
  refine (Hhtak.out _).mono ?_; rintro e w2 ⟨rfl, rfl⟩
  go_wp2
  refine bodyPost_ret (ret_cc rfl 17 6 _ _ (w.heap.size + 1) (w.heap.size + 1 + 1) rfl rfl (by go_simp) (by go_simp) (by go_simp) (by go_simp) (by kernel_rfl) (by kernel_rfl) (by kernel_rfl) (by kernel_rfl)) rfl ⟨by go_simp, ?_⟩
  repeat (first | (with_reducible exact Below.refl _ _) | (with_reducible refine Below.alloc ?_ ?h _; (case h => (first | omega | (simp; done) | (simp; omega)))) | (with_reducible refine Below.drew ?_) | (with_reducible refine below_drewN ?_ _) | (with_reducible refine Below.setCell ?_ ?h _; (case h => (first | omega | (simp; done) | (simp; omega)))) | (with_reducible refine below_row ?_ ?h _; (case h => (first | omega | (simp; done) | (simp; omega)))) | (with_reducible refine Below.trans ?_ (Below.mono hb1 ?h); (case h => (first | omega | (simp; done) | (simp; omega)))))
set_option maxHeartbeats 1000000 in
set_option maxRecDepth 100000 in
theorem step_r_nobr21 (r : Nat → Int) (pc x imm : Int) (k m : Nat) (w : World) (hk : k < 16) (hm : m < 16) (hdec : ∀ w, Calls Try.prog 11 #[.int .u32 x] w fun e w' => e = .returned (.tuple #[.agg #[.int .i64 21, .int .i64 k, .int .i64 m, .int .i64 imm], .int .i64 0]) ∧ Below w.heap.size w w') (hv0 : 0 ≤ r k) (hv1 : r k ≤ 4294967295) (hm0 : 0 ≤ r m) (hm1 : r m ≤ 4294967295) (htak : ∀ w, Calls Try.prog 22 #[.int .i64 21, .int .u32 (r k), .int .u32 (r m)] w fun e w' => e = .returned (.bool false) ∧ w = w') :
    Calls Try.prog 16 #[.agg (cpu r pc), .int .u32 x] w fun e w' => e = .returned (.tuple #[.agg (cpu r ((pc + 4) % 4294967296)), .agg #[.int .i64 1, .int .u32 0, .int .i64 0, .int .i64 0, .int .u32 0, .int .u32 0]]) ∧ Below w.heap.size w w' := by
  have Hhdec := Lib.hid hdec
  have Hhtak := Lib.hid htak
  clear hdec htak
  go_enter Try.func16, Try.ntmps16
  go_wp2_with fail
  refine (Hhdec.out _).mono ?_; rintro e w1 ⟨rfl, hb1⟩
  obtain ⟨br10, bn10, bc10, bf10⟩ := (Blk.below (g := w.heap.size) (c := cpu r pc) ⟨by first | (go_simp; done) | (go_simp; intro hq; exfalso; omega) | (go_simp; omega), by first | (go_simp; done) | (go_simp; intro hq; exfalso; omega) | (go_simp; omega)⟩ hb1 (by first | (go_simp; done) | (go_simp; intro hq; exfalso; omega) | (go_simp; omega))).all
  obtain ⟨bl10, be10⟩ := below_lt (g := w.heap.size) hb1 (by first | (go_simp; done) | (go_simp; intro hq; exfalso; omega) | (go_simp; omega))
  obtain ⟨br11, bn11, bc11, bf11⟩ := (Blk.below (g := w.heap.size + 1) (c := #[.int .u32 0, .int .u32 0, .int .u32 0, .int .u32 0, .int .u32 0, .int .u32 0, .int .u32 0, .int .u32 0, .int .u32 0, .int .u32 0, .int .u32 0, .int .u32 0, .int .u32 0, .int .u32 0, .int .u32 0, .int .u32 0, .int .u32 0]) ⟨by first | (go_simp; done) | (go_simp; intro hq; exfalso; omega) | (go_simp; omega), by first | (go_simp; done) | (go_simp; intro hq; exfalso; omega) | (go_simp; omega)⟩ hb1 (by first | (go_simp; done) | (go_simp; intro hq; exfalso; omega) | (go_simp; omega))).all
  obtain ⟨bl11, be11⟩ := below_lt (g := w.heap.size + 1) hb1 (by first | (go_simp; done) | (go_simp; intro hq; exfalso; omega) | (go_simp; omega))
  obtain ⟨br12, bn12, bc12, bf12⟩ := (Blk.below (g := w.heap.size + 1 + 1) (c := #[.int .i64 0, .int .u32 0, .int .i64 0, .int .i64 0, .int .u32 0, .int .u32 0]) ⟨by first | (go_simp; done) | (go_simp; intro hq; exfalso; omega) | (go_simp; omega), by first | (go_simp; done) | (go_simp; intro hq; exfalso; omega) | (go_simp; omega)⟩ hb1 (by first | (go_simp; done) | (go_simp; intro hq; exfalso; omega) | (go_simp; omega))).all
  obtain ⟨bl12, be12⟩ := below_lt (g := w.heap.size + 1 + 1) hb1 (by first | (go_simp; done) | (go_simp; intro hq; exfalso; omega) | (go_simp; omega))
  go_wp2_with fail
  go_quiet (fail)
  go_wp2_with fail
  refine (Hhtak.out _).mono ?_; rintro e w2 ⟨rfl, rfl⟩
  go_wp2
  refine bodyPost_ret (ret_cc rfl 17 6 _ _ (w.heap.size + 1) (w.heap.size + 1 + 1) rfl rfl (by go_simp) (by go_simp) (by go_simp) (by go_simp) (by kernel_rfl) (by kernel_rfl) (by kernel_rfl) (by kernel_rfl)) rfl ⟨by go_simp, ?_⟩
  repeat (first | (with_reducible exact Below.refl _ _) | (with_reducible refine Below.alloc ?_ ?h _; (case h => (first | omega | (simp; done) | (simp; omega)))) | (with_reducible refine Below.drew ?_) | (with_reducible refine below_drewN ?_ _) | (with_reducible refine Below.setCell ?_ ?h _; (case h => (first | omega | (simp; done) | (simp; omega)))) | (with_reducible refine below_row ?_ ?h _; (case h => (first | omega | (simp; done) | (simp; omega)))) | (with_reducible refine Below.trans ?_ (Below.mono hb1 ?h); (case h => (first | omega | (simp; done) | (simp; omega)))))
set_option maxHeartbeats 1000000 in
set_option maxRecDepth 100000 in
theorem step_r_br22 (r : Nat → Int) (pc x imm : Int) (k m : Nat) (w : World) (hk : k < 16) (hm : m < 16) (hdec : ∀ w, Calls Try.prog 11 #[.int .u32 x] w fun e w' => e = .returned (.tuple #[.agg #[.int .i64 22, .int .i64 k, .int .i64 m, .int .i64 imm], .int .i64 0]) ∧ Below w.heap.size w w') (hv0 : 0 ≤ r k) (hv1 : r k ≤ 4294967295) (hm0 : 0 ≤ r m) (hm1 : r m ≤ 4294967295) (htak : ∀ w, Calls Try.prog 22 #[.int .i64 22, .int .u32 (r k), .int .u32 (r m)] w fun e w' => e = .returned (.bool true) ∧ w = w') :
    Calls Try.prog 16 #[.agg (cpu r pc), .int .u32 x] w fun e w' => e = .returned (.tuple #[.agg (cpu r ((pc + 4 * (imm % 4294967296)) % 4294967296)), .agg #[.int .i64 1, .int .u32 0, .int .i64 0, .int .i64 0, .int .u32 0, .int .u32 0]]) ∧ Below w.heap.size w w' := by
  have Hhdec := Lib.hid hdec
  have Hhtak := Lib.hid htak
  clear hdec htak
  go_enter Try.func16, Try.ntmps16
  go_wp2_with fail
  refine (Hhdec.out _).mono ?_; rintro e w1 ⟨rfl, hb1⟩
  obtain ⟨br10, bn10, bc10, bf10⟩ := (Blk.below (g := w.heap.size) (c := cpu r pc) ⟨by first | (go_simp; done) | (go_simp; intro hq; exfalso; omega) | (go_simp; omega), by first | (go_simp; done) | (go_simp; intro hq; exfalso; omega) | (go_simp; omega)⟩ hb1 (by first | (go_simp; done) | (go_simp; intro hq; exfalso; omega) | (go_simp; omega))).all
  obtain ⟨bl10, be10⟩ := below_lt (g := w.heap.size) hb1 (by first | (go_simp; done) | (go_simp; intro hq; exfalso; omega) | (go_simp; omega))
  obtain ⟨br11, bn11, bc11, bf11⟩ := (Blk.below (g := w.heap.size + 1) (c := #[.int .u32 0, .int .u32 0, .int .u32 0, .int .u32 0, .int .u32 0, .int .u32 0, .int .u32 0, .int .u32 0, .int .u32 0, .int .u32 0, .int .u32 0, .int .u32 0, .int .u32 0, .int .u32 0, .int .u32 0, .int .u32 0, .int .u32 0]) ⟨by first | (go_simp; done) | (go_simp; intro hq; exfalso; omega) | (go_simp; omega), by first | (go_simp; done) | (go_simp; intro hq; exfalso; omega) | (go_simp; omega)⟩ hb1 (by first | (go_simp; done) | (go_simp; intro hq; exfalso; omega) | (go_simp; omega))).all
  obtain ⟨bl11, be11⟩ := below_lt (g := w.heap.size + 1) hb1 (by first | (go_simp; done) | (go_simp; intro hq; exfalso; omega) | (go_simp; omega))
  obtain ⟨br12, bn12, bc12, bf12⟩ := (Blk.below (g := w.heap.size + 1 + 1) (c := #[.int .i64 0, .int .u32 0, .int .i64 0, .int .i64 0, .int .u32 0, .int .u32 0]) ⟨by first | (go_simp; done) | (go_simp; intro hq; exfalso; omega) | (go_simp; omega), by first | (go_simp; done) | (go_simp; intro hq; exfalso; omega) | (go_simp; omega)⟩ hb1 (by first | (go_simp; done) | (go_simp; intro hq; exfalso; omega) | (go_simp; omega))).all
  obtain ⟨bl12, be12⟩ := below_lt (g := w.heap.size + 1 + 1) hb1 (by first | (go_simp; done) | (go_simp; intro hq; exfalso; omega) | (go_simp; omega))
  go_wp2_with fail
  go_quiet (fail)
  go_wp2_with fail
  refine (Hhtak.out _).mono ?_; rintro e w2 ⟨rfl, rfl⟩
  go_wp2
  refine bodyPost_ret (ret_cc rfl 17 6 _ _ (w.heap.size + 1) (w.heap.size + 1 + 1) rfl rfl (by go_simp) (by go_simp) (by go_simp) (by go_simp) (by kernel_rfl) (by kernel_rfl) (by kernel_rfl) (by kernel_rfl)) rfl ⟨by go_simp, ?_⟩
  repeat (first | (with_reducible exact Below.refl _ _) | (with_reducible refine Below.alloc ?_ ?h _; (case h => (first | omega | (simp; done) | (simp; omega)))) | (with_reducible refine Below.drew ?_) | (with_reducible refine below_drewN ?_ _) | (with_reducible refine Below.setCell ?_ ?h _; (case h => (first | omega | (simp; done) | (simp; omega)))) | (with_reducible refine below_row ?_ ?h _; (case h => (first | omega | (simp; done) | (simp; omega)))) | (with_reducible refine Below.trans ?_ (Below.mono hb1 ?h); (case h => (first | omega | (simp; done) | (simp; omega)))))
set_option maxHeartbeats 1000000 in
set_option maxRecDepth 100000 in
theorem step_r_nobr22 (r : Nat → Int) (pc x imm : Int) (k m : Nat) (w : World) (hk : k < 16) (hm : m < 16) (hdec : ∀ w, Calls Try.prog 11 #[.int .u32 x] w fun e w' => e = .returned (.tuple #[.agg #[.int .i64 22, .int .i64 k, .int .i64 m, .int .i64 imm], .int .i64 0]) ∧ Below w.heap.size w w') (hv0 : 0 ≤ r k) (hv1 : r k ≤ 4294967295) (hm0 : 0 ≤ r m) (hm1 : r m ≤ 4294967295) (htak : ∀ w, Calls Try.prog 22 #[.int .i64 22, .int .u32 (r k), .int .u32 (r m)] w fun e w' => e = .returned (.bool false) ∧ w = w') :
    Calls Try.prog 16 #[.agg (cpu r pc), .int .u32 x] w fun e w' => e = .returned (.tuple #[.agg (cpu r ((pc + 4) % 4294967296)), .agg #[.int .i64 1, .int .u32 0, .int .i64 0, .int .i64 0, .int .u32 0, .int .u32 0]]) ∧ Below w.heap.size w w' := by
  have Hhdec := Lib.hid hdec
  have Hhtak := Lib.hid htak
  clear hdec htak
  go_enter Try.func16, Try.ntmps16
  go_wp2_with fail
  refine (Hhdec.out _).mono ?_; rintro e w1 ⟨rfl, hb1⟩
  obtain ⟨br10, bn10, bc10, bf10⟩ := (Blk.below (g := w.heap.size) (c := cpu r pc) ⟨by first | (go_simp; done) | (go_simp; intro hq; exfalso; omega) | (go_simp; omega), by first | (go_simp; done) | (go_simp; intro hq; exfalso; omega) | (go_simp; omega)⟩ hb1 (by first | (go_simp; done) | (go_simp; intro hq; exfalso; omega) | (go_simp; omega))).all
  obtain ⟨bl10, be10⟩ := below_lt (g := w.heap.size) hb1 (by first | (go_simp; done) | (go_simp; intro hq; exfalso; omega) | (go_simp; omega))
  obtain ⟨br11, bn11, bc11, bf11⟩ := (Blk.below (g := w.heap.size + 1) (c := #[.int .u32 0, .int .u32 0, .int .u32 0, .int .u32 0, .int .u32 0, .int .u32 0, .int .u32 0, .int .u32 0, .int .u32 0, .int .u32 0, .int .u32 0, .int .u32 0, .int .u32 0, .int .u32 0, .int .u32 0, .int .u32 0, .int .u32 0]) ⟨by first | (go_simp; done) | (go_simp; intro hq; exfalso; omega) | (go_simp; omega), by first | (go_simp; done) | (go_simp; intro hq; exfalso; omega) | (go_simp; omega)⟩ hb1 (by first | (go_simp; done) | (go_simp; intro hq; exfalso; omega) | (go_simp; omega))).all
  obtain ⟨bl11, be11⟩ := below_lt (g := w.heap.size + 1) hb1 (by first | (go_simp; done) | (go_simp; intro hq; exfalso; omega) | (go_simp; omega))
  obtain ⟨br12, bn12, bc12, bf12⟩ := (Blk.below (g := w.heap.size + 1 + 1) (c := #[.int .i64 0, .int .u32 0, .int .i64 0, .int .i64 0, .int .u32 0, .int .u32 0]) ⟨by first | (go_simp; done) | (go_simp; intro hq; exfalso; omega) | (go_simp; omega), by first | (go_simp; done) | (go_simp; intro hq; exfalso; omega) | (go_simp; omega)⟩ hb1 (by first | (go_simp; done) | (go_simp; intro hq; exfalso; omega) | (go_simp; omega))).all
  obtain ⟨bl12, be12⟩ := below_lt (g := w.heap.size + 1 + 1) hb1 (by first | (go_simp; done) | (go_simp; intro hq; exfalso; omega) | (go_simp; omega))
  go_wp2_with fail
  go_quiet (fail)
  go_wp2_with fail
  refine (Hhtak.out _).mono ?_; rintro e w2 ⟨rfl, rfl⟩
  go_wp2
  refine bodyPost_ret (ret_cc rfl 17 6 _ _ (w.heap.size + 1) (w.heap.size + 1 + 1) rfl rfl (by go_simp) (by go_simp) (by go_simp) (by go_simp) (by kernel_rfl) (by kernel_rfl) (by kernel_rfl) (by kernel_rfl)) rfl ⟨by go_simp, ?_⟩
  repeat (first | (with_reducible exact Below.refl _ _) | (with_reducible refine Below.alloc ?_ ?h _; (case h => (first | omega | (simp; done) | (simp; omega)))) | (with_reducible refine Below.drew ?_) | (with_reducible refine below_drewN ?_ _) | (with_reducible refine Below.setCell ?_ ?h _; (case h => (first | omega | (simp; done) | (simp; omega)))) | (with_reducible refine below_row ?_ ?h _; (case h => (first | omega | (simp; done) | (simp; omega)))) | (with_reducible refine Below.trans ?_ (Below.mono hb1 ?h); (case h => (first | omega | (simp; done) | (simp; omega)))))
set_option maxHeartbeats 1000000 in
set_option maxRecDepth 100000 in
theorem step_r_br23 (r : Nat → Int) (pc x imm : Int) (k m : Nat) (w : World) (hk : k < 16) (hm : m < 16) (hdec : ∀ w, Calls Try.prog 11 #[.int .u32 x] w fun e w' => e = .returned (.tuple #[.agg #[.int .i64 23, .int .i64 k, .int .i64 m, .int .i64 imm], .int .i64 0]) ∧ Below w.heap.size w w') (hv0 : 0 ≤ r k) (hv1 : r k ≤ 4294967295) (hm0 : 0 ≤ r m) (hm1 : r m ≤ 4294967295) (htak : ∀ w, Calls Try.prog 22 #[.int .i64 23, .int .u32 (r k), .int .u32 (r m)] w fun e w' => e = .returned (.bool true) ∧ w = w') :
    Calls Try.prog 16 #[.agg (cpu r pc), .int .u32 x] w fun e w' => e = .returned (.tuple #[.agg (cpu r ((pc + 4 * (imm % 4294967296)) % 4294967296)), .agg #[.int .i64 1, .int .u32 0, .int .i64 0, .int .i64 0, .int .u32 0, .int .u32 0]]) ∧ Below w.heap.size w w' := by
  have Hhdec := Lib.hid hdec
  have Hhtak := Lib.hid htak
  clear hdec htak
  go_enter Try.func16, Try.ntmps16
  go_wp2_with fail
  refine (Hhdec.out _).mono ?_; rintro e w1 ⟨rfl, hb1⟩
  obtain ⟨br10, bn10, bc10, bf10⟩ := (Blk.below (g := w.heap.size) (c := cpu r pc) ⟨by first | (go_simp; done) | (go_simp; intro hq; exfalso; omega) | (go_simp; omega), by first | (go_simp; done) | (go_simp; intro hq; exfalso; omega) | (go_simp; omega)⟩ hb1 (by first | (go_simp; done) | (go_simp; intro hq; exfalso; omega) | (go_simp; omega))).all
  obtain ⟨bl10, be10⟩ := below_lt (g := w.heap.size) hb1 (by first | (go_simp; done) | (go_simp; intro hq; exfalso; omega) | (go_simp; omega))
  obtain ⟨br11, bn11, bc11, bf11⟩ := (Blk.below (g := w.heap.size + 1) (c := #[.int .u32 0, .int .u32 0, .int .u32 0, .int .u32 0, .int .u32 0, .int .u32 0, .int .u32 0, .int .u32 0, .int .u32 0, .int .u32 0, .int .u32 0, .int .u32 0, .int .u32 0, .int .u32 0, .int .u32 0, .int .u32 0, .int .u32 0]) ⟨by first | (go_simp; done) | (go_simp; intro hq; exfalso; omega) | (go_simp; omega), by first | (go_simp; done) | (go_simp; intro hq; exfalso; omega) | (go_simp; omega)⟩ hb1 (by first | (go_simp; done) | (go_simp; intro hq; exfalso; omega) | (go_simp; omega))).all
  obtain ⟨bl11, be11⟩ := below_lt (g := w.heap.size + 1) hb1 (by first | (go_simp; done) | (go_simp; intro hq; exfalso; omega) | (go_simp; omega))
  obtain ⟨br12, bn12, bc12, bf12⟩ := (Blk.below (g := w.heap.size + 1 + 1) (c := #[.int .i64 0, .int .u32 0, .int .i64 0, .int .i64 0, .int .u32 0, .int .u32 0]) ⟨by first | (go_simp; done) | (go_simp; intro hq; exfalso; omega) | (go_simp; omega), by first | (go_simp; done) | (go_simp; intro hq; exfalso; omega) | (go_simp; omega)⟩ hb1 (by first | (go_simp; done) | (go_simp; intro hq; exfalso; omega) | (go_simp; omega))).all
  obtain ⟨bl12, be12⟩ := below_lt (g := w.heap.size + 1 + 1) hb1 (by first | (go_simp; done) | (go_simp; intro hq; exfalso; omega) | (go_simp; omega))
  go_wp2_with fail
  go_quiet (fail)
  go_wp2_with fail
  refine (Hhtak.out _).mono ?_; rintro e w2 ⟨rfl, rfl⟩
  go_wp2
  refine bodyPost_ret (ret_cc rfl 17 6 _ _ (w.heap.size + 1) (w.heap.size + 1 + 1) rfl rfl (by go_simp) (by go_simp) (by go_simp) (by go_simp) (by kernel_rfl) (by kernel_rfl) (by kernel_rfl) (by kernel_rfl)) rfl ⟨by go_simp, ?_⟩
  repeat (first | (with_reducible exact Below.refl _ _) | (with_reducible refine Below.alloc ?_ ?h _; (case h => (first | omega | (simp; done) | (simp; omega)))) | (with_reducible refine Below.drew ?_) | (with_reducible refine below_drewN ?_ _) | (with_reducible refine Below.setCell ?_ ?h _; (case h => (first | omega | (simp; done) | (simp; omega)))) | (with_reducible refine below_row ?_ ?h _; (case h => (first | omega | (simp; done) | (simp; omega)))) | (with_reducible refine Below.trans ?_ (Below.mono hb1 ?h); (case h => (first | omega | (simp; done) | (simp; omega)))))
set_option maxHeartbeats 1000000 in
set_option maxRecDepth 100000 in
theorem step_r_nobr23 (r : Nat → Int) (pc x imm : Int) (k m : Nat) (w : World) (hk : k < 16) (hm : m < 16) (hdec : ∀ w, Calls Try.prog 11 #[.int .u32 x] w fun e w' => e = .returned (.tuple #[.agg #[.int .i64 23, .int .i64 k, .int .i64 m, .int .i64 imm], .int .i64 0]) ∧ Below w.heap.size w w') (hv0 : 0 ≤ r k) (hv1 : r k ≤ 4294967295) (hm0 : 0 ≤ r m) (hm1 : r m ≤ 4294967295) (htak : ∀ w, Calls Try.prog 22 #[.int .i64 23, .int .u32 (r k), .int .u32 (r m)] w fun e w' => e = .returned (.bool false) ∧ w = w') :
    Calls Try.prog 16 #[.agg (cpu r pc), .int .u32 x] w fun e w' => e = .returned (.tuple #[.agg (cpu r ((pc + 4) % 4294967296)), .agg #[.int .i64 1, .int .u32 0, .int .i64 0, .int .i64 0, .int .u32 0, .int .u32 0]]) ∧ Below w.heap.size w w' := by
  have Hhdec := Lib.hid hdec
  have Hhtak := Lib.hid htak
  clear hdec htak
  go_enter Try.func16, Try.ntmps16
  go_wp2_with fail
  refine (Hhdec.out _).mono ?_; rintro e w1 ⟨rfl, hb1⟩
  obtain ⟨br10, bn10, bc10, bf10⟩ := (Blk.below (g := w.heap.size) (c := cpu r pc) ⟨by first | (go_simp; done) | (go_simp; intro hq; exfalso; omega) | (go_simp; omega), by first | (go_simp; done) | (go_simp; intro hq; exfalso; omega) | (go_simp; omega)⟩ hb1 (by first | (go_simp; done) | (go_simp; intro hq; exfalso; omega) | (go_simp; omega))).all
  obtain ⟨bl10, be10⟩ := below_lt (g := w.heap.size) hb1 (by first | (go_simp; done) | (go_simp; intro hq; exfalso; omega) | (go_simp; omega))
  obtain ⟨br11, bn11, bc11, bf11⟩ := (Blk.below (g := w.heap.size + 1) (c := #[.int .u32 0, .int .u32 0, .int .u32 0, .int .u32 0, .int .u32 0, .int .u32 0, .int .u32 0, .int .u32 0, .int .u32 0, .int .u32 0, .int .u32 0, .int .u32 0, .int .u32 0, .int .u32 0, .int .u32 0, .int .u32 0, .int .u32 0]) ⟨by first | (go_simp; done) | (go_simp; intro hq; exfalso; omega) | (go_simp; omega), by first | (go_simp; done) | (go_simp; intro hq; exfalso; omega) | (go_simp; omega)⟩ hb1 (by first | (go_simp; done) | (go_simp; intro hq; exfalso; omega) | (go_simp; omega))).all
  obtain ⟨bl11, be11⟩ := below_lt (g := w.heap.size + 1) hb1 (by first | (go_simp; done) | (go_simp; intro hq; exfalso; omega) | (go_simp; omega))
  obtain ⟨br12, bn12, bc12, bf12⟩ := (Blk.below (g := w.heap.size + 1 + 1) (c := #[.int .i64 0, .int .u32 0, .int .i64 0, .int .i64 0, .int .u32 0, .int .u32 0]) ⟨by first | (go_simp; done) | (go_simp; intro hq; exfalso; omega) | (go_simp; omega), by first | (go_simp; done) | (go_simp; intro hq; exfalso; omega) | (go_simp; omega)⟩ hb1 (by first | (go_simp; done) | (go_simp; intro hq; exfalso; omega) | (go_simp; omega))).all
  obtain ⟨bl12, be12⟩ := below_lt (g := w.heap.size + 1 + 1) hb1 (by first | (go_simp; done) | (go_simp; intro hq; exfalso; omega) | (go_simp; omega))
  go_wp2_with fail
  go_quiet (fail)
  go_wp2_with fail
  refine (Hhtak.out _).mono ?_; rintro e w2 ⟨rfl, rfl⟩
  go_wp2
  refine bodyPost_ret (ret_cc rfl 17 6 _ _ (w.heap.size + 1) (w.heap.size + 1 + 1) rfl rfl (by go_simp) (by go_simp) (by go_simp) (by go_simp) (by kernel_rfl) (by kernel_rfl) (by kernel_rfl) (by kernel_rfl)) rfl ⟨by go_simp, ?_⟩
  repeat (first | (with_reducible exact Below.refl _ _) | (with_reducible refine Below.alloc ?_ ?h _; (case h => (first | omega | (simp; done) | (simp; omega)))) | (with_reducible refine Below.drew ?_) | (with_reducible refine below_drewN ?_ _) | (with_reducible refine Below.setCell ?_ ?h _; (case h => (first | omega | (simp; done) | (simp; omega)))) | (with_reducible refine below_row ?_ ?h _; (case h => (first | omega | (simp; done) | (simp; omega)))) | (with_reducible refine Below.trans ?_ (Below.mono hb1 ?h); (case h => (first | omega | (simp; done) | (simp; omega)))))
set_option maxHeartbeats 1000000 in
set_option maxRecDepth 100000 in
theorem step_r_br24 (r : Nat → Int) (pc x imm : Int) (k m : Nat) (w : World) (hk : k < 16) (hm : m < 16) (hdec : ∀ w, Calls Try.prog 11 #[.int .u32 x] w fun e w' => e = .returned (.tuple #[.agg #[.int .i64 24, .int .i64 k, .int .i64 m, .int .i64 imm], .int .i64 0]) ∧ Below w.heap.size w w') (hv0 : 0 ≤ r k) (hv1 : r k ≤ 4294967295) (hm0 : 0 ≤ r m) (hm1 : r m ≤ 4294967295) (htak : ∀ w, Calls Try.prog 22 #[.int .i64 24, .int .u32 (r k), .int .u32 (r m)] w fun e w' => e = .returned (.bool true) ∧ w = w') :
    Calls Try.prog 16 #[.agg (cpu r pc), .int .u32 x] w fun e w' => e = .returned (.tuple #[.agg (cpu r ((pc + 4 * (imm % 4294967296)) % 4294967296)), .agg #[.int .i64 1, .int .u32 0, .int .i64 0, .int .i64 0, .int .u32 0, .int .u32 0]]) ∧ Below w.heap.size w w' := by
  have Hhdec := Lib.hid hdec
  have Hhtak := Lib.hid htak
  clear hdec htak
  go_enter Try.func16, Try.ntmps16
  go_wp2_with fail
  refine (Hhdec.out _).mono ?_; rintro e w1 ⟨rfl, hb1⟩
  obtain ⟨br10, bn10, bc10, bf10⟩ := (Blk.below (g := w.heap.size) (c := cpu r pc) ⟨by first | (go_simp; done) | (go_simp; intro hq; exfalso; omega) | (go_simp; omega), by first | (go_simp; done) | (go_simp; intro hq; exfalso; omega) | (go_simp; omega)⟩ hb1 (by first | (go_simp; done) | (go_simp; intro hq; exfalso; omega) | (go_simp; omega))).all
  obtain ⟨bl10, be10⟩ := below_lt (g := w.heap.size) hb1 (by first | (go_simp; done) | (go_simp; intro hq; exfalso; omega) | (go_simp; omega))
  obtain ⟨br11, bn11, bc11, bf11⟩ := (Blk.below (g := w.heap.size + 1) (c := #[.int .u32 0, .int .u32 0, .int .u32 0, .int .u32 0, .int .u32 0, .int .u32 0, .int .u32 0, .int .u32 0, .int .u32 0, .int .u32 0, .int .u32 0, .int .u32 0, .int .u32 0, .int .u32 0, .int .u32 0, .int .u32 0, .int .u32 0]) ⟨by first | (go_simp; done) | (go_simp; intro hq; exfalso; omega) | (go_simp; omega), by first | (go_simp; done) | (go_simp; intro hq; exfalso; omega) | (go_simp; omega)⟩ hb1 (by first | (go_simp; done) | (go_simp; intro hq; exfalso; omega) | (go_simp; omega))).all
  obtain ⟨bl11, be11⟩ := below_lt (g := w.heap.size + 1) hb1 (by first | (go_simp; done) | (go_simp; intro hq; exfalso; omega) | (go_simp; omega))
  obtain ⟨br12, bn12, bc12, bf12⟩ := (Blk.below (g := w.heap.size + 1 + 1) (c := #[.int .i64 0, .int .u32 0, .int .i64 0, .int .i64 0, .int .u32 0, .int .u32 0]) ⟨by first | (go_simp; done) | (go_simp; intro hq; exfalso; omega) | (go_simp; omega), by first | (go_simp; done) | (go_simp; intro hq; exfalso; omega) | (go_simp; omega)⟩ hb1 (by first | (go_simp; done) | (go_simp; intro hq; exfalso; omega) | (go_simp; omega))).all
  obtain ⟨bl12, be12⟩ := below_lt (g := w.heap.size + 1 + 1) hb1 (by first | (go_simp; done) | (go_simp; intro hq; exfalso; omega) | (go_simp; omega))
  go_wp2_with fail
  go_quiet (fail)
  go_wp2_with fail
  refine (Hhtak.out _).mono ?_; rintro e w2 ⟨rfl, rfl⟩
  go_wp2
  refine bodyPost_ret (ret_cc rfl 17 6 _ _ (w.heap.size + 1) (w.heap.size + 1 + 1) rfl rfl (by go_simp) (by go_simp) (by go_simp) (by go_simp) (by kernel_rfl) (by kernel_rfl) (by kernel_rfl) (by kernel_rfl)) rfl ⟨by go_simp, ?_⟩
  repeat (first | (with_reducible exact Below.refl _ _) | (with_reducible refine Below.alloc ?_ ?h _; (case h => (first | omega | (simp; done) | (simp; omega)))) | (with_reducible refine Below.drew ?_) | (with_reducible refine below_drewN ?_ _) | (with_reducible refine Below.setCell ?_ ?h _; (case h => (first | omega | (simp; done) | (simp; omega)))) | (with_reducible refine below_row ?_ ?h _; (case h => (first | omega | (simp; done) | (simp; omega)))) | (with_reducible refine Below.trans ?_ (Below.mono hb1 ?h); (case h => (first | omega | (simp; done) | (simp; omega)))))
set_option maxHeartbeats 1000000 in
set_option maxRecDepth 100000 in
theorem step_r_nobr24 (r : Nat → Int) (pc x imm : Int) (k m : Nat) (w : World) (hk : k < 16) (hm : m < 16) (hdec : ∀ w, Calls Try.prog 11 #[.int .u32 x] w fun e w' => e = .returned (.tuple #[.agg #[.int .i64 24, .int .i64 k, .int .i64 m, .int .i64 imm], .int .i64 0]) ∧ Below w.heap.size w w') (hv0 : 0 ≤ r k) (hv1 : r k ≤ 4294967295) (hm0 : 0 ≤ r m) (hm1 : r m ≤ 4294967295) (htak : ∀ w, Calls Try.prog 22 #[.int .i64 24, .int .u32 (r k), .int .u32 (r m)] w fun e w' => e = .returned (.bool false) ∧ w = w') :
    Calls Try.prog 16 #[.agg (cpu r pc), .int .u32 x] w fun e w' => e = .returned (.tuple #[.agg (cpu r ((pc + 4) % 4294967296)), .agg #[.int .i64 1, .int .u32 0, .int .i64 0, .int .i64 0, .int .u32 0, .int .u32 0]]) ∧ Below w.heap.size w w' := by
  have Hhdec := Lib.hid hdec
  have Hhtak := Lib.hid htak
  clear hdec htak
  go_enter Try.func16, Try.ntmps16
  go_wp2_with fail
  refine (Hhdec.out _).mono ?_; rintro e w1 ⟨rfl, hb1⟩
  obtain ⟨br10, bn10, bc10, bf10⟩ := (Blk.below (g := w.heap.size) (c := cpu r pc) ⟨by first | (go_simp; done) | (go_simp; intro hq; exfalso; omega) | (go_simp; omega), by first | (go_simp; done) | (go_simp; intro hq; exfalso; omega) | (go_simp; omega)⟩ hb1 (by first | (go_simp; done) | (go_simp; intro hq; exfalso; omega) | (go_simp; omega))).all
  obtain ⟨bl10, be10⟩ := below_lt (g := w.heap.size) hb1 (by first | (go_simp; done) | (go_simp; intro hq; exfalso; omega) | (go_simp; omega))
  obtain ⟨br11, bn11, bc11, bf11⟩ := (Blk.below (g := w.heap.size + 1) (c := #[.int .u32 0, .int .u32 0, .int .u32 0, .int .u32 0, .int .u32 0, .int .u32 0, .int .u32 0, .int .u32 0, .int .u32 0, .int .u32 0, .int .u32 0, .int .u32 0, .int .u32 0, .int .u32 0, .int .u32 0, .int .u32 0, .int .u32 0]) ⟨by first | (go_simp; done) | (go_simp; intro hq; exfalso; omega) | (go_simp; omega), by first | (go_simp; done) | (go_simp; intro hq; exfalso; omega) | (go_simp; omega)⟩ hb1 (by first | (go_simp; done) | (go_simp; intro hq; exfalso; omega) | (go_simp; omega))).all
  obtain ⟨bl11, be11⟩ := below_lt (g := w.heap.size + 1) hb1 (by first | (go_simp; done) | (go_simp; intro hq; exfalso; omega) | (go_simp; omega))
  obtain ⟨br12, bn12, bc12, bf12⟩ := (Blk.below (g := w.heap.size + 1 + 1) (c := #[.int .i64 0, .int .u32 0, .int .i64 0, .int .i64 0, .int .u32 0, .int .u32 0]) ⟨by first | (go_simp; done) | (go_simp; intro hq; exfalso; omega) | (go_simp; omega), by first | (go_simp; done) | (go_simp; intro hq; exfalso; omega) | (go_simp; omega)⟩ hb1 (by first | (go_simp; done) | (go_simp; intro hq; exfalso; omega) | (go_simp; omega))).all
  obtain ⟨bl12, be12⟩ := below_lt (g := w.heap.size + 1 + 1) hb1 (by first | (go_simp; done) | (go_simp; intro hq; exfalso; omega) | (go_simp; omega))
  go_wp2_with fail
  go_quiet (fail)
  go_wp2_with fail
  refine (Hhtak.out _).mono ?_; rintro e w2 ⟨rfl, rfl⟩
  go_wp2
  refine bodyPost_ret (ret_cc rfl 17 6 _ _ (w.heap.size + 1) (w.heap.size + 1 + 1) rfl rfl (by go_simp) (by go_simp) (by go_simp) (by go_simp) (by kernel_rfl) (by kernel_rfl) (by kernel_rfl) (by kernel_rfl)) rfl ⟨by go_simp, ?_⟩
  repeat (first | (with_reducible exact Below.refl _ _) | (with_reducible refine Below.alloc ?_ ?h _; (case h => (first | omega | (simp; done) | (simp; omega)))) | (with_reducible refine Below.drew ?_) | (with_reducible refine below_drewN ?_ _) | (with_reducible refine Below.setCell ?_ ?h _; (case h => (first | omega | (simp; done) | (simp; omega)))) | (with_reducible refine below_row ?_ ?h _; (case h => (first | omega | (simp; done) | (simp; omega)))) | (with_reducible refine Below.trans ?_ (Below.mono hb1 ?h); (case h => (first | omega | (simp; done) | (simp; omega)))))
set_option maxHeartbeats 1000000 in
set_option maxRecDepth 100000 in
theorem step_r_val (r : Nat → Int) (pc x imm op v : Int) (k m : Nat) (w : World) (hk : k < 16) (hm : m < 16) (hdec : ∀ w, Calls Try.prog 11 #[.int .u32 x] w fun e w' => e = .returned (.tuple #[.agg #[.int .i64 op, .int .i64 k, .int .i64 m, .int .i64 imm], .int .i64 0]) ∧ Below w.heap.size w w') (hv0 : 0 ≤ r k) (hv1 : r k ≤ 4294967295) (hm0 : 0 ≤ r m) (hm1 : r m ≤ 4294967295) (n17 : (op == 17) = false) (n19 : (op == 19) = false) (n18 : (op == 18) = false) (n20 : (op == 20) = false) (n27 : (op == 27) = false) (n28 : (op == 28) = false) (n21 : (op == 21) = false) (n22 : (op == 22) = false) (n23 : (op == 23) = false) (n24 : (op == 24) = false) (n25 : (op == 25) = false) (n26 : (op == 26) = false) (hval : ∀ w, Calls Try.prog 23 #[.agg #[.int .i64 op, .int .i64 k, .int .i64 m, .int .i64 imm], .int .u32 (r k), .int .u32 (r m)] w fun e w' => e = .returned (.int .u32 v) ∧ Below w.heap.size w w') :
    Calls Try.prog 16 #[.agg (cpu r pc), .int .u32 x] w fun e w' => e = .returned (.tuple #[.agg (cpu (upd r k v) ((pc + 4) % 4294967296)), .agg #[.int .i64 1, .int .u32 0, .int .i64 0, .int .i64 0, .int .u32 0, .int .u32 0]]) ∧ Below w.heap.size w w' := by
  have Hhdec := Lib.hid hdec
  have Hhval := Lib.hid hval
  clear hdec hval
  go_enter Try.func16, Try.ntmps16
  go_wp2_with fail
  refine (Hhdec.out _).mono ?_; rintro e w1 ⟨rfl, hb1⟩
  obtain ⟨br10, bn10, bc10, bf10⟩ := (Blk.below (g := w.heap.size) (c := cpu r pc) ⟨by first | (go_simp; done) | (go_simp; intro hq; exfalso; omega) | (go_simp; omega), by first | (go_simp; done) | (go_simp; intro hq; exfalso; omega) | (go_simp; omega)⟩ hb1 (by first | (go_simp; done) | (go_simp; intro hq; exfalso; omega) | (go_simp; omega))).all
  obtain ⟨bl10, be10⟩ := below_lt (g := w.heap.size) hb1 (by first | (go_simp; done) | (go_simp; intro hq; exfalso; omega) | (go_simp; omega))
  obtain ⟨br11, bn11, bc11, bf11⟩ := (Blk.below (g := w.heap.size + 1) (c := #[.int .u32 0, .int .u32 0, .int .u32 0, .int .u32 0, .int .u32 0, .int .u32 0, .int .u32 0, .int .u32 0, .int .u32 0, .int .u32 0, .int .u32 0, .int .u32 0, .int .u32 0, .int .u32 0, .int .u32 0, .int .u32 0, .int .u32 0]) ⟨by first | (go_simp; done) | (go_simp; intro hq; exfalso; omega) | (go_simp; omega), by first | (go_simp; done) | (go_simp; intro hq; exfalso; omega) | (go_simp; omega)⟩ hb1 (by first | (go_simp; done) | (go_simp; intro hq; exfalso; omega) | (go_simp; omega))).all
  obtain ⟨bl11, be11⟩ := below_lt (g := w.heap.size + 1) hb1 (by first | (go_simp; done) | (go_simp; intro hq; exfalso; omega) | (go_simp; omega))
  obtain ⟨br12, bn12, bc12, bf12⟩ := (Blk.below (g := w.heap.size + 1 + 1) (c := #[.int .i64 0, .int .u32 0, .int .i64 0, .int .i64 0, .int .u32 0, .int .u32 0]) ⟨by first | (go_simp; done) | (go_simp; intro hq; exfalso; omega) | (go_simp; omega), by first | (go_simp; done) | (go_simp; intro hq; exfalso; omega) | (go_simp; omega)⟩ hb1 (by first | (go_simp; done) | (go_simp; intro hq; exfalso; omega) | (go_simp; omega))).all
  obtain ⟨bl12, be12⟩ := below_lt (g := w.heap.size + 1 + 1) hb1 (by first | (go_simp; done) | (go_simp; intro hq; exfalso; omega) | (go_simp; omega))
  go_wp2_with fail
  go_quiet (fail)
  go_wp2_with fail
  go_region_with (go_at_call 23; refine (Hhval.out _).mono ?_; rintro e w3 ⟨rfl, hb3⟩; obtain ⟨br30, bn30, bc30, bf30⟩ := (Blk.below (g := w.heap.size) (c := cpu r pc) ⟨by first | (go_simp; done) | (go_simp; intro hq; exfalso; omega) | (go_simp; omega), by first | (go_simp; done) | (go_simp; intro hq; exfalso; omega) | (go_simp; omega)⟩ hb3 (by first | (go_simp; done) | (go_simp; intro hq; exfalso; omega) | (go_simp; omega))).all; obtain ⟨bl30, be30⟩ := below_lt (g := w.heap.size) hb3 (by first | (go_simp; done) | (go_simp; intro hq; exfalso; omega) | (go_simp; omega)); obtain ⟨br31, bn31, bc31, bf31⟩ := (Blk.below (g := w.heap.size + 1) (c := #[.int .u32 0, .int .u32 0, .int .u32 0, .int .u32 0, .int .u32 0, .int .u32 0, .int .u32 0, .int .u32 0, .int .u32 0, .int .u32 0, .int .u32 0, .int .u32 0, .int .u32 0, .int .u32 0, .int .u32 0, .int .u32 0, .int .u32 0]) ⟨by first | (go_simp; done) | (go_simp; intro hq; exfalso; omega) | (go_simp; omega), by first | (go_simp; done) | (go_simp; intro hq; exfalso; omega) | (go_simp; omega)⟩ hb3 (by first | (go_simp; done) | (go_simp; intro hq; exfalso; omega) | (go_simp; omega))).all; obtain ⟨bl31, be31⟩ := below_lt (g := w.heap.size + 1) hb3 (by first | (go_simp; done) | (go_simp; intro hq; exfalso; omega) | (go_simp; omega)); obtain ⟨br32, bn32, bc32, bf32⟩ := (Blk.below (g := w.heap.size + 1 + 1) (c := #[.int .i64 0, .int .u32 0, .int .i64 0, .int .i64 0, .int .u32 0, .int .u32 0]) ⟨by first | (go_simp; done) | (go_simp; intro hq; exfalso; omega) | (go_simp; omega), by first | (go_simp; done) | (go_simp; intro hq; exfalso; omega) | (go_simp; omega)⟩ hb3 (by first | (go_simp; done) | (go_simp; intro hq; exfalso; omega) | (go_simp; omega))).all; obtain ⟨bl32, be32⟩ := below_lt (g := w.heap.size + 1 + 1) hb3 (by first | (go_simp; done) | (go_simp; intro hq; exfalso; omega) | (go_simp; omega)); obtain ⟨br33, bn33, bc33, bf33⟩ := (Blk.below (g := w1.heap.size) (c := #[.int .i64 op, .int .i64 k, .int .i64 m, .int .i64 imm]) ⟨by first | (go_simp; done) | (go_simp; intro hq; exfalso; omega) | (go_simp; omega), by first | (go_simp; done) | (go_simp; intro hq; exfalso; omega) | (go_simp; omega)⟩ hb3 (by first | (go_simp; done) | (go_simp; intro hq; exfalso; omega) | (go_simp; omega))).all; obtain ⟨bl33, be33⟩ := below_lt (g := w1.heap.size) hb3 (by first | (go_simp; done) | (go_simp; intro hq; exfalso; omega) | (go_simp; omega)); obtain ⟨br34, bn34, bc34, bf34⟩ := (Blk.below (g := w1.heap.size + 1) (c := cpu r ((pc + 4) % 4294967296)) ⟨by first | (go_simp; done) | (go_simp; intro hq; exfalso; omega) | (go_simp; omega), by first | (go_simp; done) | (go_simp; intro hq; exfalso; omega) | (go_simp; omega)⟩ hb3 (by first | (go_simp; done) | (go_simp; intro hq; exfalso; omega) | (go_simp; omega))).all; obtain ⟨bl34, be34⟩ := below_lt (g := w1.heap.size + 1) hb3 (by first | (go_simp; done) | (go_simp; intro hq; exfalso; omega) | (go_simp; omega)))
  all_goals (go_wp2; refine bodyPost_ret (ret_cc rfl 17 6 _ _ (w.heap.size + 1) (w.heap.size + 1 + 1) rfl rfl (by go_simp) (by go_simp) (by go_simp) (by go_simp) (by kernel_rfl) (by kernel_rfl) (by kernel_rfl) (by kernel_rfl)) rfl ⟨by go_simp, ?_⟩; repeat (first | (with_reducible exact Below.refl _ _) | (with_reducible refine Below.alloc ?_ ?h _; (case h => (first | omega | (simp; done) | (simp; omega)))) | (with_reducible refine Below.drew ?_) | (with_reducible refine below_drewN ?_ _) | (with_reducible refine Below.setCell ?_ ?h _; (case h => (first | omega | (simp; done) | (simp; omega)))) | (with_reducible refine below_row ?_ ?h _; (case h => (first | omega | (simp; done) | (simp; omega)))) | (with_reducible refine Below.trans ?_ (Below.mono hb3 ?h); (case h => (first | omega | (simp; done) | (simp; omega)))) | (with_reducible refine Below.trans ?_ (Below.mono hb1 ?h); (case h => (first | omega | (simp; done) | (simp; omega))))))
end Go.Proofs.Ytjmdikabikgjhaa
