import Derived.Test.YtjmdikabikgjhaaWSteps
/- The walk of InsnOps. -/
namespace Go.Proofs.Ytjmdikabikgjhaa
open Go.RowKit
set_option linter.unusedVariables false
attribute [local go_sem] cpu_get cpu_get16 cpu_set cpu_set16 szIs_cpu szIs_lit row_at row_past row_alloc nf_alloc row_set nf_set row_cell nf_cell row_drew nf_drew row_drewN nf_drewN cell_setRow frozen_setRow nlt1 nlt2 nlt3 nlt4 nne1 nne2 nne3 nen1 nen2 nen3
attribute [local go_sem ↓] exec_load35 exec_store35
attribute [local go_sem] run_load35 run_store35

set_option maxHeartbeats 1000000 in
set_option maxRecDepth 100000 in
theorem ops_ok (r : Nat → Int) (pc op k m imm v : Int) (hr : ∀ i, word (r i)) (hpc : word pc) (hv : word v) (h : EncOk op k m imm) (w : World) :
    Calls Try.prog 7 #[.agg (cpu r pc), .agg #[.int .i64 op, .int .i64 k, .int .i64 m, .int .i64 imm], .int .u32 v] w fun e w' => e = .returned (.bool true) ∧ Below w.heap.size w w' := by
  have Hen := Lib.hid (enc_ok op k m imm h).2
  unfold insnA at Hen
  have Hst := Lib.hid (steps_walk r pc (encW op k m imm) v hr hpc (encW_word op k m imm h) hv)
  have Hli := Lib.hid lives_true
  clear hr hpc hv h
  generalize encW op k m imm = x at *
  go_enter Try.func7, Try.ntmps7
  go_wp2_with fail
  refine (Hen.out _).mono ?_; rintro e w1 ⟨rfl, hb1⟩
  obtain ⟨br10, bn10, bc10, bf10⟩ := (Blk.below (g := w.heap.size) (c := cpu r pc) ⟨by first | (go_simp; done) | (go_simp; intro hq; exfalso; omega) | (go_simp; omega), by first | (go_simp; done) | (go_simp; intro hq; exfalso; omega) | (go_simp; omega)⟩ hb1 (by first | (go_simp; done) | (go_simp; intro hq; exfalso; omega) | (go_simp; omega))).all
  obtain ⟨bl10, be10⟩ := below_lt (g := w.heap.size) hb1 (by first | (go_simp; done) | (go_simp; intro hq; exfalso; omega) | (go_simp; omega))
  go_wp2_with fail
  refine (Hli.out _).mono ?_; rintro e w2 ⟨rfl, hb2⟩
  obtain ⟨br20, bn20, bc20, bf20⟩ := (Blk.below (g := w.heap.size) (c := cpu r pc) ⟨by first | (go_simp; done) | (go_simp; intro hq; exfalso; omega) | (go_simp; omega), by first | (go_simp; done) | (go_simp; intro hq; exfalso; omega) | (go_simp; omega)⟩ hb2 (by first | (go_simp; done) | (go_simp; intro hq; exfalso; omega) | (go_simp; omega))).all
  obtain ⟨bl20, be20⟩ := below_lt (g := w.heap.size) hb2 (by first | (go_simp; done) | (go_simp; intro hq; exfalso; omega) | (go_simp; omega))
  go_wp2_with fail
  refine (Hst.out _).mono ?_; rintro e w3 ⟨rfl, hb3⟩
  go_wp2
  go_ret
  refine ⟨by simp, ?_⟩
  have z1 := hb1.size
  try simp at z1
  have z2 := hb2.size
  try simp at z2
  have z3 := hb3.size
  try simp at z3
  repeat (first | (with_reducible exact Below.refl _ _) | (with_reducible refine Below.alloc ?_ ?h _; (case h => (first | omega | (simp; done) | (simp; omega)))) | (with_reducible refine Below.drew ?_) | (with_reducible refine below_drewN ?_ _) | (with_reducible refine Below.setCell ?_ ?h _; (case h => (first | omega | (simp; done) | (simp; omega)))) | (with_reducible refine below_row ?_ ?h _; (case h => (first | omega | (simp; done) | (simp; omega)))) | (with_reducible refine Below.trans ?_ (Below.mono hb3 ?h); (case h => (first | omega | (simp; done) | (simp; omega)))) | (with_reducible refine Below.trans ?_ (Below.mono hb2 ?h); (case h => (first | omega | (simp; done) | (simp; omega)))) | (with_reducible refine Below.trans ?_ (Below.mono hb1 ?h); (case h => (first | omega | (simp; done) | (simp; omega)))))
set_option maxHeartbeats 1000000 in
set_option maxRecDepth 100000 in
theorem ops_bad (r : Nat → Int) (pc op k m imm v : Int) (h : ¬ EncOk op k m imm) (w : World) :
    Calls Try.prog 7 #[.agg (cpu r pc), .agg #[.int .i64 op, .int .i64 k, .int .i64 m, .int .i64 imm], .int .u32 v] w fun e w' => e = .returned (.bool true) ∧ Below w.heap.size w w' := by
  have Hen := Lib.hid (enc_bad op k m imm h).2
  unfold insnA at Hen
  have Hli := Lib.hid lives_true
  clear h
  go_enter Try.func7, Try.ntmps7
  go_wp2_with fail
  refine (Hen.out _).mono ?_; rintro e w1 ⟨rfl, hb1⟩
  obtain ⟨br10, bn10, bc10, bf10⟩ := (Blk.below (g := w.heap.size) (c := cpu r pc) ⟨by first | (go_simp; done) | (go_simp; intro hq; exfalso; omega) | (go_simp; omega), by first | (go_simp; done) | (go_simp; intro hq; exfalso; omega) | (go_simp; omega)⟩ hb1 (by first | (go_simp; done) | (go_simp; intro hq; exfalso; omega) | (go_simp; omega))).all
  obtain ⟨bl10, be10⟩ := below_lt (g := w.heap.size) hb1 (by first | (go_simp; done) | (go_simp; intro hq; exfalso; omega) | (go_simp; omega))
  go_wp2_with fail
  refine (Hli.out _).mono ?_; rintro e w2 ⟨rfl, hb2⟩
  go_wp2
  go_ret
  refine ⟨by simp, ?_⟩
  have z1 := hb1.size
  try simp at z1
  have z2 := hb2.size
  try simp at z2
  repeat (first | (with_reducible exact Below.refl _ _) | (with_reducible refine Below.alloc ?_ ?h _; (case h => (first | omega | (simp; done) | (simp; omega)))) | (with_reducible refine Below.drew ?_) | (with_reducible refine below_drewN ?_ _) | (with_reducible refine Below.setCell ?_ ?h _; (case h => (first | omega | (simp; done) | (simp; omega)))) | (with_reducible refine below_row ?_ ?h _; (case h => (first | omega | (simp; done) | (simp; omega)))) | (with_reducible refine Below.trans ?_ (Below.mono hb2 ?h); (case h => (first | omega | (simp; done) | (simp; omega)))) | (with_reducible refine Below.trans ?_ (Below.mono hb1 ?h); (case h => (first | omega | (simp; done) | (simp; omega)))))
theorem ops_walk (r : Nat → Int) (pc op k m imm v : Int) (hr : ∀ i, word (r i)) (hpc : word pc) (hv : word v) (w : World) :
    Calls Try.prog 7 #[.agg (cpu r pc), .agg #[.int .i64 op, .int .i64 k, .int .i64 m, .int .i64 imm], .int .u32 v] w fun e w' => e = .returned (.bool true) ∧ Below w.heap.size w w' := by
  by_cases h : EncOk op k m imm
  · exact ops_ok r pc op k m imm v hr hpc hv h w
  · exact ops_bad r pc op k m imm v h w
end Go.Proofs.Ytjmdikabikgjhaa
