import Derived.Test.YtjmdikabikgjhaaLives
import Derived.Laws.StructEq
import Derived.Deep.RegionHeld3
/- The walk of InsnSteps. -/
namespace Go.Proofs.Ytjmdikabikgjhaa
open Go.RowKit
set_option linter.unusedVariables false
attribute [local go_sem] cpu_get cpu_get16 cpu_set cpu_set16 szIs_cpu szIs_lit row_at row_past row_alloc nf_alloc row_set nf_set row_cell nf_cell row_drew nf_drew row_drewN nf_drewN cell_setRow frozen_setRow nlt1 nlt2 nlt3 nlt4 nne1 nne2 nne3 nen1 nen2 nen3
attribute [local go_sem ↓] exec_load35 exec_store35
attribute [local go_sem] run_load35 run_store35
attribute [local go_sem high] eql_cpu neq_cpu

theorem keepS {a b : Nat} {C D : Array Value} {E F : Array Value} {W w1 : World} (hb : Below W.heap.size W w1)
    (h : row W a = C ∧ nf W a = true ∧ (∀ o, W.cell? ⟨a + 1, o, none⟩ = E[o]?) ∧ row W b = D ∧ nf W b = true ∧ (∀ o, W.cell? ⟨b + 1, o, none⟩ = F[o]?) ∧ a + 1 < W.heap.size ∧ b + 1 < W.heap.size) :
    row w1 a = C ∧ nf w1 a = true ∧ (∀ o, w1.cell? ⟨a + 1, o, none⟩ = E[o]?) ∧ row w1 b = D ∧ nf w1 b = true ∧ (∀ o, w1.cell? ⟨b + 1, o, none⟩ = F[o]?) ∧ a + 1 < w1.heap.size ∧ b + 1 < w1.heap.size := by
  obtain ⟨h1, h2, h3, h4, h5, h6, h7, h8⟩ := h
  have hs := hb.size
  exact ⟨(row_heap (hb.block a (by omega))).trans h1, (nf_heap (hb.block a (by omega))).trans h2, fun o => (hb.cell (p := ⟨a + 1, o, none⟩) h7).trans (h3 o),
    (row_heap (hb.block b (by omega))).trans h4, (nf_heap (hb.block b (by omega))).trans h5, fun o => (hb.cell (p := ⟨b + 1, o, none⟩) h8).trans (h6 o), by omega, by omega⟩

set_option maxHeartbeats 2000000 in
set_option maxRecDepth 100000 in
theorem steps_walk (r : Nat → Int) (pc x v : Int) (hr : ∀ i, word (r i)) (hpc : word pc) (hx : word x) (hv : word v) (w : World) :
    Calls Try.prog 6 #[.agg (cpu r pc), .int .u32 x, .int .u32 v] w fun e w' => e = .returned (.bool true) ∧ Below w.heap.size w w' := by
  obtain ⟨r', pc', K, addr, size, reg, value, old, hr', hpc', hf, ⟨sp, sr⟩, few⟩ := step_both r pc x hr hpc hx
  obtain ⟨r2, pc2, hr2, hpc2, ⟨fp, fr⟩, -⟩ := fin_both r' pc' K addr size reg value old v hr' hpc' hv hf
  have Hsp := Lib.hid sp
  have Hsr := Lib.hid sr
  have Hfp := Lib.hid fp
  have Hfr := Lib.hid fr
  have Hli := Lib.hid lives_true
  unfold actV at Hsp Hsr Hfp Hfr
  clear sp sr fp fr few hr hpc hx hv hr' hpc' hf hr2 hpc2
  go_enter Try.func6, Try.ntmps6
  go_wp2_with fail
  refine (Hsp.out _).mono ?_; rintro e w1 ⟨rfl, hb1⟩
  obtain ⟨br10, bn10, bc10, bf10⟩ := (Blk.below (g := w.heap.size) (c := cpu r pc) ⟨by first | (go_simp; done) | (go_simp; intro hq; exfalso; omega) | (go_simp; omega), by first | (go_simp; done) | (go_simp; intro hq; exfalso; omega) | (go_simp; omega)⟩ hb1 (by first | (go_simp; done) | (go_simp; intro hq; exfalso; omega) | (go_simp; omega))).all
  obtain ⟨bl10, be10⟩ := below_lt (g := w.heap.size) hb1 (by first | (go_simp; done) | (go_simp; intro hq; exfalso; omega) | (go_simp; omega))
  go_wp2_with fail
  refine (Hsr.out _).mono ?_; rintro e w2 ⟨rfl, hb2⟩
  obtain ⟨br20, bn20, bc20, bf20⟩ := (Blk.below (g := w1.heap.size) (c := cpu r' pc') ⟨by first | (go_simp; done) | (go_simp; intro hq; exfalso; omega) | (go_simp; omega), by first | (go_simp; done) | (go_simp; intro hq; exfalso; omega) | (go_simp; omega)⟩ hb2 (by first | (go_simp; done) | (go_simp; intro hq; exfalso; omega) | (go_simp; omega))).all
  obtain ⟨bl20, be20⟩ := below_lt (g := w1.heap.size) hb2 (by first | (go_simp; done) | (go_simp; intro hq; exfalso; omega) | (go_simp; omega))
  obtain ⟨br21, bn21, bc21, bf21⟩ := (Blk.below (g := w1.heap.size + 1) (c := #[.int .i64 K, .int .u32 addr, .int .i64 size, .int .i64 reg, .int .u32 value, .int .u32 old]) ⟨by first | (go_simp; done) | (go_simp; intro hq; exfalso; omega) | (go_simp; omega), by first | (go_simp; done) | (go_simp; intro hq; exfalso; omega) | (go_simp; omega)⟩ hb2 (by first | (go_simp; done) | (go_simp; intro hq; exfalso; omega) | (go_simp; omega))).all
  obtain ⟨bl21, be21⟩ := below_lt (g := w1.heap.size + 1) hb2 (by first | (go_simp; done) | (go_simp; intro hq; exfalso; omega) | (go_simp; omega))
  go_wp2_with fail
  go_region_held3 (fun w' => (row w' w1.heap.size = cpu r' pc' ∧ nf w' w1.heap.size = true ∧ (∀ o, w'.cell? ⟨w1.heap.size + 1, o, none⟩ = ((#[.int .i64 K, .int .u32 addr, .int .i64 size, .int .i64 reg, .int .u32 value, .int .u32 old] : Array Value)[o]?)) ∧ row w' w2.heap.size = cpu r' pc' ∧ nf w' w2.heap.size = true ∧ (∀ o, w'.cell? ⟨w2.heap.size + 1, o, none⟩ = ((#[.int .i64 K, .int .u32 addr, .int .i64 size, .int .i64 reg, .int .u32 value, .int .u32 old] : Array Value)[o]?)) ∧ w1.heap.size + 1 < w'.heap.size ∧ w2.heap.size + 1 < w'.heap.size))
    (((try dsimp only); first | with_reducible assumption | ((refine ⟨?_, ?_, ?_, ?_, ?_, ?_, ?_, ?_⟩) <;> first | (go_simp; done) | with_reducible assumption | (go_simp; intro hq; exfalso; omega) | (go_simp; omega) | (simp; omega) | omega) | ((refine keepS (by with_reducible assumption) ?_) <;> first | with_reducible assumption | ((refine ⟨?_, ?_, ?_, ?_, ?_, ?_, ?_, ?_⟩) <;> first | (go_simp; done) | with_reducible assumption | (go_simp; intro hq; exfalso; omega) | (go_simp; omega) | (simp; omega) | omega))))
    (first | (go_at_call 12; refine (Hli.out _).mono ?_; rintro e w3 ⟨rfl, hb3⟩) | (go_at_call 17; refine (Hfp.out _).mono ?_; rintro e w4 ⟨rfl, hb4⟩) | (go_at_call 18; refine (Hfr.out _).mono ?_; rintro e w5 ⟨rfl, hb5⟩))
  go_wp2
  go_ret
  refine ⟨by simp, ?_⟩
  have z1 := hb1.size
  try simp at z1
  have z2 := hb2.size
  try simp at z2
  have z3 := hb3.size
  try simp at z3
  have z4 := hb4.size
  try simp at z4
  have z5 := hb5.size
  try simp at z5
  repeat (first | (with_reducible exact Below.refl _ _) | (with_reducible refine Below.alloc ?_ ?h _; (case h => (first | omega | (simp; done) | (simp; omega)))) | (with_reducible refine Below.drew ?_) | (with_reducible refine below_drewN ?_ _) | (with_reducible refine Below.setCell ?_ ?h _; (case h => (first | omega | (simp; done) | (simp; omega)))) | (with_reducible refine below_row ?_ ?h _; (case h => (first | omega | (simp; done) | (simp; omega)))) | (with_reducible refine Below.trans ?_ (Below.mono hb5 ?h); (case h => (first | omega | (simp; done) | (simp; omega)))) | (with_reducible refine Below.trans ?_ (Below.mono hb4 ?h); (case h => (first | omega | (simp; done) | (simp; omega)))) | (with_reducible refine Below.trans ?_ (Below.mono hb3 ?h); (case h => (first | omega | (simp; done) | (simp; omega)))) | (with_reducible refine Below.trans ?_ (Below.mono hb2 ?h); (case h => (first | omega | (simp; done) | (simp; omega)))) | (with_reducible refine Below.trans ?_ (Below.mono hb1 ?h); (case h => (first | omega | (simp; done) | (simp; omega)))))
end Go.Proofs.Ytjmdikabikgjhaa
