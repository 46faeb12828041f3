import Derived.Test.YtjmdikabikgjhaaLives
import Derived.Test.YtjmdikabikgjhaaKit
import Derived.Test.YtjmdikabikgjhaaFreeT
import Derived.Laws.StructEq
/- InsnRuns: what the regions of a round keep. -/
namespace Go.Proofs.Ytjmdikabikgjhaa
open Go.RowKit
set_option linter.unusedVariables false
set_option linter.unusedSimpArgs false
attribute [local go_sem] cpu_get cpu_get16 cpu_set cpu_set16 szIs_cpu szIs_lit row_at row_past row_alloc nf_alloc row_set nf_set row_cell nf_cell row_drew nf_drew row_drewN nf_drewN cell_setRow frozen_setRow nlt1 nlt2 nlt3 nlt4 nne1 nne2 nne3 nen1 nen2 nen3
def ld35 (v : Value) : Sem Value := Instr.loadAt 35 v
def st35 (p v : Value) : Sem Unit := Instr.storeAt 35 p v
def ld38 (v : Value) : Sem Value := Instr.loadAt 38 v
def st38 (p v : Value) : Sem Unit := Instr.storeAt 38 p v
theorem to_ld35 (v : Value) : Instr.loadAt 35 v = ld35 v := rfl
theorem to_st35 (p v : Value) : Instr.storeAt 35 p v = st35 p v := rfl
theorem to_ld38 (v : Value) : Instr.loadAt 38 v = ld38 v := rfl
theorem to_st38 (p v : Value) : Instr.storeAt 38 p v = st38 p v := rfl
theorem run_ld35 {w : World} {g : Nat} (h : nf w g = true) (hs : szIs (row w g) 17 = true) : (ld35 (.pointer (some ⟨g, 0, none⟩))).run Try.prog w = .ok (.agg (row w g)) w := loadAt_row 35 17 (by kernel_rfl) (by kernel_rfl) h hs
theorem run_st35 {w : World} {g : Nat} (r : Nat → Int) (pc : Int) (h : nf w g = true) (hs : szIs (row w g) 17 = true) : (st35 (.pointer (some ⟨g, 0, none⟩)) (.agg (cpu r pc))).run Try.prog w = .ok () (w.setRow g (cpu r pc)) := storeAt_row 35 17 _ (by kernel_rfl) (cpu_size r pc) (cpu_one r pc) h hs
theorem run_ld38 {w : World} {g : Nat} (h : nf w g = true) (hs : szIs (row w g) 6 = true) : (ld38 (.pointer (some ⟨g, 0, none⟩))).run Try.prog w = .ok (.agg (row w g)) w := loadAt_row 38 6 (by kernel_rfl) (by kernel_rfl) h hs
theorem run_st38 {w : World} {g : Nat} (cs : Array Value) (hc : cs.size = 6) (h1 : cs.all (·.oneCell') = true) (h : nf w g = true) (hs : szIs (row w g) 6 = true) : (st38 (.pointer (some ⟨g, 0, none⟩)) (.agg cs)).run Try.prog w = .ok () (w.setRow g cs) := storeAt_row 38 6 _ (by kernel_rfl) hc h1 h hs
theorem Blk.ld35 {w : World} {g : Nat} {r : Nat → Int} {pc : Int} (h : Blk w g (cpu r pc)) : (ld35 (.pointer (some ⟨g, 0, none⟩))).run Try.prog w = .ok (.agg (cpu r pc)) w := by
  have := run_ld35 h.2 (by rw [h.1]; exact szIs_cpu _ _)
  rwa [h.1] at this
theorem Blk.ld38 {w : World} {g : Nat} {c : Array Value} (h : Blk w g c) (hc : c.size = 6) : (ld38 (.pointer (some ⟨g, 0, none⟩))).run Try.prog w = .ok (.agg c) w := by
  have := run_ld38 h.2 (by rw [h.1]; simp [szIs, hc])
  rwa [h.1] at this
theorem Blk.st35 {w : World} {g : Nat} {r r' : Nat → Int} {pc pc' : Int} (h : Blk w g (cpu r pc)) : (st35 (.pointer (some ⟨g, 0, none⟩)) (.agg (cpu r' pc'))).run Try.prog w = .ok () (w.setRow g (cpu r' pc')) := run_st35 r' pc' h.2 (by rw [h.1]; exact szIs_cpu _ _)
theorem Blk.st38 {w : World} {g : Nat} {c c' : Array Value} (h : Blk w g c) (hc : c.size = 6) (hc' : c'.size = 6) (h1 : c'.all (·.oneCell') = true) : (st38 (.pointer (some ⟨g, 0, none⟩)) (.agg c')).run Try.prog w = .ok () (w.setRow g c') := run_st38 c' hc' h1 h.2 (by rw [h.1]; simp [szIs, hc])
theorem Blk.setSame {w : World} {g : Nat} {c c' : Array Value} (h : Blk w g c) : Blk (w.setRow g c') g c' := ⟨by rw [row_set h.2, if_pos rfl], by rw [nf_set]; exact h.2⟩
theorem Blk.setNe {w : World} {g k : Nat} {c c' d : Array Value} (h : Blk w g c) (hk : Blk w k d) (hne : g ≠ k) : Blk (w.setRow k c') g c := ⟨by rw [row_set hk.2, if_neg hne]; exact h.1, by rw [nf_set]; exact h.2⟩
theorem Blk.lt {w : World} {g : Nat} {c : Array Value} (h : Blk w g c) : g < w.heap.size := by
  obtain ⟨t, e⟩ := nf_iff h.2
  exact (Array.getElem?_eq_some_iff.1 e).1
theorem Blk.new {w : World} {c : Array Value} {t : TypeId} : Blk (w.alloc (.cells c t (0, 0))) w.heap.size c := of_heap (heap_at rfl)
def CQ (b5 b2 : Nat) (R u : World) : Prop := ∀ k, k < R.heap.size → k ≠ b2 → k ≠ b5 → u.heap[k]? = R.heap[k]?
def CW (R u : World) : Prop := Below R.heap.size R u
def za : Array Value := #[.int .i64 0, .int .u32 0, .int .i64 0, .int .i64 0, .int .u32 0, .int .u32 0]
def actC (K addr size reg value old : Int) : Array Value := #[.int .i64 K, .int .u32 addr, .int .i64 size, .int .i64 reg, .int .u32 value, .int .u32 old]
theorem neq_act (w : World) (K addr size reg value old : Int) : (binOp .neq 38 (.agg (actC K addr size reg value old)) (.agg (actC K addr size reg value old))).run Try.prog w = .ok (.bool false) w := by
  have h : (Op.equalIn (9998 + 2) 38 (.agg (actC K addr size reg value old)) (.agg (actC K addr size reg value old))).run Try.prog w = .ok true w := by
    rw [run_equalIn_agg (P := Try.prog) w 9999 38 _ _ (by kernel_rfl) (by kernel_rfl)]
    unfold actC
    simp [Program.fieldsOf, Try.underlying38, Op.eqFields, part, isAgg, run_underlying Try.underlying3, run_underlying Try.underlying22, run_equalIn_int (P := Try.prog) w 9998 22 .u32 .u32 _ _ Try.underlying22, run_equalIn_int (P := Try.prog) w 9998 3 .i64 .i64 _ _ Try.underlying3]
  rw [run_neq_struct, h]; rfl
theorem al35 (u : World) : (Instr.alloc 35 true (.tuple #[])).run Try.prog u = .ok (.pointer (some ⟨u.heap.size, 0, none⟩)) (u.alloc (.cells (cpu (fun _ => 0) 0) 35)) := by
  rw [cpu_zero]; simp [go_sem]
theorem al38 (u : World) : (Instr.alloc 38 true (.tuple #[])).run Try.prog u = .ok (.pointer (some ⟨u.heap.size, 0, none⟩)) (u.alloc (.cells za 38)) := by
  unfold za; simp [go_sem]
/-- The first step of a round: a call, two blocks, two stores. -/
structure KA (R : World) (x y : Array Value) (ρ : Nat → Value) (D : Nat → Bool) (u : World) : Prop where
  bl : Below R.heap.size R u
  h9 : D 9 = true → ∃ g, ρ 9 = .pointer (some ⟨g, 0, none⟩) ∧ R.heap.size ≤ g ∧ Blk u g (if D 11 then x else cpu (fun _ => 0) 0)
  h10 : D 10 = true → ∃ g, ρ 10 = .pointer (some ⟨g, 0, none⟩) ∧ R.heap.size ≤ g ∧ Blk u g (if D 12 then y else za)
  ne : D 9 = true → D 10 = true → ρ 9 ≠ ρ 10
theorem KA.start (R : World) (x y : Array Value) : KA R x y (fun _ => undef) (fun _ => false) R := ⟨Below.refl _ _, by simp, by simp, by simp⟩
theorem KA.call {R u u' : World} {x y : Array Value} {ρ : Nat → Value} {D : Nat → Bool} (h : KA R x y ρ D u) (hb : Below u.heap.size u u') (v : Value) : KA R x y (setV ρ 5 v) (updD D 5) u' := by
  refine ⟨h.bl.trans (Below.mono hb h.bl.size), fun k => ?_, fun k => ?_, fun k m => ?_⟩
  · obtain ⟨g, g1, g2, g3⟩ := h.h9 (by simpa [updD] using k)
    exact ⟨g, by simpa [setV] using g1, g2, by simpa [updD] using g3.below hb g3.lt⟩
  · obtain ⟨g, g1, g2, g3⟩ := h.h10 (by simpa [updD] using k)
    exact ⟨g, by simpa [setV] using g1, g2, by simpa [updD] using g3.below hb g3.lt⟩
  · simpa [setV] using h.ne (by simpa [updD] using k) (by simpa [updD] using m)
theorem KA.al9 {R u : World} {x y : Array Value} {ρ : Nat → Value} {D : Nat → Bool} (h : KA R x y ρ D u) (h11 : D 11 = false) : KA R x y (setV ρ 9 (.pointer (some ⟨u.heap.size, 0, none⟩))) (updD D 9) (u.alloc (.cells (cpu (fun _ => 0) 0) 35)) := by
  have hB : Below u.heap.size u (u.alloc (.cells (cpu (fun _ => 0) 0) 35)) := (Below.refl _ _).alloc (Nat.le_refl _) _
  refine ⟨h.bl.trans (Below.mono hB h.bl.size), fun k => ⟨_, by simp [setV], h.bl.size, by simpa [updD, h11] using Blk.new⟩, fun k => ?_, fun k m => ?_⟩
  · obtain ⟨g, g1, g2, g3⟩ := h.h10 (by simpa [updD] using k)
    exact ⟨g, by simpa [setV] using g1, g2, by simpa [updD] using g3.below hB g3.lt⟩
  · obtain ⟨g, g1, g2, g3⟩ := h.h10 (by simpa [updD] using m)
    have := g3.lt
    simp only [setV, if_pos, Nat.reduceEqDiff, if_neg, reduceIte, g1]
    intro e; injection e with e; injection e with e; injection e; omega
theorem KA.al10 {R u : World} {x y : Array Value} {ρ : Nat → Value} {D : Nat → Bool} (h : KA R x y ρ D u) (h12 : D 12 = false) : KA R x y (setV ρ 10 (.pointer (some ⟨u.heap.size, 0, none⟩))) (updD D 10) (u.alloc (.cells za 38)) := by
  have hB : Below u.heap.size u (u.alloc (.cells za 38)) := (Below.refl _ _).alloc (Nat.le_refl _) _
  refine ⟨h.bl.trans (Below.mono hB h.bl.size), fun k => ?_, fun k => ⟨_, by simp [setV], h.bl.size, by simpa [updD, h12] using Blk.new⟩, fun k m => ?_⟩
  · obtain ⟨g, g1, g2, g3⟩ := h.h9 (by simpa [updD] using k)
    exact ⟨g, by simpa [setV] using g1, g2, by simpa [updD] using g3.below hB g3.lt⟩
  · obtain ⟨g, g1, g2, g3⟩ := h.h9 (by simpa [updD] using k)
    have := g3.lt
    simp only [setV, if_pos, Nat.reduceEqDiff, if_neg, reduceIte, g1]
    intro e; injection e with e; injection e with e; injection e; omega
theorem KA.st11 {R u : World} {x y : Array Value} {ρ : Nat → Value} {D : Nat → Bool} {g : Nat} (h : KA R x y ρ D u) (h9 : D 9 = true) (hg : ρ 9 = .pointer (some ⟨g, 0, none⟩)) : KA R x y ρ (updD D 11) (u.setRow g x) := by
  obtain ⟨g', g1, g2, g3⟩ := h.h9 h9
  obtain rfl : g' = g := by rw [g1] at hg; injection hg with e; injection e with e; injection e
  refine ⟨below_row h.bl g2 _, fun k => ⟨g', g1, g2, by simpa [updD] using g3.setSame⟩, fun k => ?_, fun k m => h.ne (by simpa [updD] using k) (by simpa [updD] using m)⟩
  have hk : D 10 = true := by simpa [updD] using k
  obtain ⟨a, a1, a2, a3⟩ := h.h10 hk
  have hne : a ≠ g' := fun e => h.ne h9 hk (by rw [g1, a1, e])
  exact ⟨a, a1, a2, by simpa [updD] using a3.setNe g3 hne⟩
theorem KA.st12 {R u : World} {x y : Array Value} {ρ : Nat → Value} {D : Nat → Bool} {g : Nat} (h : KA R x y ρ D u) (h10 : D 10 = true) (hg : ρ 10 = .pointer (some ⟨g, 0, none⟩)) : KA R x y ρ (updD D 12) (u.setRow g y) := by
  obtain ⟨g', g1, g2, g3⟩ := h.h10 h10
  obtain rfl : g' = g := by rw [g1] at hg; injection hg with e; injection e with e; injection e
  refine ⟨below_row h.bl g2 _, fun k => ?_, fun k => ⟨g', g1, g2, by simpa [updD] using g3.setSame⟩, fun k m => h.ne (by simpa [updD] using k) (by simpa [updD] using m)⟩
  have hk : D 9 = true := by simpa [updD] using k
  obtain ⟨a, a1, a2, a3⟩ := h.h9 hk
  have hne : a ≠ g' := fun e => h.ne hk h10 (by rw [g1, a1, e])
  exact ⟨a, a1, a2, by simpa [updD] using a3.setNe g3 hne⟩
/-- The end of a round: two calls, two stores. -/
structure KB (W R : World) (b2 b5 : Nat) (x y : Array Value) (D : Nat → Bool) (u : World) : Prop where
  bl : Below W.heap.size W u
  sz : R.heap.size ≤ u.heap.size
  same : ∀ k, k < R.heap.size → k ≠ b2 → k ≠ b5 → u.heap[k]? = R.heap[k]?
  h2 : Blk u b2 (if D 10 then y else x)
  h5 : Blk u b5 (if D 11 then y else x)
theorem KB.call {W R u u' : World} {b2 b5 : Nat} {x y : Array Value} {D : Nat → Bool} (h : KB W R b2 b5 x y D u) (hb : Below u.heap.size u u') (i : Nat) (i1 : i ≠ 10) (i2 : i ≠ 11) : KB W R b2 b5 x y (updD D i) u' := by
  refine ⟨h.bl.trans (Below.mono hb h.bl.size), Nat.le_trans h.sz hb.size, fun k k1 k2 k3 => (hb.block k (Nat.lt_of_lt_of_le k1 h.sz)).trans (h.same k k1 k2 k3), ?_, ?_⟩
  · have : updD D i 10 = D 10 := by simp [updD, Ne.symm i1]
    rw [this]; exact h.h2.below hb h.h2.lt
  · have : updD D i 11 = D 11 := by simp [updD, Ne.symm i2]
    rw [this]; exact h.h5.below hb h.h5.lt
theorem KB.st10 {W R u : World} {b2 b5 : Nat} {x y : Array Value} {D : Nat → Bool} (h : KB W R b2 b5 x y D u) (hne : b2 ≠ b5) (hW : W.heap.size ≤ b2) : KB W R b2 b5 x y (updD D 10) (u.setRow b2 y) :=
  ⟨below_row h.bl hW _, by simpa [World.setRow] using h.sz, fun k k1 k2 k3 => (setRow_other u b2 k y k2).trans (h.same k k1 k2 k3), by simpa [updD] using h.h2.setSame, by simpa [updD] using h.h5.setNe h.h2 (Ne.symm hne)⟩
theorem KB.st11 {W R u : World} {b2 b5 : Nat} {x y : Array Value} {D : Nat → Bool} (h : KB W R b2 b5 x y D u) (hne : b2 ≠ b5) (hW : W.heap.size ≤ b5) : KB W R b2 b5 x y (updD D 11) (u.setRow b5 y) :=
  ⟨below_row h.bl hW _, by simpa [World.setRow] using h.sz, fun k k1 k2 k3 => (setRow_other u b5 k y k3).trans (h.same k k1 k2 k3), by simpa [updD] using h.h2.setNe h.h5 hne, by simpa [updD] using h.h5.setSame⟩
theorem Blk.heap {w w1 : World} {g : Nat} {c : Array Value} (h : Blk w g c) (e : w1.heap[g]? = w.heap[g]?) : Blk w1 g c := ⟨(row_heap e).trans h.1, (nf_heap e).trans h.2⟩
end Go.Proofs.Ytjmdikabikgjhaa
