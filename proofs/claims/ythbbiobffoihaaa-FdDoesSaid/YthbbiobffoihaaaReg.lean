import Derived.Test.YthbbiobffoihaaaFreeT
import Derived.Test.YthbbiobffoihaaaPMap
/- A region that draws its order and holds one call: loads ahead of it; a variable's block that is laid at whatever time, and what the call gave stored there. -/
namespace Go.Proofs.Ythbbiobffoihaaa
open Go.RowKit Go.BigFrame
set_option linter.unusedVariables false
set_option linter.unusedSimpArgs false
/-- n0: what lay there ahead of the region; pc: the call; pa, ps: the variable's block, the store to it. -/
structure RegK (n0 pc pa ps : Nat) (PRE : World → Prop) (POST : Value → World → Prop) (Z : Array Value) (proj : Value → Array Value) (ρ : Nat → Value) (D : Nat → Bool) (u : World) : Prop where
  st : if D pc = true then POST (ρ pc) u else PRE u
  sz : n0 ≤ u.heap.size
  var : D pa = true → ∃ b, ρ pa = .pointer (some ⟨b, 0, none⟩) ∧ n0 ≤ b ∧ Blk u b (if D ps = true then proj (ρ pc) else Z)
/-- Kept by what is done to newer blocks alone. -/
def Firm (n0 : Nat) (X : World → Prop) : Prop := ∀ u u', X u → Ch (fun k => n0 ≤ k) u u' → X u'
section
variable {P : Program} {n0 pc pa ps : Nat} {PRE : World → Prop} {POST : Value → World → Prop} {Z : Array Value} {proj : Value → Array Value} {ρ : Nat → Value} {D : Nat → Bool} {u : World}
theorem RegK.start {w : World} (h : PRE w.drew) (hn : w.heap.size = n0) : RegK n0 pc pa ps PRE POST Z proj (fun _ => undef) (fun _ => false) w.drew := ⟨by simpa using h, Nat.le_of_eq hn.symm, fun q => by cases q⟩
theorem RegK.pre (h : RegK n0 pc pa ps PRE POST Z proj ρ D u) (hd : D pc = false) : PRE u := by
  have := h.st
  rw [hd] at this
  simpa using this
theorem upd_ne {D : Nat → Bool} {i j : Nat} (h : j ≠ i) : upd D i j = D j := by
  have : (j == i) = false := by simpa using h
  unfold upd; rw [this, Bool.or_false]
theorem upd_self (D : Nat → Bool) (i : Nat) : upd D i i = true := by unfold upd; simp
theorem RegK.idle (h : RegK n0 pc pa ps PRE POST Z proj ρ D u) {i : Nat} (h1 : pc ≠ i) (h2 : pa ≠ i) (h3 : ps ≠ i) : RegK n0 pc pa ps PRE POST Z proj ρ (upd D i) u :=
  ⟨by rw [upd_ne h1]; exact h.st, h.sz, by rw [upd_ne h2, upd_ne h3]; exact h.var⟩
/-- A load ahead of the call. -/
theorem RegK.load (h : RegK n0 pc pa ps PRE POST Z proj ρ D u) {i : Nat} (hd : D pc = false) (h1 : pc ≠ i) (h2 : pa ≠ i) (h3 : ps ≠ i) {s : Sem Value} {v : Value} (hr : ∀ u, PRE u → s.run P u = .ok v u) :
    s.run P u = .ok v u ∧ RegK n0 pc pa ps PRE POST Z proj ρ (upd D i) u := ⟨hr u (h.pre hd), h.idle h1 h2 h3⟩
theorem setV_self (ρ : Nat → Value) (i : Nat) (v : Value) : setV ρ i v i = v := by unfold setV; rw [if_pos rfl]
theorem setV_ne (ρ : Nat → Value) {i j : Nat} (v : Value) (h : j ≠ i) : setV ρ i v j = ρ j := by unfold setV; rw [if_neg h]
/-- The call. -/
theorem RegK.call (h : RegK n0 pc pa ps PRE POST Z proj ρ D u) (hd : D pc = false) (hs : D ps = false) (hap : pa ≠ pc) (hsp : ps ≠ pc) {f : FuncId} {args : Array Value} {Φ : Value → Prop} {FF : Nat → Prop} (hFF : ∀ k, FF k → k < n0)
    (hc : ∀ u, PRE u → Calls P f args u fun e u' => ∃ v, e = .returned v ∧ Φ v ∧ POST v u' ∧ Ch FF u u') : Calls P f args u fun e u' => ∃ v, e = .returned v ∧ Φ v ∧ RegK n0 pc pa ps PRE POST Z proj (setV ρ pc v) (upd D pc) u' := by
  refine (hc u (h.pre hd)).mono fun e u' hq => ?_
  obtain ⟨v, he, hv, hp, hch⟩ := hq
  refine ⟨v, he, hv, ⟨by rw [upd_self, setV_self]; simpa using hp, Nat.le_trans h.sz hch.size, fun q => ?_⟩⟩
  rw [upd_ne hap] at q
  obtain ⟨b, e1, e2, e3⟩ := h.var q
  refine ⟨b, by rw [setV_ne ρ v hap]; exact e1, e2, ?_⟩
  rw [upd_ne hsp, hs]
  rw [hs] at e3
  exact e3.ch hch fun q => by have := hFF b q; omega
/-- The variable's block. -/
theorem RegK.alloc (h : RegK n0 pc pa ps PRE POST Z proj ρ D u) (hpa : D pa = false) (hs : D ps = false) (hap : pc ≠ pa) (hsp : ps ≠ pa) (hPRE : Firm n0 PRE) (hPOST : ∀ v, Firm n0 (POST v)) (t : TypeId) :
    RegK n0 pc pa ps PRE POST Z proj (setV ρ pa (.pointer (some ⟨u.heap.size, 0, none⟩))) (upd D pa) (u.alloc (.cells Z t)) := by
  have hch : Ch (fun k => n0 ≤ k) u (u.alloc (.cells Z t)) := (Ch.refl _ _).alloc _
  refine ⟨?_, Nat.le_trans h.sz hch.size, fun _ => ⟨u.heap.size, setV_self _ _ _, h.sz, ?_⟩⟩
  · rw [upd_ne hap, setV_ne ρ _ hap]
    have := h.st
    split at this
    · rename_i e; rw [if_pos e]; exact hPOST _ _ _ this hch
    · rename_i e; rw [if_neg e]; exact hPRE _ _ this hch
  · rw [upd_ne hsp, hs]
    exact Blk.of_heap (heap_at rfl)
/-- The store to it. -/
theorem RegK.store (h : RegK n0 pc pa ps PRE POST Z proj ρ D u) (hpa : D pa = true) (hpc : D pc = true) (hs : D ps = false) (h1 : pc ≠ ps) (h2 : pa ≠ ps) (hPOST : ∀ v, Firm n0 (POST v)) {b : Nat} (hb : ρ pa = .pointer (some ⟨b, 0, none⟩)) {u' : World} (hr : Blk u' b (proj (ρ pc))) (hch : Ch (· = b) u u') :
    RegK n0 pc pa ps PRE POST Z proj ρ (upd D ps) u' := by
  obtain ⟨b', e1, e2, e3⟩ := h.var hpa
  rw [hb] at e1
  obtain rfl : b = b' := by simpa using e1
  refine ⟨?_, Nat.le_trans h.sz hch.size, fun _ => ⟨b, hb, e2, ?_⟩⟩
  · rw [upd_ne h1, hpc]
    have := h.st
    rw [hpc] at this
    simp only [if_true] at this ⊢
    exact hPOST _ _ _ this (hch.mono fun k _ q => by omega)
  · rw [upd_self, if_pos rfl]; exact hr
theorem RegK.post (h : RegK n0 pc pa ps PRE POST Z proj ρ D u) (hd : D pc = true) : POST (ρ pc) u := by
  have := h.st
  rw [hd] at this
  simpa using this
end
end Go.Proofs.Ythbbiobffoihaaa
