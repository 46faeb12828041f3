import Derived.Test.YthbbiobffoihaaaRefE
import Derived.Test.YthbbiobffoihaaaReg
/- The program's files and tables beside the reference's. -/
namespace Go.Proofs.Ythbbiobffoihaaa
open Go.RowKit Go.BigFrame
set_option linter.unusedVariables false
set_option linter.unusedSimpArgs false
def xptr (xs : List Nat) : List Value := xs.map fun x => .pointer (some ⟨x, 0, none⟩)
/-- The reference's side: its files r, the row y of its tables xs. -/
structure RX (wr : World) (r y cy : Nat) (xs : List Nat) (ts : TS) (L : PL Fl) : Prop where
  rf : RF wr r L
  ry : Rw wr 67 1 (some ⟨y, 0, none⟩) xs.length cy (xptr xs)
  xl : xs.length = ts.length
  xr : ∀ (j x t : Nat) (D : List Int), xs[j]? = some x → ts[j]? = some (t, D) → XR wr x r D
  ap : r ≠ y ∧ r ∉ xs ∧ y ∉ xs ∧ xs.Nodup
section
variable {w wr w' : World} {ob g m a c r y cy : Nat} {ts : TS} {xs : List Nat} {L : PL Fl}
theorem RX.rfoot (h : RX wr r y cy xs ts L) : r < wr.heap.size ∧ y < wr.heap.size ∧ ∀ x ∈ xs, x < wr.heap.size := by
  refine ⟨h.rf.blk.lt, h.ry.blt, fun x hx => ?_⟩
  obtain ⟨j, hj⟩ := List.getElem?_of_mem hx
  have hl := (List.getElem?_eq_some_iff.1 hj).1
  obtain ⟨p, hp⟩ : ∃ p, ts[j]? = some p := ⟨_, List.getElem?_eq_getElem (by rw [← h.xl]; exact hl)⟩
  exact (h.xr j x p.1 p.2 hj hp).lt
theorem RX.same (h : RX wr r y cy xs ts L) (hk : ∀ k, (k = r ∨ k = y ∨ k ∈ xs) → w'.heap[k]? = wr.heap[k]?) : RX w' r y cy xs ts L :=
  ⟨h.rf.same (hk r (.inl rfl)), h.ry.heap fun k e => hk k (by injection e with e; exact .inr (.inl e.symm)), h.xl, fun j x t D h1 h2 => (h.xr j x t D h1 h2).same (hk x (.inr (.inr (List.mem_of_getElem? h1)))), h.ap⟩
theorem RX.ch {F : Nat → Prop} (h : RX wr r y cy xs ts L) (hc : Ch F wr w') (hF : ∀ k, (k = r ∨ k = y ∨ k ∈ xs) → ¬ F k) : RX w' r y cy xs ts L :=
  h.same fun k hk => hc.block k (by obtain ⟨a1, a2, a3⟩ := h.rfoot; rcases hk with rfl | rfl | q; exact a1; exact a2; exact a3 k q) (hF k hk)
/-- Where all of it lies. -/
def Own2 (ob g m a r y : Nat) (ts : TS) (xs : List Nat) (L : PL Fl) (k : Nat) : Prop := WR.all ob g m a ts L k ∨ k = r ∨ k = y ∨ k ∈ xs
structure W2 (w wr : World) (ob g m a c r y cy : Nat) (ts : TS) (xs : List Nat) (L : PL Fl) : Prop where
  lp : LP w wr ob g m a c (.pointer (some ⟨r, 0, none⟩)) (.slice (some ⟨y, 0, none⟩) xs.length cy) ts L
  rx : RX wr r y cy xs ts L
  sep : ∀ k, WR.all ob g m a ts L k → k ≠ r ∧ k ≠ y ∧ k ∉ xs
  new : w.heap.size ≤ r ∧ w.heap.size ≤ y ∧ ∀ x ∈ xs, w.heap.size ≤ x
theorem LP.ch {vr vx : Value} {F : Nat → Prop} (h : LP w wr ob g m a c vr vx ts L) (hc : Ch F wr w') (hF : ∀ k, WR.all ob g m a ts L k → ¬ F k) (hF2 : ∀ k, k < w.heap.size → ¬ F k) : LP w w' ob g m a c vr vx ts L :=
  ⟨h.own.same fun k hk => hc.block k (h.own.lt hk) (hF k hk), h.n1, h.n2, h.bel.trans (hc.below (B := w.heap.size) hF2 h.bel.size), h.new⟩
theorem W2.lt (h : W2 w wr ob g m a c r y cy ts xs L) {k : Nat} (hk : Own2 ob g m a r y ts xs L k) : k < wr.heap.size := by
  obtain ⟨a1, a2, a3⟩ := h.rx.rfoot
  rcases hk with q | rfl | rfl | q
  · exact h.lp.own.lt q
  · exact a1
  · exact a2
  · exact a3 k q
theorem W2.ge (h : W2 w wr ob g m a c r y cy ts xs L) {k : Nat} (hk : Own2 ob g m a r y ts xs L k) : w.heap.size ≤ k := by
  obtain ⟨a1, a2, a3⟩ := h.new
  rcases hk with q | rfl | rfl | q
  · exact h.lp.new k q
  · exact a1
  · exact a2
  · exact a3 k q
theorem W2.ch {F : Nat → Prop} (h : W2 w wr ob g m a c r y cy ts xs L) (hc : Ch F wr w') (hF : ∀ k, Own2 ob g m a r y ts xs L k → ¬ F k) (hF2 : ∀ k, k < w.heap.size → ¬ F k) : W2 w w' ob g m a c r y cy ts xs L :=
  ⟨h.lp.ch hc (fun k q => hF k (.inl q)) hF2, h.rx.ch hc (fun k q => hF k (.inr q)), h.sep, h.new⟩
theorem W2.below (h : W2 w wr ob g m a c r y cy ts xs L) (hb : Below wr.heap.size wr w') : W2 w w' ob g m a c r y cy ts xs L :=
  ⟨h.lp.below hb, h.rx.same fun k hk => hb.block k (h.lt (.inr hk)), h.sep, h.new⟩
theorem W2.drew (h : W2 w wr ob g m a c r y cy ts xs L) : W2 w wr.drew ob g m a c r y cy ts xs L := h.below ⟨rfl, rfl, rfl, Nat.le_refl _, fun _ _ => rfl⟩
theorem W2.drewN (h : W2 w wr ob g m a c r y cy ts xs L) (n : Nat) : W2 w (wr.drewN n) ob g m a c r y cy ts xs L := h.below ⟨rfl, rfl, rfl, Nat.le_refl _, fun _ _ => rfl⟩
theorem W2.tab (h : W2 w wr ob g m a c r y cy ts xs L) {j t : Nat} {D : List Int} (hj : ts[j]? = some (t, D)) : ∃ x, xs[j]? = some x ∧ TR wr t g D ∧ XR wr x r D ∧ wr.cell? ⟨a, j, none⟩ = some (.pointer (some ⟨t, 0, none⟩)) ∧ wr.cell? ⟨y, j, none⟩ = some (.pointer (some ⟨x, 0, none⟩)) := by
  have hl := (List.getElem?_eq_some_iff.1 hj).1
  obtain ⟨x, hx⟩ : ∃ x, xs[j]? = some x := ⟨_, List.getElem?_eq_getElem (by rw [h.rx.xl]; exact hl)⟩
  have hlx := (List.getElem?_eq_some_iff.1 hx).1
  refine ⟨x, hx, (h.lp.own.tab hj).1, h.rx.xr j x t D hx hj, h.lp.own.tcell hj, ?_⟩
  rw [h.rx.ry.cell j (by omega)]
  simp [xptr, hx]
/-- One table's call: the program's, then the reference's. -/
theorem W2.step {w1 w2 : World} (h : W2 w wr ob g m a c r y cy ts xs L) {j t x : Nat} {D D' : List Int} {L' : PL Fl} (hj : ts[j]? = some (t, D)) (hx : xs[j]? = some x)
    (hT : TR w1 t g D') (hF : FR w1 g m L') (hC : Ch (fun k => k = t ∨ PL.foot m L k) wr w1) (hL : ∀ k, FR.all g m L' k → FR.all g m L k ∨ wr.heap.size ≤ k)
    (hX : XR w2 x r D') (hR : RF w2 r L') (hC2 : Ch (fun k => k = x ∨ k = r) w1 w2) : W2 w w2 ob g m a c r y cy (ts.set j (t, D')) xs L' := by
  have hlp := h.lp.step hj hT hF hC hL
  have hxm := List.mem_of_getElem? hx
  have htm : t ∈ tbs ts := List.mem_map_of_mem (f := fun p : Nat × List Int => p.1) (List.mem_of_getElem? hj)
  have hall : ∀ k, WR.all ob g m a (ts.set j (t, D')) L' k → WR.all ob g m a ts L k ∨ wr.heap.size ≤ k := by
    intro k hk
    rcases hk with q | q | q | q
    · exact .inl (.inl q)
    · exact .inl (.inr (.inl q))
    · rcases hL k q with q | q
      · exact .inl (.inr (.inr (.inl q)))
      · exact .inr q
    · rw [tbs_set hj] at q; exact .inl (.inr (.inr (.inr q)))
  obtain ⟨b1, b2, b3⟩ := h.rx.rfoot
  have hsep : ∀ k, WR.all ob g m a (ts.set j (t, D')) L' k → k ≠ r ∧ k ≠ y ∧ k ∉ xs := by
    intro k hk
    rcases hall k hk with q | q
    · exact h.sep k q
    · exact ⟨by omega, by omega, fun e => by have := b3 k e; omega⟩
  have hlp2 : LP w w2 ob g m a c (.pointer (some ⟨r, 0, none⟩)) (.slice (some ⟨y, 0, none⟩) xs.length cy) (ts.set j (t, D')) L' := by
    refine hlp.ch hC2 (fun k hk q => ?_) (fun k hk q => ?_)
    · have := hsep k hk
      rcases q with rfl | rfl
      · exact this.2.2 hxm
      · exact this.1 rfl
    · rcases q with rfl | rfl
      · have := h.new.2.2 k hxm; omega
      · have := h.new.1; omega
  have nF : ∀ k, (k = r ∨ k = y ∨ k ∈ xs) → ¬ (k = t ∨ PL.foot m L k) := by
    intro k hk q
    have hq : WR.all ob g m a ts L k := by
      rcases q with rfl | q
      · exact .inr (.inr (.inr htm))
      · exact .inr (.inr (.inl (.inr q)))
    have := h.sep k hq
    rcases hk with e | e | e
    · exact this.1 e
    · exact this.2.1 e
    · exact this.2.2 e
  have hrx1 := h.rx.ch hC nF
  refine ⟨hlp2, ⟨hR, ?_, by rw [List.length_set]; exact h.rx.xl, fun j2 x2 t2 D2 h1 h2 => ?_, h.rx.ap⟩, hsep, h.new⟩
  · refine hrx1.ry.ch hC2 (fun k e q => ?_)
    injection e with e; subst e
    rcases q with q | q
    · exact h.rx.ap.2.2.1 (by show y ∈ xs; rw [show y = x from q]; exact hxm)
    · exact h.rx.ap.1 (show r = y from q.symm)
  · rw [List.getElem?_set] at h2
    split at h2
    · rename_i e
      split at h2
      · injection h2 with h2
        obtain ⟨rfl, rfl⟩ := h2
        rw [← e, hx] at h1
        injection h1 with h1
        rw [← h1]; exact hX
      · cases h2
    · rename_i e
      refine (hrx1.xr j2 x2 t2 D2 h1 h2).ch hC2 (fun q => ?_)
      rcases q with rfl | rfl
      · exact e (nodup_ix h.rx.ap.2.2.2 hx h1)
      · exact h.rx.ap.2.1 (List.mem_of_getElem? h1)
/-- A call of the files, of both. -/
theorem W2.files {w1 w2 : World} (h : W2 w wr ob g m a c r y cy ts xs L) {L' : PL Fl} (hF : FR w1 g m L') (hC : Ch (PL.foot m L) wr w1) (hL : ∀ k, FR.all g m L' k → FR.all g m L k ∨ wr.heap.size ≤ k) (hR : RF w2 r L') (hC2 : Ch (· = r) w1 w2) : W2 w w2 ob g m a c r y cy ts xs L' := by
  have hlp := h.lp.files hF hC hL
  obtain ⟨b1, b2, b3⟩ := h.rx.rfoot
  have hsep : ∀ k, WR.all ob g m a ts L' k → k ≠ r ∧ k ≠ y ∧ k ∉ xs := by
    intro k hk
    have : WR.all ob g m a ts L k ∨ wr.heap.size ≤ k := by
      rcases hk with q | q | q | q
      · exact .inl (.inl q)
      · exact .inl (.inr (.inl q))
      · rcases hL k q with q | q
        · exact .inl (.inr (.inr (.inl q)))
        · exact .inr q
      · exact .inl (.inr (.inr (.inr q)))
    rcases this with q | q
    · exact h.sep k q
    · exact ⟨by omega, by omega, fun e => by have := b3 k e; omega⟩
  have nF : ∀ k, (k = r ∨ k = y ∨ k ∈ xs) → ¬ PL.foot m L k := by
    intro k hk q
    have := h.sep k (.inr (.inr (.inl (.inr q))))
    rcases hk with e | e | e
    · exact this.1 e
    · exact this.2.1 e
    · exact this.2.2 e
  have hrx1 := h.rx.ch hC nF
  refine ⟨hlp.ch hC2 (fun k hk q => (hsep k hk).1 q) (fun k hk q => by have := h.new.1; omega), ⟨hR, ?_, h.rx.xl, fun j2 x2 t2 D2 h1 h2 => ?_, h.rx.ap⟩, hsep, h.new⟩
  · refine hrx1.ry.ch hC2 (fun k e q => ?_)
    injection e with e; subst e
    exact h.rx.ap.1 (show r = y from q.symm)
  · exact (hrx1.xr j2 x2 t2 D2 h1 h2).ch hC2 (fun q => h.rx.ap.2.1 (by rw [← q]; exact List.mem_of_getElem? h1))
end
end Go.Proofs.Ythbbiobffoihaaa
