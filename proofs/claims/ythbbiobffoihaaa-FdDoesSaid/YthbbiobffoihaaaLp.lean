import Derived.Test.YthbbiobffoihaaaCntW
/- What holds of the files and tables behind each call. -/
namespace Go.Proofs.Ythbbiobffoihaaa
open Go.RowKit Go.BigFrame
set_option linter.unusedVariables false
set_option linter.unusedSimpArgs false
structure LP (w wr : World) (ob g m a c : Nat) (vr vx : Value) (ts : TS) (L : PL Fl) : Prop where
  own : WR wr ob g m a c vr vx ts L
  n1 : 1 ≤ ts.length
  n2 : ts.length ≤ 12
  bel : Below w.heap.size w wr
  new : ∀ k, WR.all ob g m a ts L k → w.heap.size ≤ k
section
variable {w wr w' : World} {ob g m a c : Nat} {vr vx : Value} {ts : TS} {L : PL Fl}
theorem LP.below (h : LP w wr ob g m a c vr vx ts L) (hb : Below wr.heap.size wr w') : LP w w' ob g m a c vr vx ts L :=
  ⟨h.own.below hb, h.n1, h.n2, h.bel.trans (hb.mono h.bel.size), h.new⟩
theorem LP.drew (h : LP w wr ob g m a c vr vx ts L) : LP w wr.drew ob g m a c vr vx ts L := h.below ⟨rfl, rfl, rfl, Nat.le_refl _, fun _ _ => rfl⟩
theorem LP.drewN (h : LP w wr ob g m a c vr vx ts L) (n : Nat) : LP w (wr.drewN n) ob g m a c vr vx ts L := h.below ⟨rfl, rfl, rfl, Nat.le_refl _, fun _ _ => rfl⟩
theorem LP.step (h : LP w wr ob g m a c vr vx ts L) {j t : Nat} {D D' : List Int} {L' : PL Fl} (hj : ts[j]? = some (t, D)) (hT : TR w' t g D') (hF : FR w' g m L') (hC : Ch (fun k => k = t ∨ PL.foot m L k) wr w') (hL : ∀ k, FR.all g m L' k → FR.all g m L k ∨ wr.heap.size ≤ k) :
    LP w w' ob g m a c vr vx (ts.set j (t, D')) L' := by
  have hsz := h.bel.size
  refine ⟨h.own.step hj hT hF hC hL, by rw [List.length_set]; exact h.n1, by rw [List.length_set]; exact h.n2, h.bel.trans (hC.below (B := w.heap.size) (fun k hk q => ?_) hsz), fun k hk => ?_⟩
  · rcases q with rfl | q
    · have := h.new k (.inr (.inr (.inr (List.mem_map_of_mem (f := fun p : Nat × List Int => p.1) (List.mem_of_getElem? hj))))); omega
    · have := h.new k (.inr (.inr (.inl (.inr q)))); omega
  · rcases hk with q | q | q | q
    · exact h.new k (.inl q)
    · exact h.new k (.inr (.inl q))
    · rcases hL k q with q | q
      · exact h.new k (.inr (.inr (.inl q)))
      · omega
    · rw [tbs_set hj] at q; exact h.new k (.inr (.inr (.inr q)))
theorem LP.files (h : LP w wr ob g m a c vr vx ts L) {L' : PL Fl} (hF : FR w' g m L') (hC : Ch (PL.foot m L) wr w') (hL : ∀ k, FR.all g m L' k → FR.all g m L k ∨ wr.heap.size ≤ k) : LP w w' ob g m a c vr vx ts L' := by
  have hsz := h.bel.size
  refine ⟨h.own.files hF hC hL, h.n1, h.n2, h.bel.trans (hC.below (B := w.heap.size) (fun k hk q => ?_) hsz), fun k hk => ?_⟩
  · have := h.new k (.inr (.inr (.inl (.inr q)))); omega
  · rcases hk with q | q | q | q
    · exact h.new k (.inl q)
    · exact h.new k (.inr (.inl q))
    · rcases hL k q with q | q
      · exact h.new k (.inr (.inr (.inl q)))
      · omega
    · exact h.new k (.inr (.inr (.inr q)))
/-- One more table, put behind the others: the row moves, the struct's cell is written. -/
theorem LP.app (h : LP w wr ob g m a c vr vx ts L) {t : Nat} {D : List Int} {w2 : World} {A2 : Option Addr} {c2 : Nat} (hT : TR wr t g D) (htn : ¬ WR.all ob g m a ts L t) (htw : w.heap.size ≤ t) (hn : ts.length < 12)
    (hr : Rw w2 33 1 A2 (ts.length + 1) c2 (tptr ts ++ [.pointer (some ⟨t, 0, none⟩)])) (hC : Ch (fun k => blkOf (some (⟨a, 0, none⟩ : Addr)) = some k) wr w2) (hA : blkOf A2 = some a ∨ ∃ k, blkOf A2 = some k ∧ wr.heap.size ≤ k ∧ t ≠ k) :
    ∃ a2, A2 = some ⟨a2, 0, none⟩ ∧ LP w (w2.setCell ⟨ob, 1, none⟩ (.slice A2 (ts.length + 1) c2)) ob g m a2 c2 vr vx (ts ++ [(t, D)]) L := by
  obtain ⟨a2, rfl⟩ := hr.some_ (by omega)
  have hW := h.own
  have hoa := hW.oa
  have hCa : ∀ k, k ≠ a → k < wr.heap.size → w2.heap[k]? = wr.heap[k]? := fun k hk hl => hC.block k hl (fun e => hk (by simp [blkOf] at e; exact e.symm))
  have ha2 : a2 = a ∨ (wr.heap.size ≤ a2 ∧ t ≠ a2) := by
    rcases hA with e | ⟨k, e, h1, h2⟩
    · simp [blkOf] at e; exact .inl e
    · simp [blkOf] at e; subst e; exact .inr ⟨h1, h2⟩
  have hob : ob < wr.heap.size := hW.lt (.inl rfl)
  have hal : a < wr.heap.size := hW.lt (.inr (.inl rfl))
  have hn2 : ∀ k, (WR.all ob g m a ts L k → k ≠ a → k ≠ a2) := fun k hk hka e => by
    have := hW.lt hk
    rcases ha2 with e2 | e2 <;> omega
  have hoa2 : ob ≠ a2 := hn2 ob (.inl rfl) hoa
  have hst : ∀ k, k ≠ ob → (w2.setCell ⟨ob, 1, none⟩ (.slice (some ⟨a2, 0, none⟩) (ts.length + 1) c2)).heap[k]? = w2.heap[k]? := fun k hk => heap_setCell_other w2 ⟨ob, 1, none⟩ k _ hk
  have hsame : ∀ k, k ≠ ob → k ≠ a → k < wr.heap.size → (w2.setCell ⟨ob, 1, none⟩ (.slice (some ⟨a2, 0, none⟩) (ts.length + 1) c2)).heap[k]? = wr.heap[k]? := fun k h1 h2 h3 => (hst k h1).trans (hCa k h2 h3)
  have htl : t < wr.heap.size := hT.lt
  have hto : t ≠ ob := fun e => htn (.inl e)
  have hta : t ≠ a := fun e => htn (.inr (.inl e))
  have hta2 : t ≠ a2 := by rcases ha2 with e | e; (· rw [e]; exact hta); exact e.2
  have hblk : Blk w2 ob #[.pointer (some ⟨g, 0, none⟩), .slice (some ⟨a, 0, none⟩) ts.length c, vr, vx] := hW.blk.same (hCa ob hoa hob)
  refine ⟨a2, rfl, ⟨?_, ?_, ?_, ?_, hoa2, hW.of, ?_, ?_, ?_, ?_, ?_⟩, by simp, by simp; omega, ?_, ?_⟩
  · have := hblk.put 1 (.slice (some ⟨a2, 0, none⟩) (ts.length + 1) c2)
    simpa using this
  · have := hr.heap (w' := w2.setCell ⟨ob, 1, none⟩ (.slice (some ⟨a2, 0, none⟩) (ts.length + 1) c2)) (fun k e => hst k (by simp [blkOf] at e; omega))
    simpa [tptr] using this
  · intro p hp
    rcases List.mem_append.1 hp with hp | hp
    · have hk : WR.all ob g m a ts L p.1 := .inr (.inr (.inr (List.mem_map_of_mem hp)))
      exact (hW.tabs p hp).same (hsame p.1 (fun e => hW.ot (by rw [← e]; exact List.mem_map_of_mem hp)) (fun e => hW.at_ (by rw [← e]; exact List.mem_map_of_mem hp)) (hW.lt hk))
    · obtain rfl := List.mem_singleton.1 hp
      exact hT.same (hsame t hto hta htl)
  · exact hW.fr.same fun k q => hsame k (fun e => hW.of (by rw [← e]; exact q)) (fun e => hW.af (by rw [← e]; exact q)) (hW.fr.lt q)
  · simp only [tbs, List.map_append, List.map_cons, List.map_nil, List.mem_append, List.mem_singleton]
    rintro (q | q)
    · exact hW.ot q
    · exact hto q.symm
  · rcases ha2 with e | e
    · rw [e]; exact hW.af
    · intro q; have := hW.fr.lt q; omega
  · simp only [tbs, List.map_append, List.map_cons, List.map_nil, List.mem_append, List.mem_singleton]
    rintro (q | q)
    · rcases ha2 with e | e
      · rw [e] at q; exact hW.at_ q
      · have := hW.lt (.inr (.inr (.inr q))); omega
    · exact hta2 q.symm
  · intro p hp
    rcases List.mem_append.1 hp with hp | hp
    · exact hW.tf p hp
    · obtain rfl := List.mem_singleton.1 hp
      exact fun q => htn (.inr (.inr (.inl q)))
  · simp only [tbs, List.map_append, List.map_cons, List.map_nil]
    rw [List.nodup_append]
    refine ⟨hW.tn, by simp, fun u hu v hv => ?_⟩
    obtain rfl := List.mem_singleton.1 hv
    exact fun e => htn (.inr (.inr (.inr (by rw [← e]; exact hu))))
  · have h1 : Below w.heap.size wr w2 := hC.below (fun k hk e => by simp [blkOf] at e; subst e; have := h.new a (.inr (.inl rfl)); omega) h.bel.size
    exact (h.bel.trans h1).setCell (h.new ob (.inl rfl)) _
  · intro k hk
    rcases hk with q | q | q | q
    · exact h.new k (.inl q)
    · rcases ha2 with e | e
      · exact h.new k (.inr (.inl (by omega)))
      · have := h.bel.size; omega
    · exact h.new k (.inr (.inr (.inl q)))
    · simp only [tbs, List.map_append, List.map_cons, List.map_nil, List.mem_append, List.mem_singleton] at q
      rcases q with q | q
      · exact h.new k (.inr (.inr (.inr q)))
      · omega
end
end Go.Proofs.Ythbbiobffoihaaa
