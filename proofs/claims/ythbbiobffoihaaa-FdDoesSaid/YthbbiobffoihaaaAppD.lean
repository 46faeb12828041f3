import Derived.Test.YthbbiobffoihaaaAppK
/- Both rows have grown. -/
namespace Go.Proofs.Ythbbiobffoihaaa
open Go.RowKit Go.BigFrame
set_option linter.unusedVariables false
set_option linter.unusedSimpArgs false
/-- Ahead of it: the program's files say L2 already, its new table t lies there; the reference's say L1. -/
structure AB (w0 wA : World) (ob g m a c r y cy t : Nat) (ts : TS) (xs : List Nat) (L1 L2 : PL Fl) (D : List Int) : Prop where
  lp : LP w0 wA ob g m a c (.pointer (some ⟨r, 0, none⟩)) (.slice (some ⟨y, 0, none⟩) xs.length cy) ts L2
  rx : RX wA r y cy xs ts L1
  sep : ∀ k, WR.all ob g m a ts L2 k → k ≠ r ∧ k ≠ y ∧ k ∉ xs
  new : w0.heap.size ≤ r ∧ w0.heap.size ≤ y ∧ ∀ x ∈ xs, w0.heap.size ≤ x
  tr : TR wA t g D
  tn : ¬ WR.all ob g m a ts L2 t
  tge : w0.heap.size ≤ t
  tx : t ≠ r ∧ t ≠ y ∧ t ∉ xs
  n12 : ts.length < 12
section
variable {w0 wA u : World} {ob g m a c r y cy t : Nat} {ts : TS} {xs : List Nat} {L1 L2 : PL Fl} {D : List Int}
theorem AB.ao (h : AB w0 wA ob g m a c r y cy t ts xs L1 L2 D) : AO wA ob r a y := by
  have s1 := h.sep ob (.inl rfl)
  have s2 := h.sep a (.inr (.inl rfl))
  exact ⟨h.lp.own.lt (.inl rfl), h.rx.rfoot.1, h.lp.own.lt (.inr (.inl rfl)), h.rx.rfoot.2.1, s1.1, h.lp.own.oa, s1.2.1, fun e => s2.1 e.symm, h.rx.ap.1, s2.2.1⟩
theorem AB.start (h : AB w0 wA ob g m a c r y cy t ts xs L1 L2 D) : AKs wA ob g r a ts.length c y xs.length cy t (tptr ts) (xptr xs) D L1 L2 none none none none none false false wA :=
  ⟨Ch.refl _ _, h.lp.own.blk, fun v hv => by (cases hv), fun _ => h.lp.own.row, fun v hv => by (cases hv), fun v hv => by (cases hv), h.rx.rf, fun v hv => by (cases hv), fun _ => h.rx.ry, fun v hv => by (cases hv), fun v v' h1 => by (cases h1), fun v v' h1 => by (cases h1), fun v v' h1 => by (cases h1)⟩
theorem AKs.done (hB : AB w0 wA ob g m a c r y cy t ts xs L1 L2 D) {w7 w8 w18 w19 w20 : Value} (h : AKs wA ob g r a ts.length c y xs.length cy t (tptr ts) (xptr xs) D L1 L2 (some w7) (some w8) (some w18) (some w19) (some w20) true true u) :
    ∃ a2 c2 y2 cy2 x, W2 w0 u ob g m a2 c2 r y2 cy2 (ts ++ [(t, D)]) (xs ++ [x]) L2 := by
  have O := hB.ao
  obtain ⟨o1, o2, o3, o4, n1, n2, n3, n4, n5, n6⟩ := O
  obtain ⟨A2, c2, rfl, hr8, hn8⟩ := h.r8' w8 rfl
  obtain ⟨x, rfl, hx, hxr⟩ := h.r18 w18 rfl
  obtain ⟨Y2, cy2, w18', e18, rfl, hr20, hn20⟩ := h.r20' w20 rfl
  injection e18 with e18
  subst e18
  obtain ⟨a2, rfl⟩ := hr8.some_ (by omega)
  obtain ⟨y2, rfl⟩ := hr20.some_ (by omega)
  have d1 : a2 ≠ x := fun e => h.d1 _ _ rfl rfl (by simp [vb, blkOf, e])
  have d2 : y2 ≠ x := fun e => h.d2 _ _ rfl rfl (by simp [vb, blkOf, e])
  have d3 : a2 ≠ y2 := fun e => h.d3 _ _ rfl rfl (by simp [vb, blkOf, e])
  have ha2 : a2 = a ∨ wA.heap.size ≤ a2 := by
    rcases hn8 with e | ⟨k, e, hk⟩
    · simp [blkOf] at e; exact .inl e
    · simp [blkOf] at e; exact .inr (by omega)
  have hy2 : y2 = y ∨ wA.heap.size ≤ y2 := by
    rcases hn20 with e | ⟨k, e, hk⟩
    · simp [blkOf] at e; exact .inl e
    · simp [blkOf] at e; exact .inr (by omega)
  have how := hB.lp.own
  obtain ⟨b1, b2, b3⟩ := hB.rx.rfoot
  have hsz := hB.lp.bel.size
  have hlen : (ts ++ [(t, D)]).length = ts.length + 1 := by simp
  have hxl : (xs ++ [x]).length = xs.length + 1 := by simp
  have ttb : tbs (ts ++ [(t, D)]) = tbs ts ++ [t] := by simp [tbs]
  -- what is not one of the four stays
  have stay : ∀ k, WR.all ob g m a ts L2 k → k ≠ ob → k ≠ a → ¬ (k = a ∨ k = y ∨ k = ob ∨ k = r) := fun k hk h1 h2 q => by
    have := hB.sep k hk
    rcases q with q | q | q | q
    · exact h2 q
    · exact this.2.1 q
    · exact h1 q
    · exact this.1 q
  have tstay : ¬ (t = a ∨ t = y ∨ t = ob ∨ t = r) := fun q => by
    rcases q with q | q | q | q
    · exact hB.tn (.inr (.inl q))
    · exact hB.tx.2.1 q
    · exact hB.tn (.inl q)
    · exact hB.tx.1 q
  have xstay : ∀ k, k ∈ xs → ¬ (k = a ∨ k = y ∨ k = ob ∨ k = r) := fun k hk q => by
    rcases q with q | q | q | q
    · exact (hB.sep a (.inr (.inl rfl))).2.2 (q ▸ hk)
    · exact hB.rx.ap.2.2.1 (q ▸ hk)
    · exact (hB.sep ob (.inl rfl)).2.2 (q ▸ hk)
    · exact hB.rx.ap.2.1 (q ▸ hk)
  have hall : ∀ k, WR.all ob g m a2 (ts ++ [(t, D)]) L2 k → k = a2 ∨ k = t ∨ (WR.all ob g m a ts L2 k) := by
    intro k hk
    rcases hk with q | q | q | q
    · exact .inr (.inr (.inl q))
    · exact .inl q
    · exact .inr (.inr (.inr (.inr (.inl q))))
    · rw [ttb, List.mem_append, List.mem_singleton] at q
      rcases q with q | q
      · exact .inr (.inr (.inr (.inr (.inr q))))
      · exact .inr (.inl q)
  have htl := hB.tr.lt
  have hao : ∀ k, WR.all ob g m a ts L2 k → k < wA.heap.size := fun k hk => how.lt hk
  have hna2 : ∀ k, WR.all ob g m a ts L2 k → k ≠ a → k ≠ a2 := fun k hk h1 e => by have := hao k hk; rcases ha2 with q | q <;> omega
  refine ⟨a2, c2, y2, cy2, x, ⟨⟨⟨?_, ?_, ?_, ?_, hna2 ob (.inl rfl) how.oa, how.of, ?_, ?_, ?_, ?_, ?_⟩, by simp, by have := hB.n12; simp; omega, ?_, ?_⟩, ⟨?_, ?_, by simp [hB.rx.xl], ?_, ?_⟩, ?_, ?_⟩⟩
  · have := h.obk
    simp only [if_true, Option.getD_some] at this
    rw [hlen, hxl]; exact this
  · rw [hlen]; simpa [tptr] using hr8
  · intro p hp
    rcases List.mem_append.1 hp with hp | hp
    · have hk : WR.all ob g m a ts L2 p.1 := .inr (.inr (.inr (List.mem_map_of_mem hp)))
      exact (how.tabs p hp).ch h.ch (stay p.1 hk (fun e => how.ot (by rw [← e]; exact List.mem_map_of_mem hp)) (fun e => how.at_ (by rw [← e]; exact List.mem_map_of_mem hp)))
    · obtain rfl := List.mem_singleton.1 hp
      exact hB.tr.ch h.ch tstay
  · exact how.fr.ch h.ch fun k q => stay k (.inr (.inr (.inl q))) (fun e => how.of (by rw [← e]; exact q)) (fun e => how.af (by rw [← e]; exact q))
  · rw [ttb, List.mem_append, List.mem_singleton]
    rintro (q | q)
    · exact how.ot q
    · exact hB.tn (.inl q.symm)
  · rcases ha2 with e | e
    · rw [e]; exact how.af
    · intro q; have := how.fr.lt q; omega
  · rw [ttb, List.mem_append, List.mem_singleton]
    rintro (q | q)
    · rcases ha2 with e | e
      · rw [e] at q; exact how.at_ q
      · have := how.lt (.inr (.inr (.inr q))); omega
    · rcases ha2 with e | e
      · exact hB.tn (.inr (.inl (by rw [← q, e])))
      · omega
  · intro p hp
    rcases List.mem_append.1 hp with hp | hp
    · exact how.tf p hp
    · obtain rfl := List.mem_singleton.1 hp
      exact fun q => hB.tn (.inr (.inr (.inl q)))
  · rw [ttb, List.nodup_append]
    refine ⟨how.tn, by simp, fun z hz v hv => ?_⟩
    obtain rfl := List.mem_singleton.1 hv
    exact fun e => hB.tn (.inr (.inr (.inr (by rw [← e]; exact hz))))
  · refine hB.lp.bel.trans (h.ch.below (B := w0.heap.size) (fun k hk q => ?_) hsz)
    have g1 := hB.lp.new a (.inr (.inl rfl))
    have g2 := hB.lp.new ob (.inl rfl)
    have g3 := hB.new
    rcases q with q | q | q | q <;> omega
  · intro k hk
    rcases hall k hk with q | q | q
    · rcases ha2 with e | e
      · exact hB.lp.new k (.inr (.inl (by omega)))
      · omega
    · have := hB.tge; omega
    · exact hB.lp.new k q
  · simpa using h.rf
  · rw [hxl]; simpa [xptr] using hr20
  · intro j x' t' D' h1 h2
    rcases Nat.lt_or_ge j xs.length with hj | hj
    · rw [List.getElem?_append_left hj] at h1
      rw [List.getElem?_append_left (by rw [← hB.rx.xl]; exact hj)] at h2
      exact (hB.rx.xr j x' t' D' h1 h2).ch h.ch (xstay x' (List.mem_of_getElem? h1))
    · have hj2 : j = xs.length := by
        have := (List.getElem?_eq_some_iff.1 h1).1
        rw [hxl] at this; omega
      subst hj2
      rw [List.getElem?_append_right (Nat.le_refl _)] at h1
      rw [hB.rx.xl, List.getElem?_append_right (Nat.le_refl _)] at h2
      simp at h1 h2
      obtain ⟨rfl, rfl⟩ := h2
      subst h1
      exact hxr
  · refine ⟨?_, ?_, ?_, ?_⟩
    · rcases hy2 with e | e
      · rw [e]; exact n5
      · omega
    · rw [List.mem_append, List.mem_singleton]
      rintro (q | q)
      · exact hB.rx.ap.2.1 q
      · omega
    · rw [List.mem_append, List.mem_singleton]
      rintro (q | q)
      · rcases hy2 with e | e
        · rw [e] at q; exact hB.rx.ap.2.2.1 q
        · have := b3 y2 q; omega
      · exact d2 q
    · rw [List.nodup_append]
      refine ⟨hB.rx.ap.2.2.2, by simp, fun z hz v hv => ?_⟩
      obtain rfl := List.mem_singleton.1 hv
      intro e
      have := b3 z hz; omega
  · intro k hk
    rw [List.mem_append, List.mem_singleton]
    rcases hall k hk with q | q | q
    · subst q
      refine ⟨?_, d3, ?_⟩
      · rcases ha2 with e | e
        · rw [e]; exact fun q => n4 q.symm
        · omega
      · rintro (q | q)
        · rcases ha2 with e | e
          · rw [e] at q; exact (hB.sep a (.inr (.inl rfl))).2.2 q
          · have := b3 k q; omega
        · exact d1 q
    · subst q
      refine ⟨hB.tx.1, ?_, ?_⟩
      · rcases hy2 with e | e
        · rw [e]; exact hB.tx.2.1
        · omega
      · rintro (q | q)
        · exact hB.tx.2.2 q
        · omega
    · have hs := hB.sep k q
      have hl := hao k q
      refine ⟨hs.1, ?_, ?_⟩
      · rcases hy2 with e | e
        · rw [e]; exact hs.2.1
        · omega
      · rintro (q | q)
        · exact hs.2.2 q
        · omega
  · refine ⟨hB.new.1, ?_, fun z hz => ?_⟩
    · rcases hy2 with e | e
      · rw [e]; exact hB.new.2.1
      · omega
    · rcases List.mem_append.1 hz with hz | hz
      · exact hB.new.2.2 z hz
      · obtain rfl := List.mem_singleton.1 hz; omega
end
end Go.Proofs.Ythbbiobffoihaaa
