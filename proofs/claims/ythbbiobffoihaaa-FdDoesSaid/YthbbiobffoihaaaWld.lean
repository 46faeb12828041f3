import Derived.Test.YthbbiobffoihaaaStart
import Derived.Test.YthbbiobffoihaaaIIt
import Derived.Test.YthbbiobffoihaaaKit
/- Files and their tables side by side; how many descriptors name a file. -/
namespace Go.Proofs.Ythbbiobffoihaaa
open Go.RowKit Go.BigFrame
set_option linter.unusedVariables false
set_option linter.unusedSimpArgs false
/-- Tables: where each lies, what it names. -/
abbrev TS := List (Nat × List Int)
def tptr (ts : TS) : List Value := ts.map fun p => .pointer (some ⟨p.1, 0, none⟩)
def tbs (ts : TS) : List Nat := ts.map (·.1)
structure WR (w : World) (ob g m a c : Nat) (vr vx : Value) (ts : TS) (L : PL Fl) : Prop where
  blk : Blk w ob #[.pointer (some ⟨g, 0, none⟩), .slice (some ⟨a, 0, none⟩) ts.length c, vr, vx]
  row : Rw w 33 1 (some ⟨a, 0, none⟩) ts.length c (tptr ts)
  tabs : ∀ p ∈ ts, TR w p.1 g p.2
  fr : FR w g m L
  oa : ob ≠ a
  of : ¬ FR.all g m L ob
  ot : ob ∉ tbs ts
  af : ¬ FR.all g m L a
  at_ : a ∉ tbs ts
  tf : ∀ p ∈ ts, ¬ FR.all g m L p.1
  tn : (tbs ts).Nodup
section
variable {w w' : World} {ob g m a c : Nat} {vr vx : Value} {ts : TS} {L : PL Fl}
def WR.all (ob g m a : Nat) (ts : TS) (L : PL Fl) (k : Nat) : Prop := k = ob ∨ k = a ∨ FR.all g m L k ∨ k ∈ tbs ts
theorem WR.lt (h : WR w ob g m a c vr vx ts L) {k : Nat} (hk : WR.all ob g m a ts L k) : k < w.heap.size := by
  rcases hk with rfl | rfl | hk | hk
  · exact h.blk.lt
  · exact h.row.blt
  · exact h.fr.lt hk
  · obtain ⟨p, hp, rfl⟩ := List.mem_map.1 hk
    exact (h.tabs p hp).lt
theorem WR.same (h : WR w ob g m a c vr vx ts L) (hk : ∀ k, WR.all ob g m a ts L k → w'.heap[k]? = w.heap[k]?) : WR w' ob g m a c vr vx ts L :=
  ⟨h.blk.same (hk _ (.inl rfl)), h.row.heap fun k e => hk k (by injection e with e; exact .inr (.inl e.symm)), fun p hp => (h.tabs p hp).same (hk _ (.inr (.inr (.inr (List.mem_map_of_mem hp))))), h.fr.same fun k q => hk k (.inr (.inr (.inl q))),
    h.oa, h.of, h.ot, h.af, h.at_, h.tf, h.tn⟩
theorem WR.below (h : WR w ob g m a c vr vx ts L) (hb : Below w.heap.size w w') : WR w' ob g m a c vr vx ts L := h.same fun k hk => hb.block k (h.lt hk)
theorem WR.alloc (h : WR w ob g m a c vr vx ts L) (o : Obj) : WR (w.alloc o) ob g m a c vr vx ts L := h.below ((Below.refl _ _).alloc (Nat.le_refl _) _)
theorem WR.drew (h : WR w ob g m a c vr vx ts L) : WR w.drew ob g m a c vr vx ts L := h.same fun _ _ => rfl
theorem WR.drewN (h : WR w ob g m a c vr vx ts L) (n : Nat) : WR (w.drewN n) ob g m a c vr vx ts L := h.same fun _ _ => rfl
theorem WR.cells (h : WR w ob g m a c vr vx ts L) : w.cell? ⟨ob, 0, none⟩ = some (.pointer (some ⟨g, 0, none⟩)) ∧ w.cell? ⟨ob, 1, none⟩ = some (.slice (some ⟨a, 0, none⟩) ts.length c) ∧ w.cell? ⟨ob, 2, none⟩ = some vr ∧ w.cell? ⟨ob, 3, none⟩ = some vx ∧ ∀ i, w.frozen? ⟨ob, i, none⟩ = false :=
  ⟨(h.blk.all.2.2.1 0).trans rfl, (h.blk.all.2.2.1 1).trans rfl, (h.blk.all.2.2.1 2).trans rfl, (h.blk.all.2.2.1 3).trans rfl, h.blk.all.2.2.2⟩
theorem WR.tcell (h : WR w ob g m a c vr vx ts L) {j t : Nat} {D : List Int} (hj : ts[j]? = some (t, D)) : w.cell? ⟨a, j, none⟩ = some (.pointer (some ⟨t, 0, none⟩)) := by
  have hl := (List.getElem?_eq_some_iff.1 hj).1
  rw [h.row.cell j (by omega)]
  simp [tptr, hj]
theorem WR.tab (h : WR w ob g m a c vr vx ts L) {j t : Nat} {D : List Int} (hj : ts[j]? = some (t, D)) : TR w t g D ∧ ¬ FR.all g m L t := ⟨h.tabs _ (List.mem_of_getElem? hj), h.tf _ (List.mem_of_getElem? hj)⟩
theorem tbs_set {ts : TS} {j t : Nat} {D D' : List Int} (hj : ts[j]? = some (t, D)) : tbs (ts.set j (t, D')) = tbs ts := by
  unfold tbs
  rw [List.map_set]
  apply List.ext_getElem?
  intro i
  rw [List.getElem?_set]
  split
  · rename_i e
    subst e
    obtain ⟨hl, he⟩ := List.getElem?_eq_some_iff.1 hj
    simp [hl, he]
  · rfl
theorem tptr_set {ts : TS} {j t : Nat} {D D' : List Int} (hj : ts[j]? = some (t, D)) : tptr (ts.set j (t, D')) = tptr ts := by
  have h := tbs_set (D' := D') hj
  unfold tptr tbs at *
  have e : ∀ l : TS, l.map (fun p => Value.pointer (some ⟨p.1, 0, none⟩)) = (l.map (·.1)).map fun t => Value.pointer (some ⟨t, 0, none⟩) := fun l => by simp
  rw [e, e, h]
theorem nodup_ix : ∀ {l : List Nat}, l.Nodup → ∀ {i j : Nat} {x : Nat}, l[i]? = some x → l[j]? = some x → i = j
  | [], _, i, j, x, h, _ => by cases h
  | y :: l, hn, i, j, x, h1, h2 => by
    have hn' := List.nodup_cons.1 hn
    cases i with
    | zero =>
      cases j with
      | zero => rfl
      | succ j =>
        simp at h1 h2; subst h1
        exact absurd (List.mem_of_getElem? h2) hn'.1
    | succ i =>
      cases j with
      | zero =>
        simp at h1 h2; subst h2
        exact absurd (List.mem_of_getElem? h1) hn'.1
      | succ j => exact congrArg (· + 1) (nodup_ix hn'.2 (i := i) (j := j) (x := x) (by simpa using h1) (by simpa using h2))
/-- One table's call, and what it does to the files. -/
theorem WR.step (h : WR w ob g m a c vr vx ts L) {j t : Nat} {D D' : List Int} {L' : PL Fl} (hj : ts[j]? = some (t, D)) (hT : TR w' t g D') (hF : FR w' g m L') (hC : Ch (fun k => k = t ∨ PL.foot m L k) w w') (hL : ∀ k, FR.all g m L' k → FR.all g m L k ∨ w.heap.size ≤ k) :
    WR w' ob g m a c vr vx (ts.set j (t, D')) L' := by
  have htm : (t, D) ∈ ts := List.mem_of_getElem? hj
  have htb : t ∈ tbs ts := List.mem_map_of_mem (f := fun p : Nat × List Int => p.1) htm
  have hnf : ∀ k, ¬ FR.all g m L k → k < w.heap.size → ¬ FR.all g m L' k := fun k h1 h2 q => (hL k q).elim h1 fun q => by omega
  have hot : ob ≠ t := fun e => h.ot (by rw [e]; exact htb)
  have hat : a ≠ t := fun e => h.at_ (by rw [e]; exact htb)
  have ht := h.tf _ htm
  refine ⟨?_, ?_, ?_, hF, h.oa, hnf _ h.of (h.lt (.inl rfl)), by rw [tbs_set hj]; exact h.ot, hnf _ h.af (h.lt (.inr (.inl rfl))), by rw [tbs_set hj]; exact h.at_, ?_, by rw [tbs_set hj]; exact h.tn⟩
  · rw [List.length_set]; exact h.blk.ch hC (fun q => q.elim hot fun q => h.of (.inr q))
  · rw [List.length_set, tptr_set hj]
    exact h.row.ch hC (fun k e q => by injection e with e; subst e; exact q.elim hat fun q => h.af (.inr q))
  · intro p hp
    obtain ⟨i, hi⟩ := List.getElem?_of_mem hp
    rw [List.getElem?_set] at hi
    split at hi
    · rename_i e
      split at hi
      · injection hi with hi; subst hi; exact hT
      · cases hi
    · rename_i e
      have hp2 := List.mem_of_getElem? hi
      refine (h.tabs p hp2).ch hC (fun q => q.elim (fun q => e ?_) fun q => h.tf p hp2 (.inr q))
      have h1 : (tbs ts)[i]? = some p.1 := by unfold tbs; rw [List.getElem?_map, hi]; rfl
      have h2 : (tbs ts)[j]? = some t := by unfold tbs; rw [List.getElem?_map, hj]; rfl
      have l1 := (List.getElem?_eq_some_iff.1 h1)
      have l2 := (List.getElem?_eq_some_iff.1 h2)
      exact nodup_ix h.tn h2 (by rw [h1, q])
  · intro p hp
    have : p.1 ∈ tbs (ts.set j (t, D')) := List.mem_map_of_mem hp
    rw [tbs_set hj] at this
    obtain ⟨q, hq, e⟩ := List.mem_map.1 this
    rw [← e]
    exact hnf _ (h.tf q hq) (h.lt (.inr (.inr (.inr (List.mem_map_of_mem hq)))))
theorem set_same {α : Type} {l : List α} {j : Nat} {x : α} (h : l[j]? = some x) : l.set j x = l := by
  apply List.ext_getElem?
  intro i
  rw [List.getElem?_set]
  split
  · rename_i e; subst e
    have hl := (List.getElem?_eq_some_iff.1 h).1
    rw [if_pos hl, h]
  · rfl
/-- A call of the files. -/
theorem WR.files (h : WR w ob g m a c vr vx ts L) {L' : PL Fl} (hF : FR w' g m L') (hC : Ch (PL.foot m L) w w') (hL : ∀ k, FR.all g m L' k → FR.all g m L k ∨ w.heap.size ≤ k) : WR w' ob g m a c vr vx ts L' := by
  have hnf : ∀ k, ¬ FR.all g m L k → k < w.heap.size → ¬ FR.all g m L' k := fun k h1 h2 q => (hL k q).elim h1 fun q => by omega
  refine ⟨h.blk.ch hC (fun q => h.of (.inr q)), h.row.ch hC (fun k e q => by injection e with e; subst e; exact h.af (.inr q)), fun p hp => (h.tabs p hp).ch hC (fun q => h.tf p hp (.inr q)), hF, h.oa, hnf _ h.of (h.lt (.inl rfl)), h.ot, hnf _ h.af (h.lt (.inr (.inl rfl))), h.at_, fun p hp => hnf _ (h.tf p hp) (h.lt (.inr (.inr (.inr (List.mem_map_of_mem hp))))), h.tn⟩
theorem St.wr {w0 w : World} {ob g m t a r x y : Nat} (h : St w0 w ob g m t a r x y) : WR w ob g m a 1 (.pointer (some ⟨r, 0, none⟩)) (.slice (some ⟨y, 0, none⟩) 1 1) [(t, List.replicate 16 (-1))] [] := by
  obtain ⟨o1, o2, o3, o4, o5, o6, o7, o8⟩ := h.ord
  have hno : ∀ k, g < k → ¬ FR.all g m ([] : PL Fl) k := fun k hk q => by
    rcases q with q | q | q
    · omega
    · omega
    · simp [PL.bs] at q
  exact ⟨h.blk, h.ra, by simp; exact h.tr, h.fr, by omega, hno _ (by omega), by simp [tbs]; omega, hno _ (by omega), by simp [tbs]; omega, by simp; exact hno _ (by omega), by simp [tbs]⟩
end
/-! How many descriptors name a file -/
def cntT (ts : TS) (x : Int) : Nat := (ts.map fun p => p.2.count x).sum
def refs (L : PL Fl) (x : Int) : Int := match PL.get L x with | some q => q.2.rf | none => 0
structure CI (ts : TS) (L : PL Fl) : Prop where
  eq : ∀ x, x ≠ -1 → (cntT ts x : Int) = refs L x
  pos : ∀ x q, PL.get L x = some q → 1 ≤ q.2.rf
theorem cntT_set {ts : TS} {j t : Nat} {D : List Int} (hj : ts[j]? = some (t, D)) (D' : List Int) (x : Int) : cntT (ts.set j (t, D')) x + D.count x = cntT ts x + D'.count x := by
  induction ts generalizing j with
  | nil => cases hj
  | cons p ts ih =>
    cases j with
    | zero =>
      simp only [List.getElem?_cons_zero, Option.some.injEq] at hj
      subst hj
      simp [cntT]; omega
    | succ j =>
      have := ih (j := j) (by simpa using hj)
      simp only [cntT, List.set_cons_succ, List.map_cons, List.sum_cons] at this ⊢
      omega
theorem cntT_app (ts : TS) (t : Nat) (D : List Int) (x : Int) : cntT (ts ++ [(t, D)]) x = cntT ts x + D.count x := by simp [cntT]
theorem count_set {D : List Int} {j : Nat} {y : Int} (hj : D[j]? = some y) (z x : Int) : (D.set j z).count x + (if y = x then 1 else 0) = D.count x + (if z = x then 1 else 0) := by
  induction D generalizing j with
  | nil => cases hj
  | cons p D ih =>
    cases j with
    | zero =>
      simp only [List.getElem?_cons_zero, Option.some.injEq] at hj
      subst hj
      simp only [List.set_cons_zero, List.count_cons, beq_iff_eq]
      omega
    | succ j =>
      have := ih (j := j) (by simpa using hj)
      simp only [List.set_cons_succ, List.count_cons] at this ⊢
      omega
theorem refs_set (L : PL Fl) (x y : Int) (f : Fl) (h : (PL.get L x).isSome = true) : refs (PL.set L x f) y = if y = x then f.rf else refs L y := by
  unfold refs
  rw [PL.get_set]
  by_cases hy : y = x
  · rw [if_pos hy, if_pos hy]
    cases hg : PL.get L x with
    | none => rw [hg] at h; cases h
    | some q => rfl
  · rw [if_neg hy, if_neg hy]
theorem refs_del (L : PL Fl) (x y : Int) : refs (PL.del L x) y = if y = x then 0 else refs L y := by
  unfold refs
  rw [PL.get_del]
  by_cases hy : y = x
  · rw [if_pos hy, if_pos hy]
  · rw [if_neg hy, if_neg hy]
theorem refs_app (L : PL Fl) (x : Int) (b : Nat) (f : Fl) (h : PL.get L x = none) (y : Int) : refs (L ++ [(x, b, f)]) y = if y = x then f.rf else refs L y := by
  unfold refs
  rw [PL.get_app L x b f h]
  by_cases hy : y = x
  · rw [if_pos hy, if_pos hy]
  · rw [if_neg hy, if_neg hy]
theorem bump_get (L : PL Fl) (z y : Int) : PL.get (bump L z) y = (PL.get L y).map fun q => if y = z then (q.1, { q.2 with rf := q.2.rf + 1 }) else q := by
  unfold bump
  cases hg : PL.get L z with
  | none =>
    simp only
    by_cases hy : y = z
    · subst hy; rw [hg]; rfl
    · simp only [if_neg hy]; cases PL.get L y <;> rfl
  | some q =>
    simp only
    rw [PL.get_set]
    by_cases hy : y = z
    · subst hy; simp [hg]
    · simp only [if_neg hy]; cases PL.get L y <;> rfl
theorem bumps_get (D : List Int) : ∀ (L : PL Fl) (y : Int), PL.get (bumps L D) y = (PL.get L y).map fun q => (q.1, { q.2 with rf := q.2.rf + (D.count y : Int) }) := by
  induction D with
  | nil =>
    intro L y
    show PL.get L y = _
    cases PL.get L y with
    | none => rfl
    | some q => simp
  | cons z D ih =>
    intro L y
    show PL.get (bumps (bump L z) D) y = _
    rw [ih, bump_get, Option.map_map]
    congr 1
    funext q
    simp only [Function.comp, List.count_cons, beq_iff_eq]
    by_cases hy : y = z
    · subst hy; simp; omega
    · simp [hy, Ne.symm hy]
theorem bumps_len (D : List Int) : ∀ L : PL Fl, (bumps L D).length = L.length := by
  induction D with
  | nil => intro L; rfl
  | cons z D ih =>
    intro L
    show (bumps (bump L z) D).length = _
    rw [ih]
    unfold bump
    split
    · exact PL.len_set _ _ _
    · rfl
theorem cntT_le {ts : TS} (h : ∀ p ∈ ts, p.2.length = 16) (x : Int) : cntT ts x ≤ 16 * ts.length := by
  induction ts with
  | nil => simp [cntT]
  | cons p ts ih =>
    have h1 := ih (fun q hq => h q (List.mem_cons_of_mem _ hq))
    have h2 := List.count_le_length (a := x) (l := p.2)
    rw [h p List.mem_cons_self] at h2
    simp only [cntT, List.map_cons, List.sum_cons, List.length_cons] at h1 ⊢
    omega
section
variable {ts : TS} {L : PL Fl}
theorem CI.get_pos (h : CI ts L) {x : Int} (hx : x ≠ -1) (hc : 0 < cntT ts x) : ∃ q, PL.get L x = some q := by
  have := h.eq x hx
  unfold refs at this
  cases hg : PL.get L x with
  | none => rw [hg] at this; simp at this; omega
  | some q => exact ⟨q, rfl⟩
theorem CI.start (t : Nat) : CI [(t, List.replicate 16 (-1))] [] := by
  refine ⟨fun x hx => ?_, fun x q hq => by cases hq⟩
  simp [cntT, refs, PL.get, List.count_replicate, Ne.symm hx]
theorem mem_cnt {j t : Nat} {D : List Int} (hj : ts[j]? = some (t, D)) {i : Nat} {x : Int} (hi : D[i]? = some x) : 0 < cntT ts x := by
  have h1 : 0 < D.count x := List.count_pos_iff.2 (List.mem_of_getElem? hi)
  have h2 := cntT_set hj [] x
  simp at h2
  omega
/-- Open, then Install. -/
theorem CI.opens (h : CI ts L) {j t i : Nat} {D : List Int} (hj : ts[j]? = some (t, D)) (hi : D[i]? = some (-1)) {x : Int} (hx : x ≠ -1) (hg : PL.get L x = none) (b : Nat) (f : Fl) (hf : f.rf = 1) : CI (ts.set j (t, D.set i x)) (L ++ [(x, b, f)]) := by
  refine ⟨fun y hy => ?_, fun y q hq => ?_⟩
  · have h1 := cntT_set hj (D.set i x) y
    have h2 := count_set hi x y
    have h3 := h.eq y hy
    rw [refs_app L x b f hg y, hf]
    rw [if_neg (fun e => hy e.symm)] at h2
    by_cases hyx : y = x
    · subst hyx
      have : refs L y = 0 := by unfold refs; rw [hg]
      rw [if_pos rfl] at h2 ⊢
      omega
    · rw [if_neg (fun e => hyx e.symm)] at h2
      rw [if_neg hyx]
      omega
  · rw [PL.get_app L x b f hg] at hq
    split at hq
    · injection hq with hq; subst hq; simp [hf]
    · exact h.pos y q hq
theorem CI.dups (h : CI ts L) {j t i : Nat} {D : List Int} (hj : ts[j]? = some (t, D)) (hi : D[i]? = some (-1)) {x : Int} (hx : x ≠ -1) {b : Nat} {f f' : Fl} (hg : PL.get L x = some (b, f)) (hf : f'.rf = f.rf + 1) : CI (ts.set j (t, D.set i x)) (PL.set L x f') := by
  refine ⟨fun y hy => ?_, fun y q hq => ?_⟩
  · have h1 := cntT_set hj (D.set i x) y
    have h2 := count_set hi x y
    have h3 := h.eq y hy
    rw [refs_set L x y f' (by rw [hg]; rfl), hf]
    rw [if_neg (fun e => hy e.symm)] at h2
    by_cases hyx : y = x
    · subst hyx
      have : refs L y = f.rf := by unfold refs; rw [hg]
      rw [if_pos rfl] at h2 ⊢
      omega
    · rw [if_neg (fun e => hyx e.symm)] at h2
      rw [if_neg hyx]
      omega
  · rw [PL.get_set] at hq
    split at hq
    · rw [hg] at hq; injection hq with hq; subst hq
      have := h.pos x _ hg
      simp only at this ⊢; omega
    · exact h.pos y q hq
theorem CI.closes (h : CI ts L) {j t i : Nat} {D : List Int} (hj : ts[j]? = some (t, D)) {x : Int} (hi : D[i]? = some x) (hx : x ≠ -1) {b : Nat} {f f' : Fl} (hg : PL.get L x = some (b, f)) (hf : f'.rf = f.rf - 1) : CI (ts.set j (t, D.set i (-1))) (if f.rf = 1 then PL.del L x else PL.set L x f') := by
  have hp := h.pos x _ hg
  simp only at hp
  refine ⟨fun y hy => ?_, fun y q hq => ?_⟩
  · have h1 := cntT_set hj (D.set i (-1)) y
    have h2 := count_set hi (-1) y
    have h3 := h.eq y hy
    have hr : refs (if f.rf = 1 then PL.del L x else PL.set L x f') y = if y = x then f.rf - 1 else refs L y := by
      by_cases h1 : f.rf = 1
      · rw [if_pos h1, refs_del, h1]; rfl
      · rw [if_neg h1, refs_set L x y f' (by rw [hg]; rfl), hf]
    rw [hr]
    rw [if_neg (c := (-1 : Int) = y) (fun e => hy e.symm)] at h2
    by_cases hyx : y = x
    · subst hyx
      have : refs L y = f.rf := by unfold refs; rw [hg]
      rw [if_pos rfl] at h2 ⊢
      omega
    · rw [if_neg (fun e => hyx e.symm)] at h2
      rw [if_neg hyx]
      omega
  · by_cases h1 : f.rf = 1
    · rw [if_pos h1, PL.get_del] at hq
      split at hq
      · cases hq
      · exact h.pos y q hq
    · rw [if_neg h1, PL.get_set] at hq
      split at hq
      · rw [hg] at hq; injection hq with hq; subst hq
        simp only; omega
      · exact h.pos y q hq
theorem CI.moves (h : CI ts L) {x : Int} {b : Nat} {f f' : Fl} (hg : PL.get L x = some (b, f)) (hf : f'.rf = f.rf) : CI ts (PL.set L x f') := by
  refine ⟨fun y hy => ?_, fun y q hq => ?_⟩
  · rw [refs_set L x y f' (by rw [hg]; rfl), hf, h.eq y hy]
    by_cases hyx : y = x
    · subst hyx; rw [if_pos rfl]; unfold refs; rw [hg]
    · rw [if_neg hyx]
  · rw [PL.get_set] at hq
    split at hq
    · rw [hg] at hq; injection hq with hq; subst hq
      have := h.pos x _ hg
      simp only at this ⊢; omega
    · exact h.pos y q hq
theorem CI.forks (h : CI ts L) {j t : Nat} {D : List Int} (hj : ts[j]? = some (t, D)) (t' : Nat) : CI (ts ++ [(t', D)]) (bumps L D) := by
  refine ⟨fun y hy => ?_, fun y q hq => ?_⟩
  · rw [cntT_app]
    have h3 := h.eq y hy
    unfold refs at h3 ⊢
    rw [bumps_get]
    cases hg : PL.get L y with
    | some q => rw [hg] at h3; simp only [Option.map_some] at h3 ⊢; push_cast; omega
    | none =>
      rw [hg] at h3
      simp only [Option.map_none] at h3 ⊢
      have : D.count y = 0 := by
        rcases Nat.eq_zero_or_pos (D.count y) with h0 | h0
        · exact h0
        · have h2 := cntT_set hj [] y
          simp at h2
          omega
      omega
  · rw [bumps_get] at hq
    cases hg : PL.get L y with
    | none => rw [hg] at hq; cases hq
    | some r =>
      rw [hg] at hq
      simp only [Option.map_some, Option.some.injEq] at hq
      subst hq
      have := h.pos y r hg
      simp only; omega
end
end Go.Proofs.Ythbbiobffoihaaa
