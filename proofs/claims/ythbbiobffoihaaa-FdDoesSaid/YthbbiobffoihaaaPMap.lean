import Derived.Test.YthbbiobffoihaaaBase
import Derived.Test.YthbbiobffoihaaaHp
import Derived.Lib.SlKeysI
import Derived.Maps.Own
/- Maps from whole numbers to pointers, each to a block of its own; a map's keys, as the shelf's contracts want them. -/
namespace Go.Proofs.Ythbbiobffoihaaa
open Go.RowKit Go.BigFrame
set_option linter.unusedVariables false
set_option linter.unusedSimpArgs false
theorem Blk.ch {F : Nat → Prop} {w w' : World} {g : Nat} {c : Array Value} (h : Blk w g c) (hc : Ch F w w') (hg : ¬ F g) : Blk w' g c :=
  ⟨(row_heap (hc.block g h.lt hg)).trans h.1, (nf_heap (hc.block g h.lt hg)).trans h.2⟩
theorem Blk.same {w w' : World} {g : Nat} {c : Array Value} (h : Blk w g c) (e : w'.heap[g]? = w.heap[g]?) : Blk w' g c := ⟨(row_heap e).trans h.1, (nf_heap e).trans h.2⟩
/-- A map as the shelf's contracts want it. -/
theorem IMap.own {P : Program} {k : TypeId} {w : World} {b : Nat} {M : IM} (hk : P.underlying k = some (.int .i64)) (h : IMap w b M) (hl : M.length ≤ maxLen) (hi : ∀ p ∈ M, (Lit.int .i64 p.1).wf = true) :
    ∃ D0 : DataW Unit, w.ownsMap P k (fun _ => some (.nil, [])) b M.length D0 ∧ Maps.size D0 = M.length ∧ (intKeys D0).Perm (M.map (·.1)) := by
  obtain ⟨es, c, hb, hs, he⟩ := h
  have hsz : es.size = M.length := by have := congrArg List.length he; simpa using this
  have hkey : ∀ x ∈ es.toList, ∃ p ∈ M, x.key = .int .i64 p.1 := by
    intro x hx
    have hm : (x.key, x.val) ∈ M.map fun p => (Value.int .i64 p.1, p.2) := by rw [← he]; exact List.mem_map.2 ⟨x, hx, rfl⟩
    obtain ⟨p, hp1, hp2⟩ := List.mem_map.1 hm
    injection hp2 with hp2 _
    exact ⟨p, hp1, hp2.symm⟩
  have hrd : ∀ x ∈ es.toList, ∀ p ∈ M, x.key = .int .i64 p.1 → WideElems.rd P k (fun _ => some ((.nil : DataW Unit), [])) x = some (.int .i64 p.1, .nil) := by
    intro x hx p hp e
    unfold WideElems.rd
    rw [e, Maps.keyOf_int_mk hk (hi p hp)]
    rfl
  refine ⟨_, ⟨es, c, hb, ⟨by omega, hs, fun x hx => ?_⟩, by omega, rfl⟩, ?_, ?_⟩
  · obtain ⟨p, hp, e⟩ := hkey x hx
    exact ⟨_, hrd x hx p hp e⟩
  · show List.length _ = _
    rw [length_sorted]; simp [hsz]
  · have h1 := (WideShapes.sorted_perm (es.toList.map (WideElems.rg P k (fun _ => some ((.nil : DataW Unit), []))))).map fun p => intOf p.1
    refine h1.trans (List.Perm.of_eq ?_)
    have h2 : es.toList.map (·.key) = M.map fun p => Value.int .i64 p.1 := by
      have := congrArg (List.map (·.1)) he
      simpa [List.map_map, Function.comp_def] using this
    apply List.ext_getElem?
    intro j
    have h3 := congrArg (·[j]?) h2
    simp only [List.getElem?_map] at h3 ⊢
    cases hx : es.toList[j]? with
    | none => rw [hx] at h3; cases hm : M[j]? with
      | none => rfl
      | some p => rw [hm] at h3; cases h3
    | some x =>
      rw [hx] at h3
      cases hm : M[j]? with
      | none => rw [hm] at h3; cases h3
      | some p =>
        rw [hm] at h3
        simp only [Option.map_some, Option.some.injEq] at h3 ⊢
        have := hrd x (List.mem_of_getElem? hx) p (List.mem_of_getElem? hm) h3
        unfold WideElems.rg
        rw [this]; rfl
section
variable {α : Type}
/-- Keys, where each one's block lies, what it says. -/
abbrev PL (α : Type) := List (Int × Nat × α)
def PL.im (L : PL α) : IM := List.map (fun p => (p.1, .pointer (some ⟨p.2.1, 0, none⟩))) L
def PL.get (L : PL α) (x : Int) : Option (Nat × α) := (List.find? (fun p => p.1 == x) L).map (·.2)
def PL.set (L : PL α) (x : Int) (a : α) : PL α := List.map (fun p => if p.1 == x then (p.1, p.2.1, a) else p) L
def PL.del (L : PL α) (x : Int) : PL α := List.filter (fun p => !(p.1 == x)) L
def PL.bs (L : PL α) : List Nat := List.map (·.2.1) L
def PL.ks (L : PL α) : List Int := List.map (·.1) L
def PL.sk (L : PL α) : List Int := (PL.ks L).mergeSort leI
theorem PL.get_nil (x : Int) : PL.get ([] : PL α) x = none := rfl
theorem PL.get_cons (p : Int × Nat × α) (L : PL α) (x : Int) : PL.get (p :: L) x = if p.1 = x then some p.2 else PL.get L x := by
  unfold PL.get
  by_cases h : p.1 = x
  · rw [if_pos h, List.find?_cons_of_pos (by simpa using h)]; rfl
  · rw [if_neg h, List.find?_cons_of_neg (by simpa using h)]
theorem PL.get_mem : ∀ {L : PL α} {x : Int} {q : Nat × α}, PL.get L x = some q → (x, q) ∈ L
  | [], x, q, h => by cases h
  | p :: L, x, q, h => by
    rw [PL.get_cons] at h
    by_cases hx : p.1 = x
    · rw [if_pos hx] at h; injection h with h; subst h hx; exact List.mem_cons_self
    · rw [if_neg hx] at h; exact List.mem_cons_of_mem _ (PL.get_mem h)
theorem PL.mem_get : ∀ {L : PL α} {p : Int × Nat × α}, (PL.ks L).Nodup → p ∈ L → PL.get L p.1 = some p.2
  | [], p, _, h => by cases h
  | q :: L, p, hn, h => by
    have hn' := List.nodup_cons.1 hn
    rw [PL.get_cons]
    rcases List.mem_cons.1 h with rfl | h
    · rw [if_pos rfl]
    · rw [if_neg fun e => hn'.1 (by show q.1 ∈ _; rw [e]; exact List.mem_map_of_mem h)]
      exact PL.mem_get hn'.2 h
theorem PL.get_none {L : PL α} {x : Int} : PL.get L x = none ↔ x ∉ PL.ks L := by
  induction L with
  | nil => simp [PL.get, PL.ks]
  | cons p L ih =>
    rw [PL.get_cons]
    have e : PL.ks (p :: L) = p.1 :: PL.ks L := rfl
    rw [e, List.mem_cons]
    by_cases hx : p.1 = x
    · rw [if_pos hx]; simp [hx]
    · rw [if_neg hx, ih]
      simp [Ne.symm hx]
theorem PL.im_get : ∀ (L : PL α) (x : Int), IM.get (PL.im L) x = (PL.get L x).map fun q => .pointer (some ⟨q.1, 0, none⟩)
  | [], x => rfl
  | p :: L, x => by
    have ih := PL.im_get L x
    rw [PL.get_cons]
    unfold IM.get at ih ⊢
    show Option.map _ (List.find? _ ((p.1, .pointer (some ⟨p.2.1, 0, none⟩)) :: PL.im L)) = _
    by_cases hx : p.1 = x
    · rw [if_pos hx, List.find?_cons_of_pos (by simpa using hx)]; rfl
    · rw [if_neg hx, List.find?_cons_of_neg (by simpa using hx)]; exact ih
theorem PL.get_set : ∀ (L : PL α) (x : Int) (a : α) (y : Int), PL.get (PL.set L x a) y = if y = x then (PL.get L x).map fun q => (q.1, a) else PL.get L y
  | [], x, a, y => by split <;> rfl
  | p :: L, x, a, y => by
    have ih := PL.get_set L x a y
    have e : PL.set (p :: L) x a = (if p.1 == x then (p.1, p.2.1, a) else p) :: PL.set L x a := rfl
    rw [e, PL.get_cons, PL.get_cons, PL.get_cons, ih]
    by_cases hx : p.1 = x
    · have hb : (p.1 == x) = true := by simpa using hx
      rw [hb]
      by_cases hy : y = x
      · subst hy; simp [hx]
      · have : ¬ p.1 = y := fun e => hy (e.symm.trans hx)
        simp [hy, this]
    · have hb : (p.1 == x) = false := by simpa using hx
      rw [hb]
      by_cases hy : y = x
      · subst hy; simp [hx]
      · simp [hy]
theorem PL.get_del : ∀ (L : PL α) (x y : Int), PL.get (PL.del L x) y = if y = x then none else PL.get L y
  | [], x, y => by split <;> rfl
  | p :: L, x, y => by
    have ih := PL.get_del L x y
    have e : PL.del (p :: L) x = if !(p.1 == x) then p :: PL.del L x else PL.del L x := by
      unfold PL.del; rw [List.filter_cons]
    rw [e, PL.get_cons]
    by_cases hx : p.1 = x
    · have hb : (p.1 == x) = true := by simpa using hx
      rw [hb]
      by_cases hy : y = x
      · subst hy; simpa using ih
      · have : ¬ p.1 = y := fun e => hy (e.symm.trans hx)
        simp [hy, this, ih]
    · have hb : (p.1 == x) = false := by simpa using hx
      rw [hb]
      simp only [Bool.not_false, if_true, PL.get_cons, ih]
      by_cases hy : y = x
      · subst hy; simp [hx]
      · simp [hy]
theorem PL.get_app (L : PL α) (x : Int) (b : Nat) (a : α) (h : PL.get L x = none) (y : Int) : PL.get (L ++ [(x, b, a)]) y = if y = x then some (b, a) else PL.get L y := by
  induction L with
  | nil =>
    show PL.get [(x, b, a)] y = _
    rw [PL.get_cons]
    by_cases hy : y = x
    · subst hy; simp
    · rw [if_neg (fun e => hy e.symm), if_neg hy]
  | cons p L ih =>
    rw [PL.get_cons] at h
    by_cases hx : p.1 = x
    · rw [if_pos hx] at h; cases h
    · rw [if_neg hx] at h
      show PL.get (p :: (L ++ [(x, b, a)])) y = _
      rw [PL.get_cons, PL.get_cons, ih h]
      by_cases hy : y = x
      · subst hy; simp [hx]
      · simp [hy]
theorem PL.ks_set (L : PL α) (x : Int) (a : α) : PL.ks (PL.set L x a) = PL.ks L := by
  unfold PL.ks PL.set
  rw [List.map_map]
  apply List.map_congr_left
  intro p _
  simp only [Function.comp]
  split <;> rfl
theorem PL.bs_set (L : PL α) (x : Int) (a : α) : PL.bs (PL.set L x a) = PL.bs L := by
  unfold PL.bs PL.set
  rw [List.map_map]
  apply List.map_congr_left
  intro p _
  simp only [Function.comp]
  split <;> rfl
theorem PL.len_set (L : PL α) (x : Int) (a : α) : (PL.set L x a).length = L.length := by simp [PL.set]
theorem PL.im_set (L : PL α) (x : Int) (a : α) : PL.im (PL.set L x a) = PL.im L := by
  unfold PL.im PL.set
  rw [List.map_map]
  apply List.map_congr_left
  intro p _
  simp only [Function.comp]
  split <;> rfl
theorem PL.im_len (L : PL α) : (PL.im L).length = L.length := by simp [PL.im]
theorem PL.im_ks (L : PL α) : (PL.im L).map (·.1) = PL.ks L := by simp [PL.im, PL.ks]
theorem PL.im_del (L : PL α) (x : Int) : IM.del (PL.im L) x = PL.im (PL.del L x) := by
  unfold IM.del PL.im PL.del
  rw [List.filter_map]; rfl
theorem PL.im_put (L : PL α) (x : Int) (v : Value) (h : PL.get L x = none) : IM.put (PL.im L) x v = PL.im L ++ [(x, v)] := by
  have h1 := PL.im_get L x
  rw [h] at h1
  have h2 := fndM_get (PL.im L) x 0
  rw [h1] at h2
  have h3 : fndM (PL.im L) x 0 = none := by
    cases hq : fndM (PL.im L) x 0 with
    | none => rfl
    | some r => rw [hq] at h2; cases h2
  exact (put_none _ x v 0 h3).1
theorem PL.ks_del (L : PL α) (x : Int) : PL.ks (PL.del L x) = (PL.ks L).filter fun k => !(k == x) := by
  unfold PL.ks PL.del
  rw [List.filter_map]; rfl
theorem PL.bs_del_sub (L : PL α) (x : Int) : (PL.bs (PL.del L x)).Sublist (PL.bs L) := (List.filter_sublist).map _
theorem PL.mem_sk (L : PL α) (x : Int) : x ∈ PL.sk L ↔ x ∈ PL.ks L := (List.mergeSort_perm _ _).mem_iff
theorem PL.sk_len (L : PL α) : (PL.sk L).length = L.length := by
  unfold PL.sk; rw [List.length_mergeSort]; simp [PL.ks]
theorem PL.sk_sorted (L : PL α) : (PL.sk L).Pairwise (fun a b => a ≤ b) := by
  have tr : ∀ a b c : Int, leI a b = true → leI b c = true → leI a c = true := fun a b c h1 h2 => by simp only [leI, decide_eq_true_eq] at *; exact Int.le_trans h1 h2
  have to : ∀ a b : Int, (leI a b || leI b a) = true := fun a b => by simp only [leI, Bool.or_eq_true, decide_eq_true_eq]; exact Int.le_total a b
  exact (List.pairwise_mergeSort tr to (PL.ks L)).imp fun h => by simpa [leI] using h
theorem PL.sk_nodup {L : PL α} (h : (PL.ks L).Nodup) : (PL.sk L).Nodup := (List.mergeSort_perm _ _).nodup_iff.2 h
/-- A rising list is known by what is in it. -/
theorem rising_ext : ∀ {l m : List Int}, l.Pairwise (fun a b => a < b) → m.Pairwise (fun a b => a < b) → (∀ x, x ∈ l ↔ x ∈ m) → l = m := fun {l m} hl hm h => by
  refine List.Perm.eq_of_pairwise (le := fun a b => a < b) (fun a b _ _ h1 h2 => by omega) hl hm ?_
  refine (List.perm_ext_iff_of_nodup ?_ ?_).2 h
  · exact hl.imp fun h e => by omega
  · exact hm.imp fun h e => by omega
theorem PL.sk_rising {L : PL α} (h : (PL.ks L).Nodup) : (PL.sk L).Pairwise (fun a b => a < b) := by
  have h1 := PL.sk_sorted L
  have h2 := PL.sk_nodup h
  refine (List.pairwise_and_iff.2 ⟨h1, h2⟩).imp fun {a b} h => ?_
  have := h.1; have := h.2; omega
structure PMap (cs : α → Array Value) (w : World) (m : Nat) (L : PL α) : Prop where
  map : IMap w m (PL.im L)
  rows : ∀ p ∈ L, Blk w p.2.1 (cs p.2.2)
  ap : m ∉ PL.bs L
  nd : (PL.bs L).Nodup
def PL.foot (m : Nat) (L : PL α) (k : Nat) : Prop := k = m ∨ k ∈ PL.bs L
section
variable {cs : α → Array Value} {w w' : World} {m : Nat} {L : PL α}
theorem PMap.knd (h : PMap cs w m L) : (PL.ks L).Nodup := by
  have := h.map.nodup
  rwa [PL.im_ks] at this
theorem PMap.row (h : PMap cs w m L) {x : Int} {b : Nat} {a : α} (hg : PL.get L x = some (b, a)) : Blk w b (cs a) := h.rows _ (PL.get_mem hg)
theorem PMap.foot_lt (h : PMap cs w m L) {k : Nat} (hk : PL.foot m L k) : k < w.heap.size := by
  rcases hk with rfl | hk
  · exact h.map.lt
  · obtain ⟨p, hp, rfl⟩ := List.mem_map.1 hk
    exact (h.rows p hp).lt
theorem PMap.same (h : PMap cs w m L) (hk : ∀ k, PL.foot m L k → w'.heap[k]? = w.heap[k]?) : PMap cs w' m L :=
  ⟨h.map.heap (hk m (.inl rfl)), fun p hp => (h.rows p hp).same (hk _ (.inr (List.mem_map_of_mem hp))), h.ap, h.nd⟩
theorem PMap.ch {F : Nat → Prop} (h : PMap cs w m L) (hc : Ch F w w') (hF : ∀ k, PL.foot m L k → ¬ F k) : PMap cs w' m L := h.same fun k hk => hc.block k (h.foot_lt hk) (hF k hk)
theorem PMap.below (h : PMap cs w m L) (hb : Below w.heap.size w w') : PMap cs w' m L := h.same fun k hk => hb.block k (h.foot_lt hk)
theorem PMap.alloc (h : PMap cs w m L) (o : Obj) : PMap cs (w.alloc o) m L := h.below ((Below.refl _ _).alloc (Nat.le_refl _) _)
theorem PMap.drew (h : PMap cs w m L) : PMap cs w.drew m L := h.same fun _ _ => rfl
theorem PMap.drewN (h : PMap cs w m L) (n : Nat) : PMap cs (w.drewN n) m L := h.same fun _ _ => rfl
theorem PL.nd_inj : ∀ {L : PL α}, (PL.bs L).Nodup → ∀ {p q}, p ∈ L → q ∈ L → p.2.1 = q.2.1 → p = q
  | [], _, p, q, hp, _, _ => by cases hp
  | r :: L, hn, p, q, hp, hq, e => by
    have hn' := List.nodup_cons.1 hn
    rcases List.mem_cons.1 hp with rfl | hp' <;> rcases List.mem_cons.1 hq with rfl | hq'
    · rfl
    · exact absurd (by show p.2.1 ∈ _; rw [e]; exact List.mem_map_of_mem hq') hn'.1
    · exact absurd (by show q.2.1 ∈ _; rw [← e]; exact List.mem_map_of_mem hp') hn'.1
    · exact PL.nd_inj hn'.2 hp' hq' e
/-- A store into what a key's pointer points to. -/
theorem PMap.store (h : PMap cs w m L) {x : Int} {b : Nat} {a a' : α} {i : Nat} {v : Value} (hg : PL.get L x = some (b, a)) (hc : (cs a).setIfInBounds i v = cs a') : PMap cs (w.setCell ⟨b, i, none⟩ v) m (PL.set L x a') := by
  have hm := PL.get_mem hg
  have hst : ∀ k, k ≠ b → (w.setCell ⟨b, i, none⟩ v).heap[k]? = w.heap[k]? := fun k hk => heap_setCell_other w ⟨b, i, none⟩ k _ hk
  have hbm : b ≠ m := fun e => h.ap (by rw [← e]; exact List.mem_map_of_mem (f := fun p : Int × Nat × α => p.2.1) hm)
  refine ⟨by rw [PL.im_set]; exact h.map.heap (hst m (Ne.symm hbm)), fun p hp => ?_, by rw [PL.bs_set]; exact h.ap, by rw [PL.bs_set]; exact h.nd⟩
  obtain ⟨q, hq, rfl⟩ := List.mem_map.1 hp
  by_cases hx : q.1 = x
  · have : (q.1 == x) = true := by simpa using hx
    rw [this, if_pos rfl]
    have h1 := PL.mem_get h.knd hq
    rw [hx, hg] at h1
    injection h1 with h1
    have h2 : q.2.1 = b := by rw [← h1]
    simp only [h2]
    have := (h.row hg).put i v
    rwa [hc] at this
  · have : (q.1 == x) = false := by simpa using hx
    rw [this, if_neg Bool.false_ne_true]
    refine (h.rows q hq).same (hst _ fun e => hx ?_)
    have := PL.nd_inj h.nd hq hm e
    rw [this]
variable {P : Program} {t k e : TypeId}
theorem PMap.lookup (h : PMap cs w m L) (ht : P.underlying t = some (.map k e)) (hk : P.underlying k = some (.int .i64)) (hz : (zeroValue e).run P w = .ok (.pointer none) w) (x : Int) :
    (Instr.lookup t (.map (some m)) (.int .i64 x) false).run P w = .ok (.pointer ((PL.get L x).map fun q => ⟨q.1, 0, none⟩)) w := by
  rw [imap_lookup h.map ht hk hz x false, PL.im_get]
  cases PL.get L x <;> rfl
theorem PMap.len (h : PMap cs w m L) (ht : P.underlying t = some (.map k e)) (ty : TypeId) : (Builtin.len_ #[t] ty #[.map (some m)]).run P w = .ok (.int .i64 L.length) w := by
  rw [imap_len h.map ht ty, PL.im_len]
/-- A new key, its block already there. -/
theorem PMap.put (h : PMap cs w m L) {x : Int} {b : Nat} {a : α} (hg : PL.get L x = none) (hb : Blk w b (cs a)) (hbm : b ≠ m) (hbL : b ∉ PL.bs L) (ht : P.underlying t = some (.map k e)) (hk : P.underlying k = some (.int .i64)) :
    ∃ w', (Instr.mapUpdate t (.map (some m)) (.int .i64 x) (.pointer (some ⟨b, 0, none⟩))).run P w = .ok () w' ∧ PMap cs w' m (L ++ [(x, b, a)]) ∧ Ch (· = m) w w' ∧ w'.heap.size = w.heap.size := by
  obtain ⟨w', h1, h2, h3, h4⟩ := imap_update h.map ht hk x (.pointer (some ⟨b, 0, none⟩))
  have hbs : PL.bs (L ++ [(x, b, a)]) = PL.bs L ++ [b] := by simp [PL.bs]
  refine ⟨w', h1, ⟨?_, fun p hp => ?_, ?_, ?_⟩, h3, h4⟩
  · rw [PL.im_put _ _ _ hg] at h2
    simpa [PL.im] using h2
  · rcases List.mem_append.1 hp with hp | hp
    · exact (h.rows p hp).ch h3 fun e => h.ap (by rw [← e]; exact List.mem_map_of_mem hp)
    · obtain rfl := List.mem_singleton.1 hp
      exact hb.ch h3 hbm
  · rw [hbs, List.mem_append]
    rintro (q | q)
    · exact h.ap q
    · exact hbm (List.mem_singleton.1 q).symm
  · rw [hbs, List.nodup_append]
    refine ⟨h.nd, by simp, fun u hu v hv => ?_⟩
    obtain rfl := List.mem_singleton.1 hv
    exact fun e => hbL (by rw [← e]; exact hu)
theorem PMap.rem (h : PMap cs w m L) (ht : P.underlying t = some (.map k e)) (hk : P.underlying k = some (.int .i64)) (x : Int) :
    ∃ w', (∀ ty, (Builtin.delete_ #[t, k] ty #[.map (some m), .int .i64 x]).run P w = .ok (.tuple #[]) w') ∧ PMap cs w' m (PL.del L x) ∧ Ch (· = m) w w' ∧ w'.heap.size = w.heap.size := by
  obtain ⟨w', h1, h2, h3, h4⟩ := imap_delete h.map ht hk x 0
  rw [PL.im_del] at h2
  refine ⟨w', fun ty => h1, ⟨h2, fun p hp => ?_, fun q => h.ap ((PL.bs_del_sub L x).subset q), h.nd.sublist (PL.bs_del_sub L x)⟩, h3, h4⟩
  have hp' := (List.mem_filter.1 hp).1
  exact (h.rows p hp').ch h3 fun e => h.ap (by rw [← e]; exact List.mem_map_of_mem hp')
/-- The keys, as the shelf's contracts want them. -/
theorem PMap.own {k : TypeId} (hk : P.underlying k = some (.int .i64)) (h : PMap cs w m L) (hl : L.length ≤ maxLen) (hi : ∀ x ∈ PL.ks L, (Lit.int .i64 x).wf = true) :
    ∃ D0 : DataW Unit, w.ownsMap P k (fun _ => some (.nil, [])) m L.length D0 ∧ Maps.size D0 = L.length ∧ (intKeys D0).Perm (PL.ks L) := by
  have := h.map.own (P := P) hk (by rw [PL.im_len]; exact hl) (fun p hp => hi p.1 (by rw [← PL.im_ks]; exact List.mem_map_of_mem hp))
  rwa [PL.im_len, PL.im_ks] at this
end
end
end Go.Proofs.Ythbbiobffoihaaa
