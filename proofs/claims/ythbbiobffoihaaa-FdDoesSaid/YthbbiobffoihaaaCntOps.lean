import Derived.Test.YthbbiobffoihaaaLp
/- Dup, Close, Get, Fork of any table, with what they count. -/
namespace Go.Proofs.Ythbbiobffoihaaa
open Go.RowKit Go.BigFrame
set_option linter.unusedVariables false
set_option linter.unusedSimpArgs false
section
variable {w wr w' : World} {ob g m a c : Nat} {vr vx : Value} {ts : TS} {L : PL Fl}
theorem CI.rf_le (h : CI ts L) (hp : LP w wr ob g m a c vr vx ts L) {x : Int} {q : Nat × Fl} (hg : PL.get L x = some q) : 1 ≤ q.2.rf ∧ q.2.rf ≤ 192 := by
  have h1 := h.pos x q hg
  have hx : x ≠ -1 := fun e => by have := hp.own.fr.ids x (PL.get_in hg); omega
  have h2 := h.eq x hx
  have h3 := cntT_le (fun p hp' => (hp.own.tabs p hp').len) x
  have h4 := hp.n2
  unfold refs at h2
  rw [hg] at h2
  simp only at h2
  omega
theorem LP.tset (h : LP w wr ob g m a c vr vx ts L) {k t : Nat} {D : List Int} (hk : ts[k]? = some (t, D)) : ts.set k (t, D) = ts := set_same hk
theorem dup_any (h : LP w wr ob g m a c vr vx ts L) (hc : CI ts L) {k t : Nat} {D : List Int} (hk : ts[k]? = some (t, D)) (x2 : Int) :
    Calls Try.prog 10 #[.pointer (some ⟨t, 0, none⟩), .int .i64 x2] wr fun e w' => ∃ (v er : Int) (D' : List Int) (L' : PL Fl), e = .returned (.tuple #[.int .i64 v, .int .i64 er]) ∧ LP w w' ob g m a c vr vx (ts.set k (t, D')) L' ∧ CI (ts.set k (t, D')) L' ∧ L'.length = L.length := by
  obtain ⟨hT, htf⟩ := h.own.tab hk
  have hF := h.own.fr
  have stay : ∀ (e : Ending) (w' : World), (e = .returned (.tuple #[.int .i64 0, .int .i64 220]) ∧ wr = w') → ∃ (v er : Int) (D' : List Int) (L' : PL Fl), e = .returned (.tuple #[.int .i64 v, .int .i64 er]) ∧ LP w w' ob g m a c vr vx (ts.set k (t, D')) L' ∧ CI (ts.set k (t, D')) L' ∧ L'.length = L.length := by
    rintro e w' ⟨rfl, rfl⟩
    exact ⟨_, _, D, L, rfl, by rw [set_same hk]; exact h, by rw [set_same hk]; exact hc, rfl⟩
  by_cases hr : x2 < 0 ∨ 16 ≤ x2
  · exact (dup_get x2 (tget_out hT x2 hr)).mono stay
  · obtain ⟨i, rfl⟩ : ∃ i : Nat, x2 = (i : Int) := ⟨x2.toNat, by omega⟩
    obtain ⟨x, hx⟩ : ∃ x, D[i]? = some x := ⟨_, List.getElem?_eq_getElem (by rw [hT.len]; omega)⟩
    by_cases hx1 : x = -1
    · subst hx1
      exact (dup_get _ (tget_free hT i hx)).mono stay
    · obtain ⟨⟨b, f⟩, hg⟩ := hc.get_pos hx1 (mem_cnt hk hx)
      have hrf := hc.rf_le h hg
      obtain ⟨kd, wh, at_, fg, rf⟩ := f
      simp only at hrf
      cases hn : D.findIdx? (fun x => x == -1) with
      | none =>
        refine (dup_fail _ x 2 (by decide) (tget_ok hT i x hx hx1) (inst_full hT hF hg hn)).mono ?_
        rintro e w' ⟨rfl, rfl⟩
        exact ⟨_, _, D, L, rfl, by rw [set_same hk]; exact h, by rw [set_same hk]; exact hc, rfl⟩
      | some j =>
        obtain ⟨hj, hj1, _⟩ := List.findIdx?_eq_some_iff_getElem.1 hn
        have hxj : D[j]? = some (-1) := by rw [List.getElem?_eq_getElem hj]; simpa using hj1
        refine (dup_ok hT hF htf hx hx1 kd wh at_ fg rf hg (by omega) (by omega) hn).mono ?_
        rintro e w' ⟨rfl, hT', hF', hC'⟩
        exact ⟨_, _, D.set j x, _, rfl, h.step hk hT' hF' hC' (fun k q => .inl (FR.all_set q)), hc.dups hk hxj hx1 hg rfl, PL.len_set _ _ _⟩
theorem PL.len_del {α : Type} {L : PL α} (hn : (PL.ks L).Nodup) {x : Int} {q : Nat × α} (hg : PL.get L x = some q) : (PL.del L x).length + 1 = L.length := by
  have h1 := PL.get_in hg
  have h2 : (PL.ks (PL.del L x)).length + 1 = (PL.ks L).length := by
    rw [PL.ks_del]
    have h3 := List.length_eq_countP_add_countP (fun k => !(k == x)) (l := PL.ks L)
    rw [List.countP_eq_length_filter] at h3
    have h4 : (PL.ks L).countP (fun a => decide ¬((!(a == x)) = true)) = 1 := by
      have h5 : (fun a : Int => decide ¬((!(a == x)) = true)) = fun a => a == x := by
        funext a; by_cases h : a = x <;> simp [h]
      rw [h5]
      have h6 := List.nodup_iff_count.1 hn x
      have h7 := List.count_pos_iff.2 h1
      unfold List.count at h6 h7
      omega
    omega
  simpa [PL.ks] using h2
theorem close_all (h : LP w wr ob g m a c vr vx ts L) (hc : CI ts L) {k t : Nat} {D : List Int} (hk : ts[k]? = some (t, D)) (x2 : Int) :
    Calls Try.prog 11 #[.pointer (some ⟨t, 0, none⟩), .int .i64 x2] wr fun e w' => ∃ (v0 v1 v2 v3 v4 er : Int) (bb : Bool) (D' : List Int) (L' : PL Fl), e = .returned (.tuple #[.agg #[.int .i64 v0, .int .i64 v1, .int .i64 v2, .int .i64 v3, .int .i64 v4], .bool bb, .int .i64 er]) ∧ LP w w' ob g m a c vr vx (ts.set k (t, D')) L' ∧ CI (ts.set k (t, D')) L' ∧
      ((er = 220 ∧ L'.length = L.length) ∨ (er = 0 ∧ bb = false ∧ L'.length = L.length) ∨ (er = 0 ∧ bb = true ∧ L'.length + 1 = L.length)) := by
  obtain ⟨hT, htf⟩ := h.own.tab hk
  have hF := h.own.fr
  have hb1 : Below wr.heap.size wr (wr.alloc (.cells #[.int .i64 0, .int .i64 0, .int .i64 0, .int .i64 0, .int .i64 0] 40)) := (Below.refl _ _).alloc (Nat.le_refl _) _
  have hT1 := hT.alloc (.cells #[.int .i64 0, .int .i64 0, .int .i64 0, .int .i64 0, .int .i64 0] 40)
  by_cases hr : x2 < 0 ∨ 16 ≤ x2
  · refine (close_get x2 (tget_out hT1 x2 hr)).mono ?_
    rintro e w' ⟨rfl, hb⟩
    exact ⟨_, _, _, _, _, _, _, D, L, rfl, by rw [set_same hk]; exact h.below hb, by rw [set_same hk]; exact hc, .inl ⟨rfl, rfl⟩⟩
  · obtain ⟨i, rfl⟩ : ∃ i : Nat, x2 = (i : Int) := ⟨x2.toNat, by omega⟩
    obtain ⟨x, hx⟩ : ∃ x, D[i]? = some x := ⟨_, List.getElem?_eq_getElem (by rw [hT.len]; omega)⟩
    by_cases hx1 : x = -1
    · subst hx1
      refine (close_get _ (tget_free hT1 i hx)).mono ?_
      rintro e w' ⟨rfl, hb⟩
      exact ⟨_, _, _, _, _, _, _, D, L, rfl, by rw [set_same hk]; exact h.below hb, by rw [set_same hk]; exact hc, .inl ⟨rfl, rfl⟩⟩
    · obtain ⟨⟨b, f⟩, hg⟩ := hc.get_pos hx1 (mem_cnt hk hx)
      have hrf := hc.rf_le h hg
      obtain ⟨kd, wh, at_, fg, rf⟩ := f
      simp only at hrf
      refine (close_yes hT hF htf hx hx1 kd wh at_ fg rf hg (by omega) (by omega)).mono ?_
      rintro e w' ⟨rfl, hT', hF', hC'⟩
      refine ⟨_, _, _, _, _, _, _, D.set i (-1), _, rfl, h.step hk hT' hF' hC' (fun k q => ?_), hc.closes (f' := ⟨kd, wh, at_, fg, rf - 1⟩) hk hx hx1 hg rfl, ?_⟩
      · split at q
        · exact .inl (FR.all_del q)
        · exact .inl (FR.all_set q)
      · by_cases h1 : rf = 1
        · subst h1
          exact .inr (.inr ⟨rfl, rfl, by rw [if_pos rfl]; exact PL.len_del hF.pm.knd hg⟩)
        · exact .inr (.inl ⟨rfl, by simpa using h1, by rw [if_neg h1]; exact PL.len_set _ _ _⟩)
theorem get_any (h : LP w wr ob g m a c vr vx ts L) (hc : CI ts L) {k t : Nat} {D : List Int} (hk : ts[k]? = some (t, D)) (x2 : Int) :
    Calls Try.prog 13 #[.pointer (some ⟨t, 0, none⟩), .int .i64 x2] wr fun e w' => ∃ (v er : Int), e = .returned (.tuple #[.int .i64 v, .int .i64 er]) ∧ wr = w' ∧ (er = 220 ∨ (er = 0 ∧ ∃ q, PL.get L v = some q)) := by
  obtain ⟨hT, htf⟩ := h.own.tab hk
  by_cases hr : x2 < 0 ∨ 16 ≤ x2
  · refine (tget_out hT x2 hr).mono ?_
    rintro e w' ⟨rfl, rfl⟩
    exact ⟨_, _, rfl, rfl, .inl rfl⟩
  · obtain ⟨i, rfl⟩ : ∃ i : Nat, x2 = (i : Int) := ⟨x2.toNat, by omega⟩
    obtain ⟨x, hx⟩ : ∃ x, D[i]? = some x := ⟨_, List.getElem?_eq_getElem (by rw [hT.len]; omega)⟩
    by_cases hx1 : x = -1
    · subst hx1
      refine (tget_free hT i hx).mono ?_
      rintro e w' ⟨rfl, rfl⟩
      exact ⟨_, _, rfl, rfl, .inl rfl⟩
    · refine (tget_ok hT i x hx hx1).mono ?_
      rintro e w' ⟨rfl, rfl⟩
      exact ⟨_, _, rfl, rfl, .inr ⟨rfl, hc.get_pos hx1 (mem_cnt hk hx)⟩⟩
/-- Move of an open file. -/
theorem move_any (h : LP w wr ob g m a c vr vx ts L) (hc : CI ts L) {x : Int} {q : Nat × Fl} (hg : PL.get L x = some q) (x4 : Int) :
    Calls Try.prog 14 #[.pointer (some ⟨g, 0, none⟩), .int .i64 x, .int .i64 x4] wr fun e w' => ∃ (er : Int) (L' : PL Fl), e = .returned (.int .i64 er) ∧ LP w w' ob g m a c vr vx ts L' ∧ CI ts L' ∧ L'.length = L.length := by
  obtain ⟨b, f⟩ := q
  by_cases hn : x4 < 0
  · refine (move_neg h.own.fr hg x4 hn).mono ?_
    rintro e w' ⟨rfl, rfl⟩
    exact ⟨_, L, rfl, h, hc, rfl⟩
  · refine (move_yes h.own.fr hg x4 (by omega)).mono ?_
    rintro e w' ⟨rfl, hF, hC⟩
    exact ⟨_, _, rfl, h.files hF hC (fun k q => .inl (FR.all_set q)), hc.moves hg rfl, PL.len_set _ _ _⟩
/-- Open: none, or one more, which nobody names. -/
theorem open_any (h : LP w wr ob g m a c vr vx ts L) (x3 x4 : Int) :
    Calls Try.prog 8 #[.pointer (some ⟨g, 0, none⟩), .int .i64 x3, .int .i64 x4, .int .i64 0] wr fun e w' => ∃ (v er : Int), e = .returned (.tuple #[.int .i64 v, .int .i64 er]) ∧ ((er ≠ 0 ∧ wr = w') ∨ (er = 0 ∧ ∃ (b : Nat), PL.get L v = none ∧ v ≠ -1 ∧ LP w w' ob g m a c vr vx ts (L ++ [(v, b, ⟨x3, x4, 0, 0, 1⟩)]))) := by
  by_cases hk : x3 < 1 ∨ 4 < x3
  · refine (open_arg h.own.fr x3 x4 0 hk).mono ?_
    rintro e w' ⟨rfl, rfl⟩
    exact ⟨_, _, rfl, .inl ⟨by decide, rfl⟩⟩
  · by_cases hl : 64 ≤ L.length
    · refine (open_full h.own.fr x3 x4 0 (by omega) (by omega) hl).mono ?_
      rintro e w' ⟨rfl, rfl⟩
      exact ⟨_, _, rfl, .inl ⟨by decide, rfl⟩⟩
    · refine (open_yes h.own.fr x3 x4 0 (by omega) (by omega) (by omega)).mono ?_
      rintro e w' ⟨i, hi, hg, _, rfl, hF, hC⟩
      refine ⟨_, _, rfl, .inr ⟨rfl, wr.heap.size, hg, by omega, h.files hF (hC.mono fun k _ q => .inl q) (fun k q => ?_)⟩⟩
      rcases q with q | q | q
      · exact .inl (.inl q)
      · exact .inl (.inr (.inl q))
      · simp only [PL.bs, List.map_append, List.map_cons, List.map_nil, List.mem_append, List.mem_singleton] at q
        rcases q with q | q
        · exact .inl (.inr (.inr q))
        · exact .inr (by omega)
theorem free_pos {D : List Int} (hD : D.length = 16) (h : (16 : Int) - ((fdl D 16).length : Int) ≠ 0) : ∃ j, D.findIdx? (fun x => x == -1) = some j := by
  cases hn : D.findIdx? (fun x => x == -1) with
  | some j => exact ⟨j, rfl⟩
  | none =>
    exfalso
    apply h
    rw [List.findIdx?_eq_none_iff] at hn
    have : ∀ j, j ≤ 16 → (fdl D j).length = j := by
      intro j
      induction j with
      | zero => intro _; simp [fdl]
      | succ j ih =>
        intro hj
        obtain ⟨x, hx⟩ : ∃ x, D[j]? = some x := ⟨_, List.getElem?_eq_getElem (by omega)⟩
        have := hn x (List.mem_of_getElem? hx)
        rw [fdl_succ, if_neg (by rw [hx]; intro e; injection e with e; subst e; simp at this)]
        simp [ih (by omega)]
    rw [this 16 (Nat.le_refl _)]; rfl
/-- Install of a file that nobody names yet. -/
theorem inst_any {v x3 x4 : Int} {b : Nat} (h : LP w wr ob g m a c vr vx ts (L ++ [(v, b, ⟨x3, x4, 0, 0, 1⟩)])) (hc : CI ts L) (hg : PL.get L v = none) (hv : v ≠ -1) {k t : Nat} {D : List Int} (hk : ts[k]? = some (t, D)) (hfree : (16 : Int) - ((fdl D 16).length : Int) ≠ 0) :
    Calls Try.prog 9 #[.pointer (some ⟨t, 0, none⟩), .int .i64 v] wr fun e w' => ∃ (f : Int) (D' : List Int), e = .returned (.tuple #[.int .i64 f, .int .i64 0]) ∧ LP w w' ob g m a c vr vx (ts.set k (t, D')) (L ++ [(v, b, ⟨x3, x4, 0, 0, 1⟩)]) ∧ CI (ts.set k (t, D')) (L ++ [(v, b, ⟨x3, x4, 0, 0, 1⟩)]) := by
  obtain ⟨hT, htf⟩ := h.own.tab hk
  have hF := h.own.fr
  obtain ⟨j, hj⟩ := free_pos hT.len hfree
  obtain ⟨hj1, hj2, _⟩ := List.findIdx?_eq_some_iff_getElem.1 hj
  have hxj : D[j]? = some (-1) := by rw [List.getElem?_eq_getElem hj1]; simpa using hj2
  have hg2 : PL.get (L ++ [(v, b, (⟨x3, x4, 0, 0, 1⟩ : Fl))]) v = some (b, ⟨x3, x4, 0, 0, 1⟩) := by rw [PL.get_app L v b _ hg, if_pos rfl]
  refine (inst_ok hT hF hg2 hj).mono ?_
  rintro e w' ⟨rfl, hT', hC'⟩
  exact ⟨_, _, rfl, h.step hk hT' (hF.ch hC' (fun k q e => htf (e ▸ q))) (hC'.mono fun k _ q => .inl q) (fun k q => .inl q), hc.opens hk hxj hv hg b _ rfl⟩
/-- Fork, and what it gave put behind the others. -/
theorem fork_any (h : LP w wr ob g m a c vr vx ts L) (hc : CI ts L) {k t : Nat} {D : List Int} (hk : ts[k]? = some (t, D)) :
    Calls Try.prog 12 #[.pointer (some ⟨t, 0, none⟩)] wr fun e w' => ∃ (t' : Nat) (L' : PL Fl), e = .returned (.tuple #[.pointer (some ⟨t', 0, none⟩), .int .i64 0]) ∧ LP w w' ob g m a c vr vx ts L' ∧ CI (ts ++ [(t', D)]) L' ∧ L'.length = L.length ∧ TR w' t' g D ∧ ¬ WR.all ob g m a ts L' t' ∧ w.heap.size ≤ t' := by
  obtain ⟨hT, htf⟩ := h.own.tab hk
  have hF := h.own.fr
  refine (fork_ok hT hF htf (fun x q hq => ?_)).mono ?_
  · have := hc.rf_le h hq; omega
  · rintro e w' ⟨rfl, hT', hT2, hF', hC'⟩
    have h' := h.files hF' hC' (fun k q => .inl (bumps_all.1 q))
    refine ⟨_, _, rfl, h', hc.forks hk _, bumps_len D L, hT', fun q => ?_, h.bel.size⟩
    have : WR.all ob g m a ts L wr.heap.size := by
      rcases q with q | q | q | q
      · exact .inl q
      · exact .inr (.inl q)
      · exact .inr (.inr (.inl (bumps_all.1 q)))
      · exact .inr (.inr (.inr q))
    exact Nat.lt_irrefl _ (h.own.lt this)
end
end Go.Proofs.Ythbbiobffoihaaa
