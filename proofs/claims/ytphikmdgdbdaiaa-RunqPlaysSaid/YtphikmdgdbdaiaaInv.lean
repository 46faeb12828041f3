import Derived.Test.YtphikmdgdbdaiaaRemove
/- What holds of queues, whatever came. -/
namespace Go.Proofs.Ytphikmdgdbdaiaa
open Go.RowKit
set_option linter.unusedVariables false
set_option linter.unusedSimpArgs false
theorem IM.get_none_iff (M : IM) (x : Int) : M.get x = none ↔ x ∉ M.map (·.1) := by
  unfold IM.get
  rw [Option.map_eq_none_iff, List.find?_eq_none]
  constructor
  · intro h hm
    obtain ⟨p, hp, rfl⟩ := List.mem_map.1 hm
    exact h p hp (by simp)
  · intro h p hp e
    exact h (by rw [← show p.1 = x by simpa using e]; exact List.mem_map_of_mem hp)
theorem IM.keys_put (M : IM) (x : Int) (v : Value) : (M.put x v).map (·.1) = if (M.get x).isSome then M.map (·.1) else M.map (·.1) ++ [x] := by
  induction M with
  | nil => simp [IM.put, IM.get]
  | cons p M ih =>
    unfold IM.put
    unfold IM.get at ih ⊢
    by_cases hp : (p.1 == x) = true
    · have : p.1 = x := by simpa using hp
      simp [hp, this]
    · rw [if_neg hp]
      simp only [List.map_cons, List.find?_cons, hp]
      rw [ih]
      split <;> simp_all
theorem IM.nodup_put {M : IM} (h : (M.map (·.1)).Nodup) (x : Int) (v : Value) : ((M.put x v).map (·.1)).Nodup := by
  rw [IM.keys_put]
  split
  · exact h
  · rename_i hx
    have hx' : M.get x = none := by simpa using hx
    exact List.nodup_append.2 ⟨h, by simp, fun a ha b hb e => by
      rw [List.mem_singleton] at hb
      rw [hb] at e
      exact (IM.get_none_iff M x).1 hx' (e ▸ ha)⟩
theorem IM.nodup_del {M : IM} (h : (M.map (·.1)).Nodup) (x : Int) : ((M.del x).map (·.1)).Nodup := by
  unfold IM.del
  exact List.Nodup.sublist (List.Sublist.map _ List.filter_sublist) h
theorem IM.length_del {M : IM} (h : (M.map (·.1)).Nodup) (x : Int) : (M.del x).length + (if (M.get x).isSome then 1 else 0) = M.length := by
  induction M with
  | nil => simp [IM.del, IM.get]
  | cons p M ih =>
    have h2 := List.nodup_cons.1 h
    have ih := ih h2.2
    unfold IM.del IM.get at ih ⊢
    by_cases hp : (p.1 == x) = true
    · have hpx : p.1 = x := by simpa using hp
      have hno : (M.find? fun p => p.1 == x) = none := by
        rw [List.find?_eq_none]
        intro q hq e
        have : q.1 = x := by simpa using e
        exact h2.1 (by show p.1 ∈ M.map (·.1); rw [hpx, ← this]; exact List.mem_map_of_mem hq)
      rw [hno] at ih
      simp only [List.find?_cons, hp, List.filter_cons, Bool.not_true, Bool.false_eq_true, if_false] at ih ⊢
      simpa using ih
    · have h9 : (p.1 == x) = false := by simpa using hp
      simp only [List.find?_cons, h9, List.filter_cons, Bool.not_false, if_true, List.length_cons]
      omega
/-- Those of a hart: what it runs, its queue. -/
def hs (S : QS) (h : Nat) : List Int := (if 0 < S.R h then [S.R h] else []) ++ S.Q h
def sumTo (f : Nat → Nat) : Nat → Nat
  | 0 => 0
  | k + 1 => sumTo f k + f k
def tot (S : QS) : Nat := sumTo (fun h => (hs S h).length) S.n
theorem sumTo_congr {f g : Nat → Nat} : ∀ n, (∀ k, k < n → f k = g k) → sumTo f n = sumTo g n
  | 0, _ => rfl
  | n + 1, h => by unfold sumTo; rw [sumTo_congr n (fun k hk => h k (by omega)), h n (by omega)]
theorem sumTo_upd {f g : Nat → Nat} {i : Nat} : ∀ n, i < n → (∀ k, k < n → k ≠ i → f k = g k) → sumTo f n + g i = sumTo g n + f i
  | 0, h, _ => by omega
  | n + 1, h, hk => by
    unfold sumTo
    by_cases e : i = n
    · subst e
      rw [sumTo_congr i (fun k h1 => hk k (by omega) (by omega))]; omega
    · have := sumTo_upd n (by omega) (fun k h1 h2 => hk k (by omega) h2)
      rw [hk n (by omega) (Ne.symm e)]; omega
theorem sumTo_le (f : Nat → Nat) {i : Nat} : ∀ n, i < n → f i ≤ sumTo f n
  | 0, h => by omega
  | n + 1, h => by
    unfold sumTo
    by_cases e : i = n
    · subst e; omega
    · have := sumTo_le f n (i := i) (by omega); omega
structure QW (S : QS) : Prop where
  n1 : 1 ≤ S.n
  n8 : S.n ≤ 8
  r0 : ∀ h, 0 ≤ S.R h
  pos : ∀ h t, t ∈ S.Q h → 1 ≤ t
  out : ∀ h, S.n ≤ h → S.R h = 0 ∧ S.Q h = []
  key : ∀ t v, S.M.get t = some v ↔ ∃ h, h < S.n ∧ v = .int .i64 (h : Int) ∧ t ∈ hs S h
  nd : ∀ h, (hs S h).Nodup
  mnd : (S.M.map (·.1)).Nodup
  len : S.M.length = tot S
  cap : S.M.length ≤ 64
theorem QW.start {n : Nat} (h1 : 1 ≤ n) (h2 : n ≤ 8) : QW (S0 n) := by
  refine ⟨h1, h2, fun h => by simp [S0], fun h t ht => by simp [S0] at ht, fun h _ => ⟨rfl, rfl⟩, fun t v => ?_, fun h => by simp [hs, S0], by simp [S0], ?_, by simp [S0]⟩
  · constructor
    · intro h; cases h
    · rintro ⟨h, _, _, h4⟩; simp [hs, S0] at h4
  · have : ∀ k, sumTo (fun h => (hs (S0 n) h).length) k = 0 := by
      intro k
      induction k with
      | zero => rfl
      | succ k ih => unfold sumTo; rw [ih]; simp [hs, S0]
    unfold tot; rw [this]; rfl
section
variable {S : QS}
theorem QW.hlen (W : QW S) (h : Nat) : (hs S h).length ≤ 64 := by
  by_cases hh : h < S.n
  · have h1 := sumTo_le (fun h => (hs S h).length) S.n hh
    have h2 := W.len
    have h3 := W.cap
    unfold tot at h2
    have h4 : (hs S h).length ≤ sumTo (fun h => (hs S h).length) S.n := h1
    omega
  · have := W.out h (by omega)
    unfold hs; rw [this.1, this.2]; simp
theorem QW.qlen (W : QW S) (h : Nat) : (S.Q h).length ≤ 64 := by
  have := W.hlen h
  unfold hs at this
  rw [List.length_append] at this; omega
theorem QW.qlen' (W : QW S) : ∀ h, h < 8 → (S.Q h).length ≤ 1000 := fun h _ => by have := W.qlen h; omega
/-- The same threads at each hart: the same law. -/
theorem QW.move (W : QW S) {S' : QS} (hn : S'.n = S.n) (hr : ∀ h, 0 ≤ S'.R h) (hp : ∀ h t, t ∈ S'.Q h → 1 ≤ t) (ho : ∀ h, S.n ≤ h → S'.R h = 0 ∧ S'.Q h = []) (hk : ∀ t, S'.M.get t = S.M.get t) (hm : (S'.M.map (·.1)).Nodup) (hl : S'.M.length = S.M.length)
    (hh : ∀ h, (hs S' h).Perm (hs S h)) : QW S' := by
  refine ⟨by rw [hn]; exact W.n1, by rw [hn]; exact W.n8, hr, hp, by rw [hn]; exact ho, fun t v => ?_, fun h => (hh h).nodup_iff.2 (W.nd h), hm, ?_, by rw [hl]; exact W.cap⟩
  · rw [hk, W.key, hn]
    constructor
    · rintro ⟨h, h1, h2, h3⟩; exact ⟨h, h1, h2, (hh h).mem_iff.2 h3⟩
    · rintro ⟨h, h1, h2, h3⟩; exact ⟨h, h1, h2, (hh h).mem_iff.1 h3⟩
  · rw [hl, W.len]
    unfold tot
    rw [hn]
    exact sumTo_congr _ fun k _ => (hh k).length_eq.symm
theorem QW.mem (W : QW S) {t : Int} {h : Nat} (ht : t ∈ hs S h) : h < S.n ∧ 1 ≤ t ∧ S.M.get t = some (.int .i64 (h : Int)) := by
  have hh : h < S.n := by
    rcases Nat.lt_or_ge h S.n with h1 | h1
    · exact h1
    · have := W.out h h1
      unfold hs at ht; rw [this.1, this.2] at ht; simp at ht
  refine ⟨hh, ?_, (W.key t _).2 ⟨h, hh, rfl, ht⟩⟩
  unfold hs at ht
  rcases List.mem_append.1 ht with h1 | h1
  · split at h1
    · rw [List.mem_singleton] at h1; omega
    · cases h1
  · exact W.pos h t h1
/-- A thread is at one hart alone. -/
theorem QW.one (W : QW S) {t : Int} {h k : Nat} (h1 : t ∈ hs S h) (h2 : t ∈ hs S k) : h = k := by
  have e1 := (W.mem h1).2.2
  rw [(W.mem h2).2.2] at e1
  injection e1 with e1; injection e1 with _ e1; omega
theorem hs_setM (S : QS) (M : IM) (h : Nat) : hs (S.setM M) h = hs S h := rfl
theorem hs_setQ (S : QS) (i : Nat) (l : List Int) (h : Nat) : hs (S.setQ i l) h = if h = i then (if 0 < S.R h then [S.R h] else []) ++ l else hs S h := by
  unfold hs QS.setQ
  by_cases e : h = i <;> simp [e]
theorem hs_setR (S : QS) (i : Nat) (v : Int) (h : Nat) : hs (S.setR i v) h = if h = i then (if 0 < v then [v] else []) ++ S.Q h else hs S h := by
  unfold hs QS.setR
  by_cases e : h = i <;> simp [e]
/-- One more thread at a hart. -/
theorem QW.put (W : QW S) {h : Nat} (hh : h < S.n) {t : Int} (ht : 1 ≤ t) (hv : S.M.get t = none) (hf : S.M.length < 64) : QW ((S.setQ h (S.Q h ++ [t])).setM (S.M.put t (.int .i64 h))) := by
  have hno : ∀ k, t ∉ hs S k := fun k hk => by rw [(W.mem hk).2.2] at hv; cases hv
  have hsk : ∀ k, hs ((S.setQ h (S.Q h ++ [t])).setM (S.M.put t (.int .i64 h))) k = if k = h then hs S k ++ [t] else hs S k := fun k => by
    rw [hs_setM, hs_setQ]
    by_cases e : k = h
    · subst e; simp [hs]
    · simp [e]
  refine ⟨W.n1, W.n8, W.r0, fun k x hx => ?_, fun k hk => ?_, fun x v => ?_, fun k => ?_, IM.nodup_put W.mnd _ _, ?_, ?_⟩
  · simp only [QS.setM, QS.setQ] at hx
    split at hx
    · rcases List.mem_append.1 hx with h1 | h1
      · exact W.pos _ _ h1
      · rw [List.mem_singleton] at h1; omega
    · exact W.pos _ _ hx
  · have : ¬ k = h := by simp [QS.setM, QS.setQ] at hk; omega
    simp only [QS.setM, QS.setQ, if_neg this]
    exact W.out k hk
  · show (S.M.put t _).get x = some v ↔ ∃ k, k < S.n ∧ v = .int .i64 (k : Int) ∧ x ∈ hs _ k
    rw [IM.get_put]
    by_cases e : x = t
    · subst e
      rw [if_pos rfl]
      constructor
      · intro h1; injection h1 with h1
        exact ⟨h, hh, h1.symm, by rw [hsk, if_pos rfl]; simp⟩
      · rintro ⟨k, h1, h2, h3⟩
        rw [hsk] at h3
        by_cases e2 : k = h
        · rw [h2, e2]
        · rw [if_neg e2] at h3; exact absurd h3 (hno k)
    · rw [if_neg e, W.key]
      have hiff : ∀ k, x ∈ hs ((S.setQ h (S.Q h ++ [t])).setM (S.M.put t (.int .i64 h))) k ↔ x ∈ hs S k := fun k => by
        rw [hsk]; split
        · simp [e]
        · rfl
      constructor
      · rintro ⟨k, h1, h2, h3⟩; exact ⟨k, h1, h2, (hiff k).2 h3⟩
      · rintro ⟨k, h1, h2, h3⟩; exact ⟨k, h1, h2, (hiff k).1 h3⟩
  · rw [hsk]
    split
    · exact List.nodup_append.2 ⟨W.nd k, by simp, fun a ha b hb e => by
        rw [List.mem_singleton] at hb
        exact hno k (by rw [← hb, ← e]; exact ha)⟩
    · exact W.nd k
  · show (S.M.put t _).length = tot _
    rw [IM.length_put, hv]
    simp only [Option.isSome_none, Bool.false_eq_true, if_false]
    have := sumTo_upd (f := fun k => (hs ((S.setQ h (S.Q h ++ [t])).setM (S.M.put t (.int .i64 h))) k).length) (g := fun k => (hs S k).length) S.n hh (fun k _ hk => by simp only [hsk, if_neg hk])
    simp only [hsk, if_pos] at this
    rw [List.length_append, List.length_singleton] at this
    have hl := W.len
    unfold tot at hl ⊢
    show _ = sumTo (fun k => (hs ((S.setQ h (S.Q h ++ [t])).setM (S.M.put t (.int .i64 h))) k).length) S.n
    simp only [hsk]
    omega
  · show (S.M.put t _).length ≤ 64
    rw [IM.length_put, hv]; simp; omega
/-- A thread is gone from a hart. -/
theorem QW.drop (W : QW S) {S' : QS} {h : Nat} (hh : h < S.n) {t : Int} (ht : t ∈ hs S h) (hn : S'.n = S.n) (hr : ∀ h, 0 ≤ S'.R h) (hp : ∀ h t, t ∈ S'.Q h → 1 ≤ t) (ho : ∀ h, S.n ≤ h → S'.R h = 0 ∧ S'.Q h = []) (hM : S'.M = S.M.del t)
    (h1 : ∀ k, k ≠ h → hs S' k = hs S k) (h2 : (t :: hs S' h).Perm (hs S h)) : QW S' := by
  have hnd := (h2.nodup_iff.2 (W.nd h))
  have hnd2 := List.nodup_cons.1 hnd
  have hg := (W.mem ht).2.2
  refine ⟨by rw [hn]; exact W.n1, by rw [hn]; exact W.n8, hr, hp, by rw [hn]; exact ho, fun x v => ?_, fun k => ?_, by rw [hM]; exact IM.nodup_del W.mnd _, ?_, ?_⟩
  · rw [hM, IM.get_del, hn]
    by_cases e : x = t
    · subst e
      rw [if_pos rfl]
      constructor
      · intro h; cases h
      · rintro ⟨k, q1, q2, q3⟩
        exfalso
        by_cases e2 : k = h
        · subst e2; exact hnd2.1 q3
        · rw [h1 k e2] at q3
          exact e2 (W.one q3 ht)
    · rw [if_neg e, W.key]
      have hiff : ∀ k, x ∈ hs S' k ↔ x ∈ hs S k := fun k => by
        by_cases e2 : k = h
        · subst e2
          rw [← h2.mem_iff, List.mem_cons]
          simp [e]
        · rw [h1 k e2]
      constructor
      · rintro ⟨k, q1, q2, q3⟩; exact ⟨k, q1, q2, (hiff k).2 q3⟩
      · rintro ⟨k, q1, q2, q3⟩; exact ⟨k, q1, q2, (hiff k).1 q3⟩
  · by_cases e2 : k = h
    · subst e2; exact hnd2.2
    · rw [h1 k e2]; exact W.nd k
  · have hl := IM.length_del W.mnd t
    rw [hg] at hl
    simp only [Option.isSome_some, if_true] at hl
    have h3 := sumTo_upd (f := fun k => (hs S' k).length) (g := fun k => (hs S k).length) S.n hh (fun k _ hk => by simp only [h1 k hk])
    have h4 := h2.length_eq
    simp only [List.length_cons] at h4 h3
    have h5 := W.len
    rw [hM]
    unfold tot at h5 ⊢
    rw [hn]
    omega
  · have hl := IM.length_del W.mnd t
    have := W.cap
    rw [hM]; omega
end
end Go.Proofs.Ytphikmdgdbdaiaa
