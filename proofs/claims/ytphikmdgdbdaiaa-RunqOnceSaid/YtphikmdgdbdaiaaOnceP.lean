import Derived.Test.YtphikmdgdbdaiaaFinds
/- RunqOnce: the plain part. -/
namespace Go.Proofs.Ytphikmdgdbdaiaa
open Go.RowKit Go.BigFrame
set_option linter.unusedVariables false
set_option linter.unusedSimpArgs false
attribute [local go_sem] szIs_lit row_at row_past row_alloc nf_alloc row_set nf_set row_cell nf_cell row_drew nf_drew row_drewN nf_drewN cell_setRow frozen_setRow nlt1 nlt2 nlt3 nlt4 nne1 nne2 nne3 nen1 nen2 nen3
/-- Who is there. -/
def isIn (S : QS) (x : Int) : Bool := (S.M.get x).isSome
def th (S : QS) : List Int := (List.range 65).map fun t => if isIn S ((t : Nat) : Int) then 1 else 0
theorem th_len (S : QS) : (th S).length = 65 := by simp [th]
theorem th_at (S : QS) {t : Nat} (h : t < 65) : (th S)[t]? = some (if isIn S (t : Int) then 1 else 0) := by simp [th, h]
theorem th_set {S S' : QS} {t : Nat} {v : Int} (h : t < 65) (h1 : ∀ x : Nat, x < 65 → x ≠ t → isIn S' x = isIn S x) (h2 : v = if isIn S' (t : Int) then 1 else 0) : (th S).set t v = th S' := by
  apply List.ext_getElem?
  intro j
  rw [List.getElem?_set]
  by_cases hj : j < 65
  · rw [th_at S' hj]
    by_cases e : t = j
    · subst e; rw [if_pos rfl, if_pos (by rw [th_len]; exact h), h2]
    · rw [if_neg e, th_at S hj, h1 j hj (Ne.symm e)]
  · rw [List.getElem?_eq_none (l := th S') (by rw [th_len]; omega)]
    rw [if_neg (by omega), List.getElem?_eq_none (by rw [th_len]; omega)]
theorem th_same {S S' : QS} (h : ∀ x : Int, isIn S' x = isIn S x) : th S' = th S := by unfold th; simp only [h]
theorem isIn_ge {S : QS} (W : QW S) {x : Int} (h : isIn S x = true) : 1 ≤ x := by
  unfold isIn at h
  obtain ⟨v, hv⟩ := Option.isSome_iff_exists.1 h
  obtain ⟨k, _, _, hk⟩ := (W.key x v).1 hv
  exact (W.mem hk).2.1
theorem putF_in (S : QS) (W : QW S) (h t : Int) : ((putF S h t).1 = 0 → isIn S t = false ∧ 1 ≤ t ∧ ∀ x, isIn (putF S h t).2 x = (decide (x = t) || isIn S x)) ∧ ((putF S h t).1 ≠ 0 → (putF S h t).2 = S) := by
  unfold putF
  split
  · exact ⟨(fun q => by cases q), (fun _ => rfl)⟩
  · rename_i h1
    split
    · exact ⟨(fun q => by cases q), (fun _ => rfl)⟩
    · rename_i h2
      split
      · exact ⟨(fun q => by cases q), (fun _ => rfl)⟩
      · refine ⟨fun _ => ⟨by unfold isIn; simpa using h2, by simp only [not_or] at h1; omega, fun x => ?_⟩, fun q => absurd rfl q⟩
        show ((S.M.put t _).get x).isSome = _
        rw [IM.get_put]
        by_cases e : x = t
        · rw [if_pos e]; simp [e]
        · rw [if_neg e]; simp [e, isIn]
theorem nextF_in (S : QS) (W : QW S) (h : Int) (x : Int) : isIn (nextF S h).2 x = isIn S x := by
  unfold nextF
  split
  · rfl
  · rename_i h1
    have hin : inH S h := by simp only [not_or, Classical.not_not] at h1; exact h1.1
    obtain ⟨k, rfl, hk⟩ := inH_nat hin
    have hkt : ((k : Int)).toNat = k := by omega
    rw [hkt]
    split
    · rename_i y r hq
      show ((S.M.put y _).get x).isSome = _
      rw [IM.get_put]
      by_cases e : x = y
      · rw [if_pos e]
        have : y ∈ hs S k := by unfold hs; rw [hq]; simp
        unfold isIn; rw [e, (W.mem this).2.2]; try rfl
      · rw [if_neg e]; rfl
    · split
      · rfl
      · rename_i t hb
        show ((S.M.put t _).get x).isSome = _
        rw [IM.get_put]
        by_cases e : x = t
        · rw [if_pos e]
          have : t ∈ hs S (lng S S.n) := by unfold hs; exact List.mem_append_right _ (List.mem_of_getLast? hb)
          unfold isIn; rw [e, (W.mem this).2.2]; try rfl
        · rw [if_neg e]; rfl
theorem tickF_in (S : QS) (h : Int) (x : Int) : isIn (tickF S h).2 x = isIn S x := by unfold tickF; split <;> rfl
theorem sleepF_in (S : QS) (W : QW S) (h : Int) : ((sleepF S h).1.2 = 0 → isIn S (sleepF S h).1.1 = true ∧ ∀ x, isIn (sleepF S h).2 x = (!decide (x = (sleepF S h).1.1) && isIn S x)) ∧ ((sleepF S h).1.2 ≠ 0 → (sleepF S h).2 = S) := by
  unfold sleepF
  split
  · exact ⟨(fun q => by cases q), (fun _ => rfl)⟩
  · rename_i h1
    have hin : inH S h := by simp only [not_or, Classical.not_not] at h1; exact h1.1
    obtain ⟨k, rfl, hk⟩ := inH_nat hin
    have hkt : ((k : Int)).toNat = k := by omega
    rw [hkt] at h1 ⊢
    have hr : 0 < S.R k := by simp only [not_or] at h1; have := W.r0 k; omega
    have hm : S.R k ∈ hs S k := by unfold hs; rw [if_pos hr]; simp
    refine ⟨fun _ => ⟨by unfold isIn; rw [(W.mem hm).2.2]; rfl, fun x => ?_⟩, fun q => absurd rfl q⟩
    show ((S.M.del (S.R k)).get x).isSome = _
    rw [IM.get_del]
    by_cases e : x = S.R k
    · rw [if_pos e]; simp [e]
    · rw [if_neg e]; simp [e, isIn]
theorem removeF_in (S : QS) (W : QW S) (t : Int) : (removeF S t).1 = isIn S t ∧ ∀ x, isIn (removeF S t).2 x = (!decide (x = t) && isIn S x) := by
  unfold removeF
  cases hg : S.M.get t with
  | none =>
    refine ⟨by unfold isIn; rw [hg]; rfl, fun x => ?_⟩
    by_cases e : x = t
    · subst e; unfold isIn; rw [hg]; simp
    · simp [e]
  | some v =>
    obtain ⟨h, h1, rfl, h3⟩ := (W.key t v).1 hg
    refine ⟨by unfold isIn; rw [hg]; rfl, fun x => ?_⟩
    have hM : (removeS S h t).M = S.M.del t := by unfold removeS; split <;> rfl
    show ((removeS S ((h : Int)).toNat t).M.get x).isSome = _
    rw [show ((h : Int)).toNat = h by omega, hM, IM.get_del]
    by_cases e : x = t
    · rw [if_pos e]; simp [e]
    · rw [if_neg e]; simp [e, isIn]
/-- No thread above 63. -/
def Lim (S : QS) : Prop := ∀ x, isIn S x = true → x ≤ 63
/-! Found -/
def fnd (l : List Int) : List Int := (List.range 65).map fun t => ((l.count ((t : Nat) : Int) : Nat) : Int)
theorem fnd_len (l : List Int) : (fnd l).length = 65 := by simp [fnd]
theorem fnd_at (l : List Int) {t : Nat} (h : t < 65) : (fnd l)[t]? = some ((l.count (t : Int) : Nat) : Int) := by simp [fnd, h]
theorem fnd_add (l : List Int) {t : Nat} (h : t < 65) : (fnd l).set t (((l.count (t : Int) : Nat) : Int) + 1) = fnd (l ++ [(t : Int)]) := by
  apply List.ext_getElem?
  intro j
  rw [List.getElem?_set]
  by_cases hj : j < 65
  · rw [fnd_at (l ++ [(t : Int)]) hj, List.count_append]
    by_cases e : t = j
    · subst e; rw [if_pos rfl, if_pos (by rw [fnd_len]; exact h)]; simp
    · have : ¬ (t : Int) = (j : Int) := by omega
      rw [if_neg e, fnd_at _ hj, List.count_cons_of_ne this]; simp
  · rw [if_neg (by omega), List.getElem?_eq_none (by rw [fnd_len]; omega), List.getElem?_eq_none (by rw [fnd_len]; omega)]
theorem fnd_nil : fnd [] = List.replicate 65 0 := by decide +kernel
def allT (S : QS) : Nat → List Int
  | 0 => []
  | k + 1 => allT S k ++ hs S k
theorem allT_mem (S : QS) (t : Int) : ∀ k, t ∈ allT S k ↔ ∃ h, h < k ∧ t ∈ hs S h
  | 0 => by simp [allT]
  | k + 1 => by
    unfold allT
    rw [List.mem_append, allT_mem S t k]
    constructor
    · rintro (⟨h, h1, h2⟩ | h)
      · exact ⟨h, by omega, h2⟩
      · exact ⟨k, by omega, h⟩
    · rintro ⟨h, h1, h2⟩
      by_cases e : h = k
      · subst e; exact .inr h2
      · exact .inl ⟨h, by omega, h2⟩
theorem allT_nodup {S : QS} (W : QW S) : ∀ k, (allT S k).Nodup
  | 0 => List.nodup_nil
  | k + 1 => by
    unfold allT
    exact List.nodup_append.2 ⟨allT_nodup W k, W.nd k, fun a ha b hb e => by
      subst e
      obtain ⟨h, h1, h2⟩ := (allT_mem S a k).1 ha
      have := W.one h2 hb; omega⟩
theorem allT_le {S : QS} (W : QW S) : ∀ k, (allT S k).length = sumTo (fun h => (hs S h).length) k
  | 0 => rfl
  | k + 1 => by unfold allT sumTo; rw [List.length_append, allT_le W k]
theorem fnd_th {S : QS} (W : QW S) : fnd (allT S S.n) = th S := by
  unfold fnd th
  apply List.map_congr_left
  intro t _
  have hm : ((t : Nat) : Int) ∈ allT S S.n ↔ isIn S (t : Int) = true := by
    rw [allT_mem]
    unfold isIn
    rw [Option.isSome_iff_exists]
    constructor
    · rintro ⟨h, h1, h2⟩; exact ⟨_, (W.mem h2).2.2⟩
    · rintro ⟨v, hv⟩; obtain ⟨h, h1, _, h3⟩ := (W.key _ v).1 hv; exact ⟨h, h1, h3⟩
  by_cases h : ((t : Nat) : Int) ∈ allT S S.n
  · rw [if_pos (hm.1 h), (allT_nodup W _).count, if_pos h]; rfl
  · rw [if_neg (fun q => h (hm.2 q)), List.count_eq_zero_of_not_mem h]; rfl
theorem count_le {S : QS} (W : QW S) (l : List Int) (k : Nat) (hk : l.length ≤ 1000) (t : Int) : (l.count t) ≤ 1000 := Nat.le_trans List.count_le_length hk
end Go.Proofs.Ytphikmdgdbdaiaa
