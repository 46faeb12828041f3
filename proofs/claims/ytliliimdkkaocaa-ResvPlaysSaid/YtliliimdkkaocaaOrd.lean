import Derived.Test.YtliliimdkkaocaaBack
/- Those inside, then those that wait. -/
namespace Go.Proofs.Ytliliimdkkaocaa
open Go.RowKit
set_option linter.unusedVariables false
set_option linter.unusedSimpArgs false
def In (P : List Seat) : Prop := ∀ s ∈ P, s.w = false
def Wt (W : List Seat) : Prop := ∀ s ∈ W, s.w = true
theorem res_wt : ∀ (W : List Seat), Wt W → res W = 0
  | [], _ => rfl
  | s :: r, h => by
    rw [res, res_wt r (fun x hx => h x (by simp [hx])), if_pos (h s (by simp))]
    rfl
theorem adm_app : ∀ (P W : List Seat) (f : Int), In P → adm f (P ++ W) = (P ++ (adm f W).1, (adm f W).2)
  | [], W, f, h => by simp
  | s :: r, W, f, h => by
    rw [List.cons_append, adm_in f s (r ++ W) (h s (by simp)), adm_app r W f (fun x hx => h x (by simp [hx]))]
    rfl
/-- The waiting are let in up to the first that does not fit. -/
theorem adm_wt : ∀ (W : List Seat) (f : Int), Wt W → ∃ P' W', (adm f W).1 = P' ++ W' ∧ In P' ∧ Wt W' ∧ ∀ s r, W' = s :: r → f - res P' < s.b
  | [], f, h => ⟨[], [], rfl, by simp [In], by simp [Wt], by simp⟩
  | s :: r, f, h => by
    have hw := h s (by simp)
    have hr : Wt r := fun x hx => h x (by simp [hx])
    by_cases hfit : f < s.b
    · rw [adm_stop f s r hw hfit]
      refine ⟨[], s :: r, rfl, by simp [In], h, fun x y e => ?_⟩
      injection e with e _
      subst e
      simp [res]; exact hfit
    · rw [adm_let f s r hw hfit]
      obtain ⟨P', W', e, h1, h2, h3⟩ := adm_wt r (f - s.b) hr
      refine ⟨{ s with w := false } :: P', W', by simp [e], fun x hx => ?_, h2, fun x y ee => ?_⟩
      · rcases List.mem_cons.1 hx with rfl | hx
        · rfl
        · exact h1 x hx
      · have := h3 x y ee
        simp only [res]
        simp
        omega
/-- Nobody that waits would fit. -/
def Ord (n : Int) (L : List Seat) : Prop := ∃ P W, L = P ++ W ∧ In P ∧ Wt W ∧ ∀ s r, W = s :: r → n - res L < s.b
theorem ord_admit (n : Int) (P W : List Seat) (hP : In P) (hW : Wt W) : Ord n (admit n 0 (P ++ W)).1 := by
  unfold admit
  rw [adm_app P W _ hP]
  obtain ⟨P', W', e, h1, h2, h3⟩ := adm_wt W (n - 0 - res (P ++ W)) hW
  simp only [e]
  refine ⟨P ++ P', W', by rw [List.append_assoc], fun s hs => ?_, h2, fun s r es => ?_⟩
  · rcases List.mem_append.1 hs with hs | hs
    · exact hP s hs
    · exact h1 s hs
  · have := h3 s r es
    rw [res_app, res_wt W hW] at this
    rw [← List.append_assoc, res_app, res_app, res_wt W' h2]
    omega
theorem ord_tail (n : Int) (s : Seat) (r : List Seat) (h : Ord n (s :: r)) (hs : s.w = false) : Ord n (admit n 0 r).1 := by
  obtain ⟨P, W, e, hP, hW, _⟩ := h
  cases P with
  | nil =>
    simp at e
    have := hW s (by rw [← e]; simp)
    rw [hs] at this; cases this
  | cons x P' =>
    simp at e
    rw [e.2]
    exact ord_admit n P' W (fun y hy => hP y (by simp [hy])) hW
theorem ord_head (n : Int) (s : Seat) (r : List Seat) (h : Ord n (s :: r)) (hb : s.b ≤ n) : s.w = false := by
  obtain ⟨P, W, e, hP, hW, h3⟩ := h
  cases P with
  | nil =>
    simp at e
    have h4 := h3 s r e.symm
    rw [e, res_wt W hW] at h4
    omega
  | cons x P' =>
    simp at e
    exact hP s (by rw [e.1]; simp)
/-- Who waits. -/
def OrdW (n : Int) (L : List Seat) (waits : Bool) : Prop := ∃ P W, L = P ++ W ∧ In P ∧ Wt W ∧ (∀ s r, W = s :: r → n - res L < s.b) ∧ waits = !W.isEmpty
theorem OrdW.ord {n : Int} {L : List Seat} {b : Bool} (h : OrdW n L b) : Ord n L := by
  obtain ⟨P, W, e, h1, h2, h3, _⟩ := h
  exact ⟨P, W, e, h1, h2, h3⟩
theorem findI_no : ∀ (L : List Seat) (id : Int), id ∉ ids L → findI L id < 0
  | [], id, _ => by simp [findI]
  | s :: r, id, h => by
    simp only [ids, List.map_cons, List.mem_cons, not_or] at h
    unfold findI
    rw [if_neg (fun e => h.1 e.symm), if_pos (findI_no r id h.2)]
    omega
theorem ent_ids (n live : Int) (L : List Seat) (id m : Int) (h1 : ¬ m < 0) (h2 : findI L id < 0) (h3 : ¬ n < m) (h4 : ¬ 64 ≤ L.length) : ids (ent n live L id m).2.2 = ids L ++ [id] := by
  unfold ent
  rw [if_neg h1, if_neg (by omega), if_neg h3, if_neg h4]
  show ids (adm _ _).1 = _
  rw [adm_ids]
  simp [ids]
theorem ent_code (n live : Int) (L : List Seat) (id m : Int) (h1 : ¬ m < 0) (h2 : findI L id < 0) (h3 : ¬ n < m) (h4 : ¬ 64 ≤ L.length) : (ent n live L id m).2.1 = 0 := by
  unfold ent
  rw [if_neg h1, if_neg (by omega), if_neg h3, if_neg h4]
theorem ent_ord (n : Int) (L : List Seat) (waits : Bool) (h : OrdW n L waits) (id m : Int) (h1 : ¬ m < 0) (h2 : findI L id < 0) (h3 : ¬ n < m) (h4 : ¬ 64 ≤ L.length) :
    ((ent n 0 L id m).1 && waits) = false ∧ OrdW n (ent n 0 L id m).2.2 (waits || !(ent n 0 L id m).1) := by
  obtain ⟨P, W, e, hP, hW, hst, hw⟩ := h
  have he : ent n 0 L id m = (decide (0 < (admit n 0 (L ++ [⟨id, m, 0, true⟩])).2.length), 0, (admit n 0 (L ++ [⟨id, m, 0, true⟩])).1) := by
    unfold ent; rw [if_neg h1, if_neg (by omega), if_neg h3, if_neg h4]
  rw [he]
  have hra : res (L ++ [(⟨id, m, 0, true⟩ : Seat)]) = res L := by rw [res_app]; simp [res]
  cases W with
  | cons s r =>
    have hlt := hst s r rfl
    have hadm : admit n 0 (L ++ [⟨id, m, 0, true⟩]) = (L ++ [⟨id, m, 0, true⟩], []) := by
      unfold admit
      rw [hra, e, List.append_assoc, adm_app P _ _ hP, List.cons_append, adm_stop _ s _ (hW s (by simp)) (by rw [← e]; omega)]
    rw [hadm]
    refine ⟨rfl, P, s :: r ++ [⟨id, m, 0, true⟩], by rw [e, List.append_assoc], hP, fun x hx => ?_, fun x y exy => ?_, by rw [hw]; rfl⟩
    · rcases List.mem_append.1 hx with hx | hx
      · exact hW x hx
      · obtain rfl := List.mem_singleton.1 hx
        rfl
    · rw [List.cons_append] at exy
      injection exy with exy _
      subst exy
      simp only [hra]; exact hlt
  | nil =>
    simp at e
    subst e
    have hwf : waits = false := by rw [hw]; rfl
    subst hwf
    by_cases hfit : n - 0 - res L < m
    · have hadm : admit n 0 (L ++ [⟨id, m, 0, true⟩]) = (L ++ [⟨id, m, 0, true⟩], []) := by
        unfold admit
        rw [hra, adm_app L _ _ hP, adm_stop _ _ _ rfl hfit]
      rw [hadm]
      refine ⟨rfl, L, [⟨id, m, 0, true⟩], rfl, hP, by intro x hx; obtain rfl := List.mem_singleton.1 hx; rfl, fun x y exy => ?_, rfl⟩
      injection exy with exy _
      subst exy
      simp only [hra]; omega
    · have hadm : admit n 0 (L ++ [⟨id, m, 0, true⟩]) = (L ++ [⟨id, m, 0, false⟩], [id]) := by
        unfold admit
        rw [hra, adm_app L _ _ hP, adm_let _ _ _ rfl hfit]
        rfl
      rw [hadm]
      refine ⟨rfl, L ++ [⟨id, m, 0, false⟩], [], by simp, fun x hx => ?_, by simp [Wt], by simp, rfl⟩
      rcases List.mem_append.1 hx with hx | hx
      · exact hP x hx
      · obtain rfl := List.mem_singleton.1 hx
        rfl
end Go.Proofs.Ytliliimdkkaocaa
