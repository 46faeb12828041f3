import Derived.Test.YtliliimdkkaocaaAdmit
/- What the calls do: plain. -/
namespace Go.Proofs.Ytliliimdkkaocaa
open Go.RowKit
def ent (size live : Int) (L : List Seat) (id n : Int) : Bool × Int × List Seat :=
  if n < 0 then (false, 1, L) else if 0 ≤ findI L id then (false, 5, L) else if size < n then (false, 3, L) else if 64 ≤ L.length then (false, 2, L)
  else (decide (0 < (admit size live (L ++ [⟨id, n, 0, true⟩])).2.length), 0, (admit size live (L ++ [⟨id, n, 0, true⟩])).1)
def tak (live : Int) (L : List Seat) (id n : Int) : Int × Int × List Seat :=
  if n < 0 then (1, live, L) else if findI L id < 0 then (4, live, L) else
  match L[(findI L id).toNat]? with
  | none => (4, live, L)
  | some s => if s.w = true then (4, live, L) else if s.b < n then (90, live, L) else (0, live + n, L.set (findI L id).toNat { s with b := s.b - n, t := s.t + n })
def giv (size live : Int) (L : List Seat) (n : Int) : List Int × Int × Int × List Seat :=
  if n < 0 ∨ live < n then ([], 1, live, L) else ((admit size (live - n) L).2, 0, live - n, (admit size (live - n) L).1)
def lea (size live : Int) (L : List Seat) (id : Int) : List Int × Int × List Seat :=
  if findI L id < 0 then ([], 4, L) else ((admit size live (L.eraseIdx (findI L id).toNat)).2, 0, (admit size live (L.eraseIdx (findI L id).toNat)).1)
theorem adm_res : ∀ (L : List Seat) (f : Int), 0 ≤ f → res L ≤ res (adm f L).1 ∧ res (adm f L).1 ≤ res L + f ∨ ∃ s ∈ L, s.b < 0
  | [], f, hf => .inl (by simp [adm]; omega)
  | s :: r, f, hf => by
    by_cases hb : s.b < 0
    · exact .inr ⟨s, by simp, hb⟩
    rcases Bool.eq_false_or_eq_true s.w with hw | hw
    · by_cases hfit : f < s.b
      · rw [adm_stop f s r hw hfit]; exact .inl (by simp; omega)
      · rw [adm_let f s r hw hfit]
        rcases adm_res r (f - s.b) (by omega) with h | ⟨x, hx, hx2⟩
        · simp [res, hw]; omega
        · exact .inr ⟨x, by simp [hx], hx2⟩
    · rw [adm_in f s r hw]
      rcases adm_res r f hf with h | ⟨x, hx, hx2⟩
      · simp [res, hw]; omega
      · exact .inr ⟨x, by simp [hx], hx2⟩
/-- Each seat stays, but for its waiting. -/
theorem adm_get : ∀ (L : List Seat) (f : Int) (i : Nat) (s : Seat), (adm f L).1[i]? = some s → ∃ s0, L[i]? = some s0 ∧ s.id = s0.id ∧ s.b = s0.b ∧ s.t = s0.t ∧ (s.w = true → s0.w = true)
  | [], f, i, s, h => by simp [adm] at h
  | x :: r, f, i, s, h => by
    rcases Bool.eq_false_or_eq_true x.w with hw | hw
    · by_cases hfit : f < x.b
      · rw [adm_stop f x r hw hfit] at h; exact ⟨s, h, rfl, rfl, rfl, id⟩
      · rw [adm_let f x r hw hfit] at h
        cases i with
        | zero =>
          obtain rfl : _ = s := by simpa using h
          exact ⟨x, rfl, rfl, rfl, rfl, by simp⟩
        | succ i => exact (adm_get r _ i s (by simpa using h))
    · rw [adm_in f x r hw] at h
      cases i with
      | zero =>
        obtain rfl : x = s := by simpa using h
        exact ⟨x, rfl, rfl, rfl, rfl, id⟩
      | succ i => exact (adm_get r _ i s (by simpa using h))
theorem adm_mem (L : List Seat) (f : Int) (s : Seat) (h : s ∈ (adm f L).1) : ∃ s0 ∈ L, s.id = s0.id ∧ s.b = s0.b ∧ s.t = s0.t := by
  obtain ⟨i, hi⟩ := List.getElem?_of_mem h
  obtain ⟨s0, h0, h1, h2, h3, _⟩ := adm_get L f i s hi
  exact ⟨s0, List.mem_of_getElem? h0, h1, h2, h3⟩
section
variable {size live : Int} {L : List Seat}
theorem WF.admit (h : WF size live L) : WF size live (admit size live L).1 := by
  have h1 := h.fit; have h2 := h.l0
  have hr := adm_res L (size - live - res L) (by omega)
  refine ⟨h.s1, h.s2, h.l0, ?_, ?_, ?_⟩
  · rcases hr with hr | ⟨s, hs, hb⟩
    · show live + res (adm _ _).1 ≤ size; omega
    · have := (h.b s hs).1; omega
  · show (adm _ _).1.length ≤ 64; rw [adm_len]; exact h.len
  · intro s hs
    obtain ⟨s0, h0, _, e1, e2⟩ := adm_mem L _ s hs
    rw [e1, e2]; exact h.b s0 h0
theorem WF.add (h : WF size live L) (id n : Int) (h0 : 0 ≤ n) (h1 : n ≤ size) (h2 : L.length < 64) : WF size live (L ++ [⟨id, n, 0, true⟩]) := by
  refine ⟨h.s1, h.s2, h.l0, ?_, by simp; omega, ?_⟩
  · rw [res_app]; have := h.fit; simp [res]; exact this
  · intro s hs
    rcases List.mem_append.1 hs with hs | hs
    · exact h.b s hs
    · obtain rfl := List.mem_singleton.1 hs
      exact ⟨h0, h1, Int.le_refl _, by simpa using h1⟩
theorem res_set (L : List Seat) (i : Nat) (s s' : Seat) (h : L[i]? = some s) : res (L.set i s') = res L - (if s.w = true then 0 else s.b) + (if s'.w = true then 0 else s'.b) := by
  induction L generalizing i with
  | nil => simp at h
  | cons x r ih =>
    cases i with
    | zero =>
      obtain rfl : x = s := by simpa using h
      simp only [List.set_cons_zero, res]; omega
    | succ i =>
      have := ih i (by simpa using h)
      simp only [List.set_cons_succ, res, this]; omega
theorem res_erase (L : List Seat) (i : Nat) (s : Seat) (h : L[i]? = some s) : res (L.eraseIdx i) = res L - (if s.w = true then 0 else s.b) := by
  induction L generalizing i with
  | nil => simp at h
  | cons x r ih =>
    cases i with
    | zero =>
      obtain rfl : x = s := by simpa using h
      simp only [List.eraseIdx_cons_zero, res]; omega
    | succ i =>
      have := ih i (by simpa using h)
      simp only [List.eraseIdx_cons_succ, res, this]; omega
theorem WF.take (h : WF size live L) (i : Nat) (s : Seat) (hs : L[i]? = some s) (hw : s.w = false) (n : Int) (h0 : 0 ≤ n) (h1 : n ≤ s.b) : WF size (live + n) (L.set i { s with b := s.b - n, t := s.t + n }) := by
  have hb := h.b s (List.mem_of_getElem? hs)
  refine ⟨h.s1, h.s2, by have := h.l0; omega, ?_, by simpa using h.len, ?_⟩
  · rw [res_set L i s _ hs]
    have := h.fit
    simp [hw]; omega
  · intro x hx
    rcases List.mem_or_eq_of_mem_set hx with hx | rfl
    · exact h.b x hx
    · simp only; omega
theorem WF.give (h : WF size live L) (n : Int) (h0 : 0 ≤ n) (h1 : n ≤ live) : WF size (live - n) L := by
  have := h.fit
  exact ⟨h.s1, h.s2, by omega, by omega, h.len, h.b⟩
theorem WF.erase (h : WF size live L) (i : Nat) : WF size live (L.eraseIdx i) := by
  by_cases hi : i < L.length
  · obtain ⟨s, hs⟩ : ∃ s, L[i]? = some s := ⟨_, List.getElem?_eq_getElem hi⟩
    have hb := h.b s (List.mem_of_getElem? hs)
    refine ⟨h.s1, h.s2, h.l0, ?_, ?_, fun x hx => h.b x (List.mem_of_mem_eraseIdx hx)⟩
    · rw [res_erase L i s hs]
      have := h.fit
      split <;> omega
    · rw [List.length_eraseIdx, if_pos hi]; have := h.len; omega
  · rw [List.eraseIdx_of_length_le (by omega)]; exact h
theorem WF.ent (h : WF size live L) (id n : Int) : WF size live (ent size live L id n).2.2 := by
  unfold Ytliliimdkkaocaa.ent
  split
  · exact h
  · split
    · exact h
    · split
      · exact h
      · split
        · exact h
        · exact (h.add id n (by omega) (by omega) (by omega)).admit
theorem WF.tak (h : WF size live L) (id n : Int) : WF size (tak live L id n).2.1 (tak live L id n).2.2 := by
  unfold Ytliliimdkkaocaa.tak
  split
  · exact h
  · split
    · exact h
    · split
      · exact h
      · rename_i s hs
        split
        · exact h
        · split
          · exact h
          · exact h.take _ s hs (by rename_i hw _; simpa using hw) n (by omega) (by omega)
theorem WF.giv (h : WF size live L) (n : Int) : WF size (giv size live L n).2.2.1 (giv size live L n).2.2.2 := by
  unfold Ytliliimdkkaocaa.giv
  split
  · exact h
  · exact (h.give n (by omega) (by omega)).admit
theorem WF.lea (h : WF size live L) (id : Int) : WF size live (lea size live L id).2.2 := by
  unfold Ytliliimdkkaocaa.lea
  split
  · exact h
  · exact (h.erase _).admit
end
end Go.Proofs.Ytliliimdkkaocaa
