import Derived.Test.YtliliimdkkaocaaInv
/- Ids are each once; what each takes. -/
namespace Go.Proofs.Ytliliimdkkaocaa
open Go.RowKit
set_option linter.unusedVariables false
set_option linter.unusedSimpArgs false
def ids (L : List Seat) : List Int := L.map Seat.id
def Nd (L : List Seat) : Prop := (ids L).Nodup
theorem adm_ids : ∀ (L : List Seat) (f : Int), ids (adm f L).1 = ids L
  | [], f => rfl
  | s :: r, f => by
    rcases Bool.eq_false_or_eq_true s.w with hw | hw
    · by_cases hfit : f < s.b
      · rw [adm_stop f s r hw hfit]
      · rw [adm_let f s r hw hfit]
        show s.id :: ids (adm _ r).1 = s.id :: ids r
        rw [adm_ids r]
    · rw [adm_in f s r hw]
      show s.id :: ids (adm _ r).1 = s.id :: ids r
      rw [adm_ids r]
theorem findI_neg : ∀ (L : List Seat) (id : Int), findI L id < 0 → id ∉ ids L
  | [], id, h => by simp [ids]
  | s :: r, id, h => by
    unfold findI at h
    split at h
    · omega
    · rename_i hne
      split at h
      · rename_i h2
        have := findI_neg r id h2
        simp only [ids, List.map_cons, List.mem_cons, not_or]
        exact ⟨fun e => hne e.symm, this⟩
      · have := (findI_range r id).1; omega
theorem findI_at : ∀ (L : List Seat) (k : Nat) (s : Seat), Nd L → L[k]? = some s → findI L s.id = k
  | [], k, s, nd, h => by simp at h
  | x :: r, 0, s, nd, h => by
    obtain rfl : x = s := by simpa using h
    simp [findI]
  | x :: r, k + 1, s, nd, h => by
    have hr : r[k]? = some s := by simpa using h
    have nd' := List.nodup_cons.1 (show (x.id :: ids r).Nodup from nd)
    have hne : ¬ x.id = s.id := fun e => nd'.1 (by rw [e]; exact List.mem_map_of_mem (List.mem_of_getElem? hr))
    have ih := findI_at r k s nd'.2 hr
    unfold findI
    rw [if_neg hne, if_neg (by omega), ih]
    omega
theorem ids_erase (L : List Seat) (i : Nat) : ids (L.eraseIdx i) = (ids L).eraseIdx i := by unfold ids; rw [List.eraseIdx_eq_take_drop_succ, List.eraseIdx_eq_take_drop_succ, List.map_append, List.map_take, List.map_drop]
theorem Nd.erase {L : List Seat} (h : Nd L) (i : Nat) : Nd (L.eraseIdx i) := by
  unfold Nd; rw [ids_erase]
  exact List.Sublist.nodup (List.eraseIdx_sublist _ _) h
theorem ids_set (L : List Seat) (k : Nat) (s s' : Seat) (hs : L[k]? = some s) (e : s'.id = s.id) : ids (L.set k s') = ids L := by
  unfold ids
  rw [List.map_set, e]
  apply List.ext_getElem?
  intro j
  rw [List.getElem?_set]
  split
  · rename_i hj
    subst hj
    rw [if_pos (by simpa using (List.getElem?_eq_some_iff.1 hs).1)]
    simp [hs]
  · rfl
theorem Nd.admit {L : List Seat} (h : Nd L) (n live : Int) : Nd (admit n live L).1 := by
  show (ids (adm _ L).1).Nodup
  rw [adm_ids]; exact h
theorem Nd.ent {L : List Seat} (h : Nd L) (n live id m : Int) : Nd (ent n live L id m).2.2 := by
  unfold Ytliliimdkkaocaa.ent
  split
  · exact h
  · split
    · exact h
    · rename_i hf
      split
      · exact h
      · split
        · exact h
        · refine Nd.admit ?_ _ _
          show (ids (L ++ _)).Nodup
          unfold ids
          rw [List.map_append]
          refine List.nodup_append.2 ⟨h, by simp, ?_⟩
          intro a ha b hb e
          simp at hb
          have := findI_neg L id (by omega)
          exact this (by rw [← hb, ← e]; exact ha)
theorem Nd.tak {L : List Seat} (h : Nd L) (live id m : Int) : Nd (tak live L id m).2.2 := by
  unfold Ytliliimdkkaocaa.tak
  split
  · exact h
  · split
    · exact h
    · split
      · exact h
      · rename_i s hs
        split
        · exact h
        · split
          · exact h
          · show (ids (L.set (findI L id).toNat { s with b := s.b - m, t := s.t + m })).Nodup
            rw [ids_set L _ s { s with b := s.b - m, t := s.t + m } hs rfl]; exact h
theorem Nd.giv {L : List Seat} (h : Nd L) (n live m : Int) : Nd (giv n live L m).2.2.2 := by
  unfold Ytliliimdkkaocaa.giv
  split
  · exact h
  · exact h.admit _ _
theorem Nd.lea {L : List Seat} (h : Nd L) (n live id : Int) : Nd (lea n live L id).2.2 := by
  unfold Ytliliimdkkaocaa.lea
  split
  · exact h
  · exact (h.erase _).admit _ _
/-- A seat takes all of its bound. -/
def tk (s : Seat) : Seat := if s.w = true then s else { s with b := 0, t := s.t + s.b }
def mid (L : List Seat) (k : Nat) : List Seat := (L.take k).map tk ++ L.drop k
theorem mid_at (L : List Seat) (k : Nat) (hk : k < L.length) : (mid L k)[k]? = L[k]? := by
  unfold mid
  rw [List.getElem?_append_right (by simp; omega)]
  simp [Nat.min_eq_left (Nat.le_of_lt hk)]
theorem mid_next (L : List Seat) (k : Nat) (s : Seat) (hs : L[k]? = some s) : (mid L k).set k (tk s) = mid L (k + 1) := by
  have hk := (List.getElem?_eq_some_iff.1 hs).1
  have hd : L.drop k = s :: L.drop (k + 1) := by
    rw [List.drop_eq_getElem_cons hk]
    congr 1
    exact (List.getElem?_eq_some_iff.1 hs).2
  unfold mid
  rw [List.set_append, if_neg (by simp; omega), hd, List.take_add_one, hs]
  simp [Nat.min_eq_left (Nat.le_of_lt hk)]
theorem mid_wait (L : List Seat) (k : Nat) (s : Seat) (hs : L[k]? = some s) (hw : s.w = true) : mid L (k + 1) = mid L k := by
  rw [← mid_next L k s hs]
  have : tk s = s := by unfold tk; rw [if_pos hw]
  rw [this]
  have hk := (List.getElem?_eq_some_iff.1 hs).1
  have h2 := mid_at L k hk
  rw [hs] at h2
  exact List.ext_getElem? fun j => by
    rw [List.getElem?_set]
    split
    · rename_i hj; subst hj
      rw [if_pos (List.getElem?_eq_some_iff.1 h2).1, h2]
    · rfl
theorem mid_ids (L : List Seat) (k : Nat) : ids (mid L k) = ids L := by
  have e : ∀ s, (tk s).id = s.id := fun s => by unfold tk; split <;> rfl
  unfold mid ids
  rw [List.map_append, List.map_map, show (Seat.id ∘ tk) = Seat.id from funext e, ← List.map_append, List.take_append_drop]
theorem res_tk : ∀ L : List Seat, res (L.map tk) = 0
  | [] => rfl
  | s :: r => by
    rw [List.map_cons, res, res_tk r]
    unfold tk
    split
    · rename_i h; simp [h]
    · simp
theorem tak_at (live : Int) (L : List Seat) (k : Nat) (s : Seat) (nd : Nd L) (hs : L[k]? = some s) (hw : s.w = false) (m : Int) (h0 : 0 ≤ m) (h1 : m ≤ s.b) : tak live L s.id m = (0, live + m, L.set k { s with b := s.b - m, t := s.t + m }) := by
  have hf := findI_at L k s nd hs
  unfold tak
  rw [if_neg (by omega), if_neg (by omega), hf]
  simp only [Int.toNat_natCast, hs]
  rw [if_neg (by simp [hw]), if_neg (by omega)]
theorem tak_over (live : Int) (L : List Seat) (k : Nat) (s : Seat) (nd : Nd L) (hs : L[k]? = some s) (hw : s.w = false) (m : Int) (h0 : 0 ≤ m) (h1 : s.b < m) : tak live L s.id m = (90, live, L) := by
  have hf := findI_at L k s nd hs
  unfold tak
  rw [if_neg (by omega), if_neg (by omega), hf]
  simp only [Int.toNat_natCast, hs]
  rw [if_neg (by simp [hw]), if_pos h1]
section
variable {w0 wr w' : World} {g c c' : Nat} {A A' : Option Addr} {n live live' : Int} {L L' : List Seat}
theorem enterN (h : Inv w0 wr g A c n live L) (nd : Nd L) (id m : Int) : Calls Try.prog 13 #[.pointer (some ⟨g, 0, none⟩), .int .i64 id, .int .i64 m] wr fun e w' => ∃ v A' c' live' L', e = .returned v ∧ Inv w0 w' g A' c' n live' L' ∧ Nd L' :=
  (enterI h id m).mono fun e w' ⟨A', c', q1, q2⟩ => ⟨_, A', c', _, _, q1, q2, nd.ent _ _ _ _⟩
theorem takeN (h : Inv w0 wr g A c n live L) (nd : Nd L) (id m : Int) : Calls Try.prog 18 #[.pointer (some ⟨g, 0, none⟩), .int .i64 id, .int .i64 m] wr fun e w' => ∃ v A' c' live' L', e = .returned v ∧ Inv w0 w' g A' c' n live' L' ∧ Nd L' :=
  (takeI h id m).mono fun e w' ⟨A', c', q1, q2⟩ => ⟨_, A', c', _, _, q1, q2, nd.tak _ _ _⟩
theorem giveN (h : Inv w0 wr g A c n live L) (nd : Nd L) (m : Int) : Calls Try.prog 19 #[.pointer (some ⟨g, 0, none⟩), .int .i64 m] wr fun e w' => ∃ v A' c' live' L', e = .returned v ∧ Inv w0 w' g A' c' n live' L' ∧ Nd L' :=
  (giveI h m).mono fun e w' ⟨A', c', _, _, q1, _, q2⟩ => ⟨_, A', c', _, _, q1, q2, nd.giv _ _ _⟩
theorem leaveN (h : Inv w0 wr g A c n live L) (nd : Nd L) (id : Int) : Calls Try.prog 16 #[.pointer (some ⟨g, 0, none⟩), .int .i64 id] wr fun e w' => ∃ v A' c' live' L', e = .returned v ∧ Inv w0 w' g A' c' n live' L' ∧ Nd L' :=
  (leaveI h id).mono fun e w' ⟨A', c', _, _, q1, _, q2⟩ => ⟨_, A', c', _, _, q1, q2, nd.lea _ _ _⟩
theorem takeF (h : Inv w0 wr g A c n live L) (id m : Int) : Calls Try.prog 18 #[.pointer (some ⟨g, 0, none⟩), .int .i64 id, .int .i64 m] wr fun e w' => ∃ A' c', e = .returned (.int .i64 (tak live L id m).1) ∧ Inv w0 w' g A' c' n (tak live L id m).2.1 (tak live L id m).2.2 ∧ FrG wr w' g A A' :=
  (take_ok _ _ _ _ _ _ _ wr h.ga h.wf h.bl.size id m).mono fun e w' ⟨A', c', q1, q2, q3⟩ => ⟨A', c', q1, h.step (h.wf.tak id m) q2 q3, q3⟩
theorem takeA (h : Inv w0 wr g A c n live L) (nd : Nd L) (k : Nat) (s : Seat) (hs : L[k]? = some s) (hw : s.w = false) (m : Int) (h0 : 0 ≤ m) (h1 : m ≤ s.b) : Calls Try.prog 18 #[.pointer (some ⟨g, 0, none⟩), .int .i64 s.id, .int .i64 m] wr fun e w' => ∃ A' c', e = .returned (.int .i64 0) ∧ Inv w0 w' g A' c' n (live + m) (L.set k { s with b := s.b - m, t := s.t + m }) ∧ FrG wr w' g A A' := by
  have q := takeF h s.id m
  rw [tak_at live L k s nd hs hw m h0 h1] at q
  exact q
theorem takeO (h : Inv w0 wr g A c n live L) (nd : Nd L) (k : Nat) (s : Seat) (hs : L[k]? = some s) (hw : s.w = false) (m : Int) (h0 : 0 ≤ m) (h1 : s.b < m) : Calls Try.prog 18 #[.pointer (some ⟨g, 0, none⟩), .int .i64 s.id, .int .i64 m] wr fun e w' => ∃ A' c', e = .returned (.int .i64 90) ∧ Inv w0 w' g A' c' n live L ∧ FrG wr w' g A A' := by
  have q := takeF h s.id m
  rw [tak_over live L k s nd hs hw m h0 h1] at q
  exact q
end
end Go.Proofs.Ytliliimdkkaocaa
