/- Seats at a gate: the plain functions. -/
namespace Go.Proofs.Ytliliimdkkaocaa
structure Seat where
  id : Int
  b : Int
  t : Int
  w : Bool
deriving DecidableEq, Inhabited
/-- How many bytes those inside may take still. -/
def res : List Seat → Int
  | [] => 0
  | s :: r => (if s.w = true then 0 else s.b) + res r
/-- The place of an id; -1: it is not there. -/
def findI (L : List Seat) (id : Int) : Int := match L with
  | [] => -1
  | s :: r => if s.id = id then 0 else (if findI r id < 0 then -1 else findI r id + 1)
/-- Those that fit are let in. -/
def adm (free : Int) : List Seat → List Seat × List Int
  | [] => ([], [])
  | s :: r => if s.w = false then (s :: (adm free r).1, (adm free r).2) else if free < s.b then (s :: r, []) else ({ s with w := false } :: (adm (free - s.b) r).1, s.id :: (adm (free - s.b) r).2)
def admit (size live : Int) (L : List Seat) : List Seat × List Int := adm (size - live - res L) L
/-- What the walks need of a gate. -/
structure WF (size live : Int) (L : List Seat) : Prop where
  s1 : 1 ≤ size
  s2 : size ≤ 1073741824
  l0 : 0 ≤ live
  fit : live + res L ≤ size
  len : L.length ≤ 64
  b : ∀ s ∈ L, 0 ≤ s.b ∧ s.b ≤ size ∧ 0 ≤ s.t ∧ s.b + s.t ≤ size
theorem res_nonneg : ∀ (L : List Seat), (∀ s ∈ L, 0 ≤ s.b) → 0 ≤ res L
  | [], _ => by simp [res]
  | s :: r, h => by
    have h1 := h s (by simp)
    have h2 := res_nonneg r (fun x hx => h x (by simp [hx]))
    unfold res; split <;> omega
theorem res_app : ∀ (L R : List Seat), res (L ++ R) = res L + res R
  | [], R => by simp [res]
  | s :: r, R => by simp only [List.cons_append, res, res_app r R]; omega
theorem res_take (L : List Seat) (i : Nat) (s : Seat) (h : L[i]? = some s) : res (L.take (i + 1)) = res (L.take i) + (if s.w = true then 0 else s.b) := by
  have hi := (List.getElem?_eq_some_iff.1 h).1
  rw [List.take_add_one, h, res_app]
  simp [res]
theorem res_take_le (L : List Seat) (i : Nat) (h : ∀ s ∈ L, 0 ≤ s.b) : 0 ≤ res (L.take i) ∧ res (L.take i) ≤ res L := by
  have h1 := res_nonneg (L.take i) (fun s hs => h s (List.mem_of_mem_take hs))
  have h2 := res_nonneg (L.drop i) (fun s hs => h s (List.mem_of_mem_drop hs))
  have h3 := res_app (L.take i) (L.drop i)
  rw [List.take_append_drop] at h3
  omega
theorem findI_range : ∀ (L : List Seat) (id : Int), -1 ≤ findI L id ∧ findI L id < L.length
  | [], id => by simp [findI]
  | s :: r, id => by
    have h := findI_range r id
    unfold findI
    simp only [List.length_cons]
    split
    · omega
    · split <;> omega
theorem findI_some (L : List Seat) (id : Int) (k : Nat) (h : findI L id = k) : ∃ s, L[k]? = some s ∧ s.id = id := by
  induction L generalizing k with
  | nil => simp [findI] at h
  | cons s r ih =>
    unfold findI at h
    split at h
    · rename_i e
      obtain rfl : k = 0 := by omega
      exact ⟨s, rfl, e⟩
    · split at h
      · omega
      · obtain ⟨k', rfl⟩ : ∃ k', k = k' + 1 := ⟨k - 1, by omega⟩
        obtain ⟨s', h1, h2⟩ := ih k' (by omega)
        exact ⟨s', by simpa using h1, h2⟩
/-- Not found so far. -/
theorem findI_drop (L : List Seat) (id : Int) (i : Nat) (s : Seat) (h : L[i]? = some s) : findI (L.drop i) id = if s.id = id then 0 else (if findI (L.drop (i + 1)) id < 0 then -1 else findI (L.drop (i + 1)) id + 1) := by
  have hi := (List.getElem?_eq_some_iff.1 h).1
  have e : L.drop i = s :: L.drop (i + 1) := by
    rw [List.drop_eq_getElem_cons hi]
    congr 1
    have := List.getElem?_eq_getElem hi
    rw [h] at this; injection this with this; exact this.symm
  rw [e]; rfl
end Go.Proofs.Ytliliimdkkaocaa
