import Derived.Test.YtliliimdkkaocaaStep
/- looks: both stand the same. -/
namespace Go.Proofs.Ytliliimdkkaocaa
open Go.RowKit
set_option linter.unusedVariables false
set_option linter.unusedSimpArgs false
attribute [local go_sem] szIs_lit row_at row_past row_alloc nf_alloc row_set nf_set row_cell nf_cell row_drew nf_drew row_drewN nf_drewN cell_setRow frozen_setRow nlt1 nlt2 nlt3 nlt4 nne1 nne2 nne3 nen1 nen2 nen3

/-- Is it inside? -/
def ins (L : List Seat) (id : Int) : Bool := L.any fun s => decide (s.id = id) && !s.w
theorem ins_none : ∀ (L : List Seat) (id : Int), id ∉ ids L → ins L id = false
  | [], id, _ => rfl
  | s :: r, id, h => by
    simp only [ids, List.map_cons, List.mem_cons, not_or] at h
    have ih := ins_none r id h.2
    unfold ins at ih ⊢
    rw [List.any_cons, ih]
    simp [show ¬ s.id = id from fun e => h.1 e.symm]
theorem ins_at : ∀ (L : List Seat) (k : Nat) (s : Seat), Nd L → L[k]? = some s → ins L s.id = !s.w
  | [], k, s, nd, h => by simp at h
  | x :: r, 0, s, nd, h => by
    obtain rfl : x = s := by simpa using h
    have nd' := List.nodup_cons.1 (show (x.id :: ids r).Nodup from nd)
    have ih := ins_none r x.id nd'.1
    unfold ins at ih ⊢
    rw [List.any_cons, ih]
    simp
  | x :: r, k + 1, s, nd, h => by
    have hr : r[k]? = some s := by simpa using h
    have nd' := List.nodup_cons.1 (show (x.id :: ids r).Nodup from nd)
    have hne : ¬ x.id = s.id := fun e => nd'.1 (by rw [e]; exact List.mem_map_of_mem (List.mem_of_getElem? hr))
    have ih := ins_at r k s nd'.2 hr
    unfold ins at ih ⊢
    rw [List.any_cons, ih]
    simp [hne]
theorem ins_take (L : List Seat) (j : Nat) (s : Seat) (id : Int) (hs : L[j]? = some s) : ins (L.take (j + 1)) id = (ins (L.take j) id || (decide (s.id = id) && !s.w)) := by
  unfold ins
  rw [List.take_add_one, hs, List.any_append]
  simp
/-- Inside, whatever comes. -/
theorem inside_ok (base g c : Nat) (A : Option Addr) (size live : Int) (L : List Seat) (w : World) (h : GateA w base g A c size live L) (id : Int) (hlen : L.length ≤ 64) (nd : Nd L) : Calls Try.prog 23 #[.pointer (some ⟨g, 0, none⟩), .int .i64 id] w fun e w' => e = .returned (.bool (ins L id)) ∧ Below w.heap.size w w' := by
  by_cases h2 : findI L id < 0
  · rw [ins_none L id (findI_neg L id h2)]
    exact inside_no base g c A size live L w h id hlen h2
  · obtain ⟨i, hi⟩ : ∃ i : Nat, findI L id = i := ⟨(findI L id).toNat, by omega⟩
    obtain ⟨s, hs, he⟩ := findI_some L id i hi
    have := inside_at base g c A size live L w h id hlen i s hi hs
    rw [← he, ins_at L i s nd hs, he]
    exact this
end Go.Proofs.Ytliliimdkkaocaa
