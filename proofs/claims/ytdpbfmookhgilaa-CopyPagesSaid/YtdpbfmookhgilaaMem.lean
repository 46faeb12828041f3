import Derived.Test.YtdpbfmookhgilaaBase
/- A memory's bytes as a row. -/
namespace Go.Proofs.Ytdpbfmookhgilaa
open Go.RowKit
def bytes (M : Nat → Int) (n : Nat) : Array Value := ((List.range n).map fun i => Value.int .u8 (M i)).toArray
def updM (r : Nat → Int) (i : Nat) (v : Int) : Nat → Int := fun j => if j = i then v else r j
theorem by_size (M : Nat → Int) (n : Nat) : (bytes M n).size = n := by simp [bytes]
theorem by_get (M : Nat → Int) (n i : Nat) (h : i < n) : (bytes M n)[i]? = some (.int .u8 (M i)) := by simp [bytes, h]
theorem by_none (M : Nat → Int) (n i : Nat) (h : n ≤ i) : (bytes M n)[i]? = none := Array.getElem?_eq_none (by rw [by_size]; exact h)
theorem by_set (M : Nat → Int) (n i : Nat) (v : Int) (h : i < n) : (bytes M n).setIfInBounds i (.int .u8 v) = bytes (updM M i v) n := by
  apply Array.ext_getElem?
  intro j
  rw [Array.getElem?_setIfInBounds, by_size]
  by_cases hj : j < n
  · rw [by_get _ _ _ hj, by_get _ _ _ hj]
    by_cases e : i = j
    · subst e; simp [updM, h]
    · rw [if_neg e]; simp [updM, Ne.symm e]
  · rw [by_none _ _ j (by omega), by_none _ _ j (by omega), if_neg (by omega)]
theorem szIs_by (M : Nat → Int) (n : Nat) : szIs (bytes M n) n = true := by simp [szIs, by_size]
/-- The struct's cell. -/
abbrev memS (b n : Nat) : Array Value := #[.slice (some ⟨b, 0, none⟩) n n]
end Go.Proofs.Ytdpbfmookhgilaa
