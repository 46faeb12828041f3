import Derived.Test.YtngjpokbjnjodaaTab5
import Derived.Test.YtngjpokbjnjodaaRef
import Derived.Deep.QuietTactic
import Derived.BigQuiet
import Derived.Deep.LoopGhost
import Derived.Deep.Cut
import Derived.Deep.CutRange
import Derived.Deep.DeepMust
/- The reference table: its row; New, Get. -/
namespace Go.Proofs.Ytngjpokbjnjodaa
open Go.RowKit Go.BigFrame
set_option linter.unusedVariables false
set_option linter.unusedSimpArgs false
attribute [local go_sem] szIs_lit row_at row_past row_alloc nf_alloc row_set nf_set row_cell nf_cell row_drew nf_drew row_drewN nf_drewN cell_setRow frozen_setRow nlt1 nlt2 nlt3 nlt4 nne1 nne2 nne3 nen1 nen2 nen3
attribute [local go_sem] by_get by_set
/-- The reference table's cells. -/
def rrow (F root : Int) (sl : Value) (E : Nat → Int) : Array Value := (Value.int .i64 F :: .int .i64 root :: sl :: (List.range 256).map fun p => Value.int .u32 (E p)).toArray
theorem rrow_size (F root : Int) (sl : Value) (E : Nat → Int) : (rrow F root sl E).size = 259 := by simp [rrow]
theorem rrow_get (F root : Int) (sl : Value) (E : Nat → Int) (p : Nat) (hp : p < 256) : (rrow F root sl E)[3 + p]? = some (.int .u32 (E p)) := by
  unfold rrow
  rw [List.getElem?_toArray, show 3 + p = p + 1 + 1 + 1 by omega, List.getElem?_cons_succ, List.getElem?_cons_succ, List.getElem?_cons_succ, List.getElem?_map, List.getElem?_range hp]; rfl
theorem rrow_set (F root : Int) (sl : Value) (E : Nat → Int) (p : Nat) (hp : p < 256) (e : Int) : (rrow F root sl E).setIfInBounds (3 + p) (.int .u32 e) = rrow F root sl (updE E p e) := by
  apply Array.ext_getElem?
  intro i
  rw [Array.getElem?_setIfInBounds, rrow_size]
  by_cases h : 3 + p = i
  · subst h
    rw [if_pos rfl, if_pos (by omega), rrow_get _ _ _ _ _ hp]; simp [updE]
  · rw [if_neg h]
    by_cases h3 : i < 3
    · rcases (show i = 0 ∨ i = 1 ∨ i = 2 by omega) with rfl | rfl | rfl <;> (unfold rrow; rw [List.getElem?_toArray, List.getElem?_toArray]; rfl)
    · by_cases h4 : i < 259
      · obtain ⟨q, rfl⟩ : ∃ q, i = 3 + q := ⟨i - 3, by omega⟩
        rw [rrow_get _ _ _ _ _ (by omega), rrow_get _ _ _ _ _ (by omega)]
        unfold updE; rw [if_neg (by omega)]
      · rw [Array.getElem?_eq_none (by rw [rrow_size]; omega), Array.getElem?_eq_none (by rw [rrow_size]; omega)]
theorem rrow_setl (F root : Int) (sl sl' : Value) (E : Nat → Int) : (rrow F root sl E).setIfInBounds 2 sl' = rrow F root sl' E := by
  apply Array.ext_getElem?
  intro i
  rw [Array.getElem?_setIfInBounds, rrow_size]
  by_cases h : 2 = i
  · subst h; rw [if_pos rfl, if_pos (by omega)]; unfold rrow; rw [List.getElem?_toArray]; rfl
  · rw [if_neg h]
    by_cases h3 : i < 3
    · rcases (show i = 0 ∨ i = 1 by omega) with rfl | rfl <;> (unfold rrow; rw [List.getElem?_toArray, List.getElem?_toArray]; rfl)
    · by_cases h4 : i < 259
      · obtain ⟨q, rfl⟩ : ∃ q, i = 3 + q := ⟨i - 3, by omega⟩
        rw [rrow_get _ _ _ _ _ (by omega), rrow_get _ _ _ _ _ (by omega)]
      · rw [Array.getElem?_eq_none (by rw [rrow_size]; omega), Array.getElem?_eq_none (by rw [rrow_size]; omega)]
section
variable {w w' : World} {x : Nat} {F root : Int} {sl : Value} {E : Nat → Int}
theorem rget_no (p : Int) (hp : ¬ (0 ≤ p ∧ p < 256)) (v : Value) (w : World) : Calls Try.prog 56 #[v, .int .i64 p] w fun r w' => r = .returned (.tuple #[.int .u32 0, .int .i64 1]) ∧ w = w' := by
  have HP := Lib.hid (rpage_no p hp w)
  clear hp
  go_enter Try.func56, Try.ntmps56
  go_wp2_with fail
  refine HP.out.mono ?_
  rintro r w' ⟨rfl, rfl⟩
  go_wp2
  go_ret2
  exact ⟨by first | rfl | simp, rfl⟩
theorem rget_ok (h : Blk w x (rrow F root sl E)) (p : Nat) (hp : p < 256) : Calls Try.prog 56 #[.pointer (some ⟨x, 0, none⟩), .int .i64 (p : Int)] w fun r w' => r = .returned (.tuple #[.int .u32 (E p), .int .i64 0]) ∧ w = w' := by
  have HP := Lib.hid (rpage_yes (p : Int) (by omega) w)
  have c0 : w.cell? ⟨x, 3 + p, none⟩ = some (.int .u32 (E p)) := (h.all.2.2.1 _).trans (rrow_get _ _ _ _ _ hp)
  clear h
  go_enter Try.func56, Try.ntmps56
  go_wp2_with fail
  refine HP.out.mono ?_
  rintro r w' ⟨rfl, rfl⟩
  go_wp2
  go_ret2
  exact ⟨by first | rfl | simp, rfl⟩
end
end Go.Proofs.Ytngjpokbjnjodaa
