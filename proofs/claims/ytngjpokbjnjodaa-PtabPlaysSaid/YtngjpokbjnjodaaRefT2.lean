import Derived.Test.YtngjpokbjnjodaaRefT
import Derived.Deep.QuietTactic
import Derived.BigQuiet
import Derived.Deep.LoopGhost
import Derived.Deep.Cut
import Derived.Deep.CutRange
import Derived.Deep.DeepMust
/- The reference table: New. -/
namespace Go.Proofs.Ytngjpokbjnjodaa
open Go.RowKit Go.BigFrame
set_option linter.unusedVariables false
set_option linter.unusedSimpArgs false
attribute [local go_sem] szIs_lit row_at row_past row_alloc nf_alloc row_set nf_set row_cell nf_cell row_drew nf_drew row_drewN nf_drewN cell_setRow frozen_setRow nlt1 nlt2 nlt3 nlt4 nne1 nne2 nne3 nen1 nen2 nen3
attribute [local go_sem] by_get by_set
theorem rnewt_no (F root : Int) (hr : ¬ (0 ≤ root ∧ root < F)) (w : World) : Calls Try.prog 53 #[.int .i64 F, .int .i64 root] w fun r w' => r = .returned (.tuple #[.pointer none, .int .i64 10]) ∧ w = w' := by
  by_cases h0 : root < 0
  · clear hr
    go_enter Try.func53, Try.ntmps53
    go_wp2
    go_ret2
    exact ⟨by first | rfl | simp, rfl⟩
  · have h1 : F ≤ root := by omega
    have h0' : 0 ≤ root := by omega
    clear hr h0
    go_enter Try.func53, Try.ntmps53
    go_wp2
    go_ret2
    exact ⟨by first | rfl | simp, rfl⟩
theorem zero98 (w : World) : (zeroValue 98).run Try.prog w = .ok (.agg (rrow 0 0 (.slice none 0 0) (fun _ => 0))) w := by
  kernel_rfl
theorem rrow_ne (F root : Int) (sl : Value) (E : Nat → Int) : (rrow F root sl E = #[]) = False := by
  apply eq_false
  intro h
  have := congrArg Array.size h
  rw [rrow_size] at this
  simp at this
theorem rrow_set0 (F F' root : Int) (sl : Value) (E : Nat → Int) : (rrow F root sl E).setIfInBounds 0 (.int .i64 F') = rrow F' root sl E := by
  apply Array.ext_getElem?
  intro i
  rw [Array.getElem?_setIfInBounds, rrow_size]
  by_cases h : 0 = i
  · subst h; rw [if_pos rfl, if_pos (by omega)]; unfold rrow; rw [List.getElem?_toArray]; rfl
  · rw [if_neg h]
    obtain ⟨q, rfl⟩ : ∃ q, i = q + 1 := ⟨i - 1, by omega⟩
    unfold rrow; rw [List.getElem?_toArray, List.getElem?_toArray, List.getElem?_cons_succ, List.getElem?_cons_succ]
theorem rrow_set1 (F root root' : Int) (sl : Value) (E : Nat → Int) : (rrow F root sl E).setIfInBounds 1 (.int .i64 root') = rrow F root' sl E := by
  apply Array.ext_getElem?
  intro i
  rw [Array.getElem?_setIfInBounds, rrow_size]
  by_cases h : 1 = i
  · subst h; rw [if_pos rfl, if_pos (by omega)]; unfold rrow; rw [List.getElem?_toArray]; rfl
  · rw [if_neg h]
    by_cases h0 : i = 0
    · subst h0; unfold rrow; rw [List.getElem?_toArray, List.getElem?_toArray]; rfl
    · obtain ⟨q, rfl⟩ : ∃ q, i = q + 1 + 1 := ⟨i - 2, by omega⟩
      unfold rrow; rw [List.getElem?_toArray, List.getElem?_toArray, List.getElem?_cons_succ, List.getElem?_cons_succ, List.getElem?_cons_succ, List.getElem?_cons_succ]
attribute [local go_sem] rrow_size rrow_ne rrow_set0 rrow_set1
set_option maxRecDepth 100000 in
theorem rnewt_ok (F root : Int) (h0 : 0 ≤ root) (h1 : root < F) (w : World) : Calls Try.prog 53 #[.int .i64 F, .int .i64 root] w fun r w' => (∃ x, r = .returned (.tuple #[.pointer (some ⟨x, 0, none⟩), .int .i64 0]) ∧ Blk w' x (rrow F root (.slice none 0 0) (fun _ => 0)) ∧ w.heap.size ≤ x) ∧ Below w.heap.size w w' := by
  have hbd := zero98
  go_enter Try.func53, Try.ntmps53
  go_wp2
  go_ret2
  exact ⟨⟨w.heap.size, by first | rfl | simp, ⟨by go_simp, by go_simp⟩, Nat.le_refl _⟩, (Below.refl _ _).alloc (Nat.le_refl _) _⟩
end Go.Proofs.Ytngjpokbjnjodaa
