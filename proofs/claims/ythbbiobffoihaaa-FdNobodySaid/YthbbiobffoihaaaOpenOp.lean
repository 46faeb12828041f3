import Derived.Test.YthbbiobffoihaaaKit
import Derived.ProofKit
import Derived.OpenShut
import Derived.Lib.SmallJoins
import Derived.Deep.Slices
/- One call handed in, opened. -/
namespace Go.Proofs.Ythbbiobffoihaaa
open Go.RowKit Go.ChangeShapes Go.WideShapes Go.ChangeAt Go.Joins
set_option linter.unusedVariables false
set_option linter.unusedSimpArgs false
theorem one_at {l : List Value} {i : Nat} {x : Int} (h : (l.drop i).take 1 = [.int .i64 x]) : l[i]? = some (.int .i64 x) := by
  have := congrArg (fun l => l[0]?) h
  simpa using this
theorem fs26 : (Try.prog.fieldsOf 26).size = 5 := by kernel_rfl
theorem cells26 : Try.prog.cellsOf 26 = 5 := by kernel_rfl
theorem cells3 : Try.prog.cellsOf 3 = 1 := by kernel_rfl
theorem u26 : Try.prog.underlying 26 = some (.struct (Try.prog.fieldsOf 26)) := by kernel_rfl
theorem fld26 : ∀ i, i < 5 → ((Try.prog.fieldsOf 26)[i]?).map (fun f => (f.type, f.offset)) = some (3, i) := by
  intro i hi
  rcases (show i = 0 ∨ i = 1 ∨ i = 2 ∨ i = 3 ∨ i = 4 by omega) with rfl | rfl | rfl | rfl | rfl
  · kernel_rfl
  · kernel_rfl
  · kernel_rfl
  · kernel_rfl
  · kernel_rfl
set_option maxRecDepth 100000 in
theorem open_op {H : Type} {enc : TypeId × Value → H} {W : World} {base b : Nat} {spare : Nat → Bool} {held : Bool} {r : Reach} {v : Value} {d : DataW H} {p : List MemPlace}
    (hv : Value.okWide Try.prog W r b 26 v) (h : DataW.Trod enc Try.prog W base spare held 26 v d p) :
    ∃ x0 x1 x2 x3 x4 : Int, v = .agg #[.int .i64 x0, .int .i64 x1, .int .i64 x2, .int .i64 x3, .int .i64 x4] := by
  have hu : Try.prog.underlying 26 = some (.struct (Try.prog.fieldsOf 26)) := u26
  have hfs := fs26
  have c26 := cells26
  have c3 := cells3
  obtain ⟨cs, rfl, hsz⟩ := okWide_struct hu hv
  rw [c26] at hsz
  obtain ⟨fuel, hf⟩ := h
  obtain ⟨xs, n, -, -, -, hlen, hfields⟩ := DataW.trod_struct hu hf
  have hlen : xs.length = 5 := by rw [← hfs]; exact hlen
  have one : ∀ i, i < 5 → ∃ x : Int, cs[i]? = some (.int .i64 x) := by
    intro i hi
    obtain ⟨f, e, ht, ho⟩ : ∃ f, (Try.prog.fieldsOf 26)[i]? = some f ∧ f.type = 3 ∧ f.offset = i := by
      have := fld26 i hi
      cases hq : (Try.prog.fieldsOf 26)[i]? with
      | none => simp [hq] at this
      | some f => simp [hq] at this; exact ⟨f, rfl, this.1, this.2⟩
    have g := hfields i f e
    rw [ht, ho, c3, List.getElem?_eq_getElem (by omega)] at g
    obtain ⟨x, hx, -, -⟩ := DataW.trod_int (k := .i64) (by kernel_rfl) g
    refine ⟨x, ?_⟩
    have := one_at hx
    simpa [Value.cells] using this
  obtain ⟨x0, h0⟩ := one 0 (by omega)
  obtain ⟨x1, h1⟩ := one 1 (by omega)
  obtain ⟨x2, h2⟩ := one 2 (by omega)
  obtain ⟨x3, h3⟩ := one 3 (by omega)
  obtain ⟨x4, h4⟩ := one 4 (by omega)
  refine ⟨x0, x1, x2, x3, x4, ?_⟩
  congr 1
  apply Array.ext_getElem?
  intro j
  rcases Nat.lt_or_ge j 5 with hj | hj
  · rcases (show j = 0 ∨ j = 1 ∨ j = 2 ∨ j = 3 ∨ j = 4 by omega) with rfl | rfl | rfl | rfl | rfl
    · rw [h0]; rfl
    · rw [h1]; rfl
    · rw [h2]; rfl
    · rw [h3]; rfl
    · rw [h4]; rfl
  · rw [Array.getElem?_eq_none (by omega), Array.getElem?_eq_none (by simpa using hj)]
end Go.Proofs.Ythbbiobffoihaaa
