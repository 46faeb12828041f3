import Derived.Test.YtjmdikabikgjhaaBoth
import Derived.OpenShut
import Derived.WideShapes
import Derived.ProofKit
/- A processor that is handed in by value: its cells are numbers. -/
namespace Go.Proofs.Ytjmdikabikgjhaa
open Go.ChangeShapes Go.WideShapes Go.ChangeAt Go.RowKit
theorem cells35 : Try.prog.cellsOf 35 = 17 := by kernel_rfl
theorem cells33 : Try.prog.cellsOf 33 = 16 := by kernel_rfl
theorem cells22 : Try.prog.cellsOf 22 = 1 := by kernel_rfl
theorem field0 : (Try.prog.fieldsOf 35)[0]?.map (fun f => (f.type, f.offset)) = some (33, 0) := by kernel_rfl
theorem field1 : (Try.prog.fieldsOf 35)[1]?.map (fun f => (f.type, f.offset)) = some (22, 16) := by kernel_rfl
theorem cpu_of {cs : Array Value} (hs : cs.size = 17) (h : ∀ i, i < 17 → ∃ n, cs[i]? = some (.int .u32 n) ∧ word n) : ∃ (R : Nat → Int) (pc : Int), cs = cpu R pc ∧ (∀ i, word (R i)) ∧ word pc := by
  refine ⟨fun i => if i < 16 then intOf (cs[i]?.getD (.bool false)) else 0, intOf (cs[16]?.getD (.bool false)), ?_, ?_, ?_⟩
  · apply Array.ext_getElem?
    intro j
    by_cases h1 : j < 16
    · obtain ⟨n, hn, -⟩ := h j (by omega)
      rw [cpu_get _ _ j h1, hn]; simp [h1, intOf]
    · by_cases h2 : j = 16
      · subst h2
        obtain ⟨n, hn, -⟩ := h 16 (by omega)
        rw [cpu_get16, hn]; rfl
      · rw [Array.getElem?_eq_none (by omega), Array.getElem?_eq_none (by rw [cpu_size]; omega)]
  · intro i
    by_cases h1 : i < 16
    · obtain ⟨n, hn, hw⟩ := h i (by omega)
      simp [h1, hn, hw, intOf]
    · simp [h1]; exact ⟨by omega, by omega⟩
  · obtain ⟨n, hn, hw⟩ := h 16 (by omega)
    simp [hn, hw, intOf]
theorem one_of {l : List Value} {i : Nat} {n : Int} (h : (l.drop i).take 1 = [.int .u32 n]) : l[i]? = some (.int .u32 n) := by
  have := congrArg (fun l => l[0]?) h
  simpa using this
theorem open_cpu {H : Type} {enc : TypeId × Value → H} {W : World} {base b : Nat} {spare : Nat → Bool} {held : Bool} {r : Reach} {v : Value} {d : DataW H} {p : List MemPlace}
    (hv : Value.okWide Try.prog W r b 35 v) (h : DataW.Trod enc Try.prog W base spare held 35 v d p) :
    ∃ (R : Nat → Int) (pc : Int), v = .agg (cpu R pc) ∧ (∀ i, word (R i)) ∧ word pc := by
  have hu : Try.prog.underlying 35 = some (.struct (Try.prog.fieldsOf 35)) := by kernel_rfl
  have hfs : (Try.prog.fieldsOf 35).size = 2 := by kernel_rfl
  obtain ⟨cs, rfl, hsz⟩ := okWide_struct hu hv
  rw [cells35] at hsz
  obtain ⟨fuel, hf⟩ := h
  obtain ⟨xs, n, -, -, -, hlen, hfields⟩ := DataW.trod_struct hu hf
  rw [hfs] at hlen
  obtain ⟨f0, e0, ht0, ho0⟩ : ∃ f, (Try.prog.fieldsOf 35)[0]? = some f ∧ f.type = 33 ∧ f.offset = 0 := by
    have := field0
    cases hq : (Try.prog.fieldsOf 35)[0]? with
    | none => simp [hq] at this
    | some f => simp [hq] at this; exact ⟨f, rfl, this.1, this.2⟩
  obtain ⟨f1, e1, ht1, ho1⟩ : ∃ f, (Try.prog.fieldsOf 35)[1]? = some f ∧ f.type = 22 ∧ f.offset = 16 := by
    have := field1
    cases hq : (Try.prog.fieldsOf 35)[1]? with
    | none => simp [hq] at this
    | some f => simp [hq] at this; exact ⟨f, rfl, this.1, this.2⟩
  have g0 := hfields 0 f0 e0
  have g1 := hfields 1 f1 e1
  rw [ht0, ho0, cells33, List.getElem?_eq_getElem (by omega)] at g0
  rw [ht1, ho1, cells22, List.getElem?_eq_getElem (by omega)] at g1
  obtain ⟨ys, m, -, -, -, hly, harr⟩ := DataW.trod_array Try.underlying33 g0
  obtain ⟨n1, h1, -, w1⟩ := DataW.trod_int Try.underlying22 g1
  obtain ⟨R, pc, hc, h2, h3⟩ := cpu_of hsz (fun i hi => by
    by_cases hlt : i < 16
    · have ha := harr i hlt
      rw [cells22, List.getElem?_eq_getElem (by omega)] at ha
      obtain ⟨k, hk, -, wk⟩ := DataW.trod_int Try.underlying22 ha
      refine ⟨k, ?_, bounds_u32 wk⟩
      have := one_of hk
      simp only [Value.cells, Nat.mul_one, List.drop_zero, List.getElem?_take] at this
      rw [if_pos hlt] at this
      simpa using this
    · obtain rfl : i = 16 := by omega
      refine ⟨n1, ?_, bounds_u32 w1⟩
      have := one_of h1
      simpa [Value.cells] using this)
  exact ⟨R, pc, by rw [hc], h2, h3⟩
end Go.Proofs.Ytjmdikabikgjhaa
