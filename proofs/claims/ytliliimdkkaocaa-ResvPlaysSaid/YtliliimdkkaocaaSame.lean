import Derived.Test.YtliliimdkkaocaaRefTakeOk
/- sameInts. -/
namespace Go.Proofs.Ytliliimdkkaocaa
open Go.RowKit
set_option linter.unusedVariables false
set_option linter.unusedSimpArgs false
attribute [local go_sem] szIs_lit row_at row_past row_alloc nf_alloc row_set nf_set row_cell nf_cell row_drew nf_drew row_drewN nf_drewN cell_setRow frozen_setRow nlt1 nlt2 nlt3 nlt4 nne1 nne2 nne3 nen1 nen2 nen3

/-- Two rows with the same numbers. -/
theorem same_ok (base base2 : Nat) (A A2 : Option Addr) (c c2 : Nat) (l : List Int) (w : World) (h : Own w base 3 A l.length c (fun i => .int .i64 (l.getD i 0))) (h2 : Own w base2 3 A2 l.length c2 (fun i => .int .i64 (l.getD i 0))) (hlen : l.length ≤ 1000) : Calls Try.prog 32 #[.slice A l.length c, .slice A2 l.length c2] w fun e w' => e = .returned (.bool true) ∧ Below w.heap.size w w' := by
  have HH := Lib.hid h
  have HH2 := Lib.hid h2
  clear h h2
  go_enter Try.func32, Try.ntmps32
  go_wp2_with fail
  go_loopg [5] l.length (fun k i_ wr => ∃ (j : Nat), i_ = .int .i64 (j : Int) ∧ k = l.length - j ∧ j ≤ l.length ∧ ∃ n, wr = w.drewN n)
  case atStart => exact ⟨0, rfl, rfl, by omega, 0, rfl⟩
  case round =>
    obtain ⟨j, rfl, hk, hj, m, rfl⟩ := hrel
    have HK := Lib.hid hk
    clear hk
    by_cases hlt : j < l.length
    · obtain ⟨b, hA, hc⟩ := HH.out.cells (by omega)
      obtain ⟨b2, hA2, hc2⟩ := HH2.out.cells (by omega)
      subst hA hA2
      have e1 := hc j hlt
      have e2 := hc2 j hlt
      have a1 : (⟨b, 0, none⟩ : Addr).add j = ⟨b, j, none⟩ := by unfold Addr.add; split <;> simp_all
      have a2 : (⟨b2, 0, none⟩ : Addr).add j = ⟨b2, j, none⟩ := by unfold Addr.add; split <;> simp_all
      rw [a1] at e1
      rw [a2] at e2
      generalize l.getD j 0 = x at *
      clear hc hc2 a1 a2
      go_wp2_with fail
      go_quiet (fail)
      go_wp2_with fail
      go_roundg (l.length - (j + 1))
      case measure => have := HK.out; omega
      case rel => exact ⟨j + 1, by go_num, rfl, by omega, _, rfl⟩
    · obtain rfl : j = l.length := by omega
      go_wp2
      go_ret
      exact ⟨by first | rfl | simp, ⟨rfl, rfl, rfl, Nat.le_refl _, fun _ _ => rfl⟩⟩
end Go.Proofs.Ytliliimdkkaocaa
