import Derived.Test.YtliliimdkkaocaaRefTake
/- The reference: Take, whatever comes; sameInts. -/
namespace Go.Proofs.Ytliliimdkkaocaa
open Go.RowKit
set_option linter.unusedVariables false
set_option linter.unusedSimpArgs false
attribute [local go_sem] szIs_lit row_at row_past row_alloc nf_alloc row_set nf_set row_cell nf_cell row_drew nf_drew row_drewN nf_drewN cell_setRow frozen_setRow nlt1 nlt2 nlt3 nlt4 nne1 nne2 nne3 nen1 nen2 nen3

theorem rtake_ok (base g c : Nat) (A : Option Addr) (size live : Int) (L : List Seat) (w : World) (h : GateA w base g A c size live L) (hw : WF size live L) (hb : base ≤ w.heap.size) (id n : Int) : Calls Try.prog 30 #[.pointer (some ⟨g, 0, none⟩), .int .i64 id, .int .i64 n] w fun e w' => ∃ A' c', e = .returned (.int .i64 (tak live L id n).1) ∧ GateA w' base g A' c' size (tak live L id n).2.1 (tak live L id n).2.2 ∧ FrG w w' g A A' := by
  by_cases h1 : n < 0
  · have hk : tak live L id n = (1, live, L) := by unfold tak; rw [if_pos h1]
    rw [hk]
    exact (rtake_neg base g c A size live L w h id n h1).mono fun e w' q => ⟨A, c, q.1, by rw [← q.2]; exact h, by rw [← q.2]; exact FrG.refl _ _ _⟩
  · by_cases h2 : findI L id < 0
    · have hk : tak live L id n = (4, live, L) := by unfold tak; rw [if_neg h1, if_pos h2]
      rw [hk]
      exact (rtake_none base g c A size live L w h id n h1 hw.len h2).mono fun e w' q => ⟨A, c, q.1, h.below q.2, FrG.of_below g A q.2⟩
    · obtain ⟨i, hi⟩ : ∃ i : Nat, findI L id = i := ⟨(findI L id).toNat, by omega⟩
      obtain ⟨s, hs, _⟩ := findI_some L id i hi
      have hit : (findI L id).toNat = i := by omega
      refine rtake_at base g c A size live L w h hw hb id n h1 i s hi hs _ _ _ (Lib.hid ?_)
      unfold tak
      rw [if_neg h1, if_neg h2, hit, hs]
      simp only
      split
      · exact ⟨rfl, rfl, rfl⟩
      · split <;> exact ⟨rfl, rfl, rfl⟩
end Go.Proofs.Ytliliimdkkaocaa
