import Derived.Test.YtdpbfmookhgilaaSet2
import Derived.Deep.QuietTactic
import Derived.BigQuiet
import Derived.Deep.LoopGhost
import Derived.Deep.Cut
import Derived.Deep.CutRange
import Derived.Deep.DeepMust
/- A table in memory; Set, whatever comes; All of a table without entries. -/
namespace Go.Proofs.Ytdpbfmookhgilaa
open Go.RowKit Go.BigFrame
set_option linter.unusedVariables false
set_option linter.unusedSimpArgs false
attribute [local go_sem] szIs_lit row_at row_past row_alloc nf_alloc row_set nf_set row_cell nf_cell row_drew nf_drew row_drewN nf_drewN cell_setRow frozen_setRow nlt1 nlt2 nlt3 nlt4 nne1 nne2 nne3 nen1 nen2 nen3
attribute [local go_sem] by_get by_set
structure TS (w : World) (g b F t root : Nat) (L : Nat → Option Nat) (E : Nat → Int) : Prop where
  ex : ∃ M, MP w g b F M ∧ TB M F root L E
  ht : Blk w t (tabS g root)
  ne : t ≠ b
  hr : root < F
/-- What Set does. -/
def SetR (F : Nat) (p e spare : Int) (L : Nat → Option Nat) (E : Nat → Int) (u : Bool) (v : Int) (L' : Nat → Option Nat) (E' : Nat → Int) : Prop :=
  (¬ (0 ≤ p ∧ p < 256) ∧ u = false ∧ v = 1 ∧ L' = L ∧ E' = E) ∨
  ∃ q : Nat, p = q ∧ q < 256 ∧
    ((mayE F e = false ∧ u = false ∧ v = 50 ∧ L' = L ∧ E' = E) ∨
     (mayE F e = true ∧ (L (q / 64)).isSome = true ∧ u = false ∧ v = 0 ∧ L' = L ∧ E' = updE E q e) ∨
     (mayE F e = true ∧ L (q / 64) = none ∧ e = 0 ∧ u = false ∧ v = 0 ∧ L' = L ∧ E' = E) ∨
     (mayE F e = true ∧ L (q / 64) = none ∧ e ≠ 0 ∧ spare < 0 ∧ u = false ∧ v = 2 ∧ L' = L ∧ E' = E) ∨
     (mayE F e = true ∧ L (q / 64) = none ∧ e ≠ 0 ∧ (F : Int) ≤ spare ∧ u = false ∧ v = 10 ∧ L' = L ∧ E' = E) ∨
     (mayE F e = true ∧ L (q / 64) = none ∧ e ≠ 0 ∧ ∃ s : Nat, spare = s ∧ s < F ∧ u = true ∧ v = 0 ∧ L' = updL L (q / 64) s ∧ E' = updE E q e))
section
variable {w w' : World} {g b F t root : Nat} {L : Nat → Option Nat} {E : Nat → Int}
theorem TS.below (h : TS w g b F t root L E) (hb : Below w.heap.size w w') : TS w' g b F t root L E := by
  obtain ⟨M, h1, h2⟩ := h.ex
  exact ⟨⟨M, h1.below hb, h2⟩, h.ht.below hb h.ht.lt, h.ne, h.hr⟩
theorem grown_none (hb : Below w.heap.size w w') : w.grownBy w' none := ⟨hb.os, hb.tape, hb.output, hb.size, fun k hk _ => hb.block k hk⟩
theorem grown_some (hb : Below w.heap.size w w') (b : Nat) : w.grownBy w' (some b) := ⟨hb.os, hb.tape, hb.output, hb.size, fun k hk _ => hb.block k hk⟩
theorem set_all (h : TS w g b F t root L E) (p e spare : Int) (he : 0 ≤ e ∧ e ≤ 4294967295) (hsp : ∀ s : Nat, spare = s → s ≠ root ∧ ∀ k, k < 4 → L k ≠ some s) :
    Calls Try.prog 13 #[.pointer (some ⟨t, 0, none⟩), .int .i64 p, .int .u32 e, .int .i64 spare] w fun r w' => ∃ u v L' E', r = .returned (.tuple #[.bool u, .int .i64 v]) ∧ TS w' g b F t root L' E' ∧ w.grownBy w' (some b) ∧ SetR F p e spare L E u v L' E' := by
  obtain ⟨M, h1, h2⟩ := h.ex
  by_cases hp : 0 ≤ p ∧ p < 256
  · obtain ⟨q, rfl⟩ := Int.eq_ofNat_of_zero_le hp.1
    have hq : q < 256 := by omega
    cases hm : mayE F e with
    | false => exact (set_may h1 h.ht q e spare hq he.1 he.2 hm).mono fun r w' ⟨r1, r2⟩ => ⟨_, _, L, E, r1, h.below r2, grown_some r2 b, .inr ⟨q, rfl, hq, .inl ⟨hm, rfl, rfl, rfl, rfl⟩⟩⟩
    | true =>
      have hh := h2.has q hq
      cases hl : L (q / 64) with
      | some f =>
        rw [hl] at hh
        exact (set_put h1 h.ht h.ne h.hr q e spare hq he.1 he.2 hm hh).mono fun r w' ⟨r1, r2, r3, r4⟩ => ⟨_, _, L, _, r1, ⟨⟨_, r2, h2.put q hq hl e he⟩, r3, h.ne, h.hr⟩, r4, .inr ⟨q, rfl, hq, .inr (.inl ⟨hm, by rw [hl]; rfl, rfl, rfl, rfl, rfl⟩)⟩⟩
      | none =>
        rw [hl] at hh
        by_cases hz : e = 0
        · exact (set_none h1 h.ht h.ne h.hr q e spare hq he.1 he.2 hm hh hz).mono fun r w' ⟨r1, r2⟩ => ⟨_, _, L, E, r1, h.below r2, grown_some r2 b, .inr ⟨q, rfl, hq, .inr (.inr (.inl ⟨hm, hl, hz, rfl, rfl, rfl, rfl⟩))⟩⟩
        · by_cases hs : spare < 0
          · exact (set_neg h1 h.ht h.ne h.hr q e spare hq he.1 he.2 hm hh hz hs).mono fun r w' ⟨r1, r2⟩ => ⟨_, _, L, E, r1, h.below r2, grown_some r2 b, .inr ⟨q, rfl, hq, .inr (.inr (.inr (.inl ⟨hm, hl, hz, hs, rfl, rfl, rfl, rfl⟩)))⟩⟩
          · by_cases hs2 : (F : Int) ≤ spare
            · exact (set_far h1 h.ht h.ne h.hr q e spare hq he.1 he.2 hm hh hz hs2).mono fun r w' ⟨r1, r2⟩ => ⟨_, _, L, E, r1, h.below r2, grown_some r2 b, .inr ⟨q, rfl, hq, .inr (.inr (.inr (.inr (.inl ⟨hm, hl, hz, hs2, rfl, rfl, rfl, rfl⟩))))⟩⟩
            · obtain ⟨s, rfl⟩ := Int.eq_ofNat_of_zero_le (show 0 ≤ spare by omega)
              obtain ⟨n1, n2⟩ := hsp s rfl
              have hg := h2.grow q s hq hl (by omega) h1.f1.2 n1 n2
              have hh2 := hg.has q hq
              have hl2 : updL L (q / 64) s (q / 64) = some s := by unfold updL; rw [if_pos rfl]
              rw [hl2] at hh2
              exact (set_grow h1 h.ht h.ne h.hr q s e hq (by omega) he.2 hm hh (by omega) hh2).mono fun r w' ⟨r1, r2, r3, r4⟩ => ⟨_, _, _, _, r1, ⟨⟨_, r2, hg.put q hq hl2 e he⟩, r3, h.ne, h.hr⟩, r4, .inr ⟨q, rfl, hq, .inr (.inr (.inr (.inr (.inr ⟨hm, hl, hz, s, rfl, by omega, rfl, rfl, rfl, rfl⟩))))⟩⟩
  · exact (set_page h.ht p e spare hp).mono fun r w' ⟨r1, r2⟩ => ⟨_, _, L, E, r1, by subst r2; exact h, by subst r2; exact only_refl _ _, .inl ⟨hp, rfl, rfl, rfl, rfl⟩⟩
theorem TS.walk (h : TS w g b F t root L E) (p : Nat) (hp : p < 256) : Calls Try.prog 42 #[.pointer (some ⟨g, 0, none⟩), .int .i64 (root : Int), .int .i64 (p : Int)] w fun e w' => e = .returned (.int .u32 (E p)) ∧ Below w.heap.size w w' := by
  obtain ⟨M, h1, h2⟩ := h.ex
  have := walk_ok h1 root p h.hr hp
  rwa [h2.wlk p hp] at this
set_option maxHeartbeats 2000000 in
set_option maxRecDepth 20000 in
end
end Go.Proofs.Ytdpbfmookhgilaa
