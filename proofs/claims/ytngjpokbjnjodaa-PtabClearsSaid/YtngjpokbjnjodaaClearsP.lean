import Derived.Test.YtngjpokbjnjodaaLeaves
import Derived.Test.YtngjpokbjnjodaaKit
import Derived.Deep.QuietTactic
import Derived.BigQuiet
import Derived.Deep.LoopGhost
import Derived.Deep.Cut
import Derived.Deep.CutRange
import Derived.Deep.DeepMust
/- PtabClears. -/
namespace Go.Proofs.Ytngjpokbjnjodaa
open Go.RowKit Go.BigFrame
set_option linter.unusedVariables false
set_option linter.unusedSimpArgs false
attribute [local go_sem] szIs_lit row_at row_past row_alloc nf_alloc row_set nf_set row_cell nf_cell row_drew nf_drew row_drewN nf_drewN cell_setRow frozen_setRow nlt1 nlt2 nlt3 nlt4 nne1 nne2 nne3 nen1 nen2 nen3
attribute [local go_sem] by_get by_set
open Go.Shelf
attribute [local go_sem] Oper.semAt_some
theorem nums_plain {w : World} {B len cap : Nat} {a : Option Addr} {Y : Nat → Int} (h : Nums .i64 w B a len cap Y) (hn : 0 < len) : ∃ b off, a = some ⟨b, off, none⟩ ∧ b < B ∧ ∀ i, i < len → w.cell? ⟨b, off + i, none⟩ = some (.int .i64 (Y i)) := by
  obtain ⟨ad, rfl, h1, h2⟩ := h.2.2.2 hn
  have hsp : ad.spot = none := by
    have hv := h2 0 hn
    have e : ad.add 0 = ad := rfl
    rw [e] at hv
    cases hs : ad.spot with
    | none => rfl
    | some _ => unfold World.cell? at hv; simp [hs] at hv; split at hv <;> cases hv
  obtain ⟨b, off, sp⟩ := ad
  simp only at hsp
  subst hsp
  exact ⟨b, off, rfl, h1, fun i hi => by have := h2 i hi; rwa [plain_add] at this⟩
theorem frL_upd (L : Nat → Option Nat) (k s : Nat) (hk : k < 4) (hl : L k = none) : (frL (updL L k s) 4).length = (frL L 4).length + 1 := by
  have e : ∀ L, (frL L 4).length = (L 0).toList.length + (L 1).toList.length + (L 2).toList.length + (L 3).toList.length := fun L => by
    rw [frL_succ, frL_succ, frL_succ, frL_succ]
    simp only [List.length_append]
    unfold frL; simp
  rw [e, e]
  rcases (show k = 0 ∨ k = 1 ∨ k = 2 ∨ k = 3 by omega) with rfl | rfl | rfl | rfl <;> simp [updL, hl] <;> omega
/-- What stands behind the first loop's rounds. -/
structure CI (len : Nat) (o : Nat → Int) (sp : Nat) (L : Nat → Option Nat) (E : Nat → Int) : Prop where
  cnt : sp = 1 + (frL L 4).length
  lt : ∀ k, k < 4 → ∀ f, L k = some f → f < sp
  en : ∀ p, p < 256 → E p ≠ 0 → ∃ i, i < len ∧ o i = (p : Int)
theorem CI.step {len : Nat} {o : Nat → Int} {sp j : Nat} {L L' : Nat → Option Nat} {E E' : Nat → Int} {e v : Int} {u : Bool} (h : CI len o sp L E) (hj : j < len) (hR : SetR 12 (o j) e (sp : Int) L E u v L' E') : CI len o (if u then sp + 1 else sp) L' E' := by
  have hen : ∀ q : Nat, o j = (q : Int) → ∀ p, p < 256 → updE E q e p ≠ 0 → ∃ i, i < len ∧ o i = (p : Int) := fun q hq p hp hne => by
    unfold updE at hne
    split at hne
    · rename_i hpq; subst hpq; exact ⟨j, hj, hq⟩
    · exact h.en p hp hne
  rcases hR with ⟨_, rfl, _, rfl, rfl⟩ | ⟨q, hq, hq2, h1 | h1 | h1 | h1 | h1 | h1⟩
  · exact h
  · obtain ⟨_, rfl, _, rfl, rfl⟩ := h1; exact h
  · obtain ⟨_, _, rfl, _, rfl, rfl⟩ := h1
    exact ⟨h.cnt, h.lt, hen q hq⟩
  · obtain ⟨_, _, _, rfl, _, rfl, rfl⟩ := h1; exact h
  · obtain ⟨_, _, _, _, rfl, _, rfl, rfl⟩ := h1; exact h
  · obtain ⟨_, _, _, _, rfl, _, rfl, rfl⟩ := h1; exact h
  · obtain ⟨_, hl, _, s, hs, hs2, rfl, _, rfl, rfl⟩ := h1
    obtain rfl : s = sp := by omega
    refine ⟨?_, fun k hk f hf => ?_, hen q hq⟩
    · rw [frL_upd L _ _ (by omega) hl]; have := h.cnt; simp; omega
    · unfold updL at hf
      split at hf
      · injection hf with hf; subst hf; simp
      · have := h.lt k hk f hf; simp; omega
theorem zero_step {o : Nat → Int} {j len : Nat} {L L' : Nat → Option Nat} {E E' : Nat → Int} {v : Int} {u : Bool} (hR : SetR 12 (o j) 0 (-1) L E u v L' E') (hE : ∀ p, p < 256 → E p ≠ 0 → ∃ i, j ≤ i ∧ i < len ∧ o i = (p : Int)) (h0 : ∀ p, p < 256 → L (p / 64) = none → E p = 0) :
    u = false ∧ ((v = 0) ∨ (v = 1 ∧ ¬ (0 ≤ o j ∧ o j < 256))) ∧ L' = L ∧ ∀ p, p < 256 → E' p ≠ 0 → ∃ i, j + 1 ≤ i ∧ i < len ∧ o i = (p : Int) := by
  have hm : mayE 12 0 = true := by decide
  have nxt : ∀ p, p < 256 → E p ≠ 0 → o j ≠ (p : Int) → ∃ i, j + 1 ≤ i ∧ i < len ∧ o i = (p : Int) := fun p hp hne hnp => by
    obtain ⟨i, h1, h2, h3⟩ := hE p hp hne
    have : i ≠ j := fun e => hnp (e ▸ h3)
    exact ⟨i, by omega, h2, h3⟩
  rcases hR with ⟨hp, rfl, rfl, rfl, rfl⟩ | ⟨q, hq, hq2, h1 | h1 | h1 | h1 | h1 | h1⟩
  · exact ⟨rfl, .inr ⟨rfl, hp⟩, rfl, fun p hp2 hne => nxt p hp2 hne (fun e => hp ⟨by omega, by omega⟩)⟩
  · rw [hm] at h1; exact absurd h1.1 (by simp)
  · obtain ⟨_, _, rfl, rfl, rfl, rfl⟩ := h1
    refine ⟨rfl, .inl rfl, rfl, fun p hp hne => ?_⟩
    unfold updE at hne
    split at hne
    · exact absurd rfl hne
    · rename_i hpq
      exact nxt p hp hne (fun e => hpq (by omega))
  · obtain ⟨_, hl, _, rfl, rfl, rfl, rfl⟩ := h1
    refine ⟨rfl, .inl rfl, rfl, fun p hp hne => nxt p hp hne (fun e => ?_)⟩
    obtain rfl : p = q := by omega
    exact hne (h0 p hp hl)
  · exact absurd rfl h1.2.2.1
  · exact absurd rfl h1.2.2.1
  · exact absurd rfl h1.2.2.1
theorem TS.no {w : World} {g b F t root : Nat} {L : Nat → Option Nat} {E : Nat → Int} (h : TS w g b F t root L E) : ∀ p, p < 256 → L (p / 64) = none → E p = 0 := by
  obtain ⟨M, _, h2⟩ := h.ex; exact h2.no
end Go.Proofs.Ytngjpokbjnjodaa
