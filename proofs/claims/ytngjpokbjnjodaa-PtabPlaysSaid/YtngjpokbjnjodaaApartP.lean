import Derived.Test.YtngjpokbjnjodaaWrite
import Derived.Test.YtngjpokbjnjodaaKit
import Derived.Deep.QuietTactic
import Derived.BigQuiet
/- PtabApart: Set, with the memory named; what stands behind its rounds. -/
namespace Go.Proofs.Ytngjpokbjnjodaa
open Go.RowKit Go.BigFrame
set_option linter.unusedVariables false
set_option linter.unusedSimpArgs false
attribute [local go_sem] szIs_lit row_at row_past row_alloc nf_alloc row_set nf_set row_cell nf_cell row_drew nf_drew row_drewN nf_drewN cell_setRow frozen_setRow nlt1 nlt2 nlt3 nlt4 nne1 nne2 nne3 nen1 nen2 nen3
attribute [local go_sem] by_get by_set
structure TSM (w : World) (g b F t root : Nat) (M : Nat → Int) (L : Nat → Option Nat) (E : Nat → Int) : Prop where
  mp : MP w g b F M
  tb : TB M F root L E
  ht : Blk w t (tabS g root)
  ne : t ≠ b
  hr : root < F
theorem zf_diff {M : Nat → Int} {o j : Nat} (h : zf M (o * 256) 256 j ≠ M j) : j / 256 = o := by
  unfold zf at h
  split at h
  · omega
  · exact absurd rfl h
theorem st_diff {M : Nat → Int} {a j : Nat} {x : Int} (h : st32 M a x 4 j ≠ M j) : a ≤ j ∧ j < a + 4 := by
  unfold st32 at h
  split at h
  · assumption
  · exact absurd rfl h
section
variable {w w' : World} {g b F t root : Nat} {M : Nat → Int} {L : Nat → Option Nat} {E : Nat → Int}
theorem TSM.below (h : TSM w g b F t root M L E) (hb : Below w.heap.size w w') : TSM w' g b F t root M L E := ⟨h.mp.below hb, h.tb, h.ht.below hb h.ht.lt, h.ne, h.hr⟩
theorem TSM.belowB {B : Nat} (h : TSM w g b F t root M L E) (hb : Below B w w') (h1 : g < B ∧ b < B ∧ t < B) : TSM w' g b F t root M L E := ⟨⟨h.mp.hg.below hb h1.1, h.mp.hb.below hb h1.2.1, h.mp.f1, h.mp.ne, h.mp.by_⟩, h.tb, h.ht.below hb h1.2.2, h.ne, h.hr⟩
theorem put_diff (h : TB M F root L E) (p : Nat) (hp : p < 256) {f : Nat} (hl : L (p / 64) = some f) {e : Int} {j : Nat} (hj : putM M root p e j ≠ M j) : j / 256 = f := by
  unfold putM at hj
  rw [h.leaf p hp hl] at hj
  have := st_diff hj
  omega
theorem grow_diff {p s j : Nat} (hp : p < 256) (hj : growM M root p s j ≠ M j) : j / 256 = root ∨ j / 256 = s := by
  by_cases h : growM M root p s j = zf M (s * 256) 256 j
  · rw [h] at hj; exact .inr (zf_diff hj)
  · have := st_diff (M := zf M (s * 256) 256) (a := root * 256 + 4 * (p / 64)) (j := j) (x := (s : Int) * 256 + 1) h
    exact .inl (by omega)
/-- What a Set changes: bytes of the root and of leaves. -/
def Dif (root : Nat) (M M' : Nat → Int) (L' : Nat → Option Nat) : Prop := ∀ j, M' j ≠ M j → j / 256 = root ∨ ∃ k, k < 4 ∧ L' k = some (j / 256)
theorem Dif.refl : Dif root M M L := fun j h => absurd rfl h
theorem set_m (h : TSM w g b F t root M L E) (p e spare : Int) (he : 0 ≤ e ∧ e ≤ 4294967295) (hsp : ∀ s : Nat, spare = s → s ≠ root ∧ ∀ k, k < 4 → L k ≠ some s) :
    Calls Try.prog 23 #[.pointer (some ⟨t, 0, none⟩), .int .i64 p, .int .u32 e, .int .i64 spare] w fun r w' => ∃ u v M' L' E', r = .returned (.tuple #[.bool u, .int .i64 v]) ∧ TSM w' g b F t root M' L' E' ∧ w.grownBy w' (some b) ∧ SetR F p e spare L E u v L' E' ∧ Dif root M M' L' := by
  obtain ⟨h1, h2, ht, hne, hrr⟩ := h
  have HH : TSM w g b F t root M L E := ⟨h1, h2, ht, hne, hrr⟩
  by_cases hp : 0 ≤ p ∧ p < 256
  · obtain ⟨q, rfl⟩ := Int.eq_ofNat_of_zero_le hp.1
    have hq : q < 256 := by omega
    cases hm : mayE F e with
    | false => exact (set_may h1 ht q e spare hq he.1 he.2 hm).mono fun r w' ⟨r1, r2⟩ => ⟨_, _, M, L, E, r1, HH.below r2, grown_some r2 b, .inr ⟨q, rfl, hq, .inl ⟨hm, rfl, rfl, rfl, rfl⟩⟩, Dif.refl⟩
    | true =>
      have hh := h2.has q hq
      cases hl : L (q / 64) with
      | some f =>
        rw [hl] at hh
        exact (set_put h1 ht hne hrr q e spare hq he.1 he.2 hm hh).mono fun r w' ⟨r1, r2, r3, r4⟩ => ⟨_, _, _, L, _, r1, ⟨r2, h2.put q hq hl e he, r3, hne, hrr⟩, r4, .inr ⟨q, rfl, hq, .inr (.inl ⟨hm, by rw [hl]; rfl, rfl, rfl, rfl, rfl⟩)⟩, fun j hj => .inr ⟨q / 64, by omega, by rw [put_diff h2 q hq hl hj]; exact hl⟩⟩
      | none =>
        rw [hl] at hh
        by_cases hz : e = 0
        · exact (set_none h1 ht hne hrr q e spare hq he.1 he.2 hm hh hz).mono fun r w' ⟨r1, r2⟩ => ⟨_, _, M, L, E, r1, HH.below r2, grown_some r2 b, .inr ⟨q, rfl, hq, .inr (.inr (.inl ⟨hm, hl, hz, rfl, rfl, rfl, rfl⟩))⟩, Dif.refl⟩
        · by_cases hs : spare < 0
          · exact (set_neg h1 ht hne hrr q e spare hq he.1 he.2 hm hh hz hs).mono fun r w' ⟨r1, r2⟩ => ⟨_, _, M, L, E, r1, HH.below r2, grown_some r2 b, .inr ⟨q, rfl, hq, .inr (.inr (.inr (.inl ⟨hm, hl, hz, hs, rfl, rfl, rfl, rfl⟩)))⟩, Dif.refl⟩
          · by_cases hs2 : (F : Int) ≤ spare
            · exact (set_far h1 ht hne hrr q e spare hq he.1 he.2 hm hh hz hs2).mono fun r w' ⟨r1, r2⟩ => ⟨_, _, M, L, E, r1, HH.below r2, grown_some r2 b, .inr ⟨q, rfl, hq, .inr (.inr (.inr (.inr (.inl ⟨hm, hl, hz, hs2, rfl, rfl, rfl, rfl⟩))))⟩, Dif.refl⟩
            · obtain ⟨s, rfl⟩ := Int.eq_ofNat_of_zero_le (show 0 ≤ spare by omega)
              obtain ⟨n1, n2⟩ := hsp s rfl
              have hg := h2.grow q s hq hl (by omega) h1.f1.2 n1 n2
              have hh2 := hg.has q hq
              have hl2 : updL L (q / 64) s (q / 64) = some s := by unfold updL; rw [if_pos rfl]
              rw [hl2] at hh2
              refine (set_grow h1 ht hne hrr q s e hq (by omega) he.2 hm hh (by omega) hh2).mono fun r w' ⟨r1, r2, r3, r4⟩ => ⟨_, _, _, _, _, r1, ⟨r2, hg.put q hq hl2 e he, r3, hne, hrr⟩, r4, .inr ⟨q, rfl, hq, .inr (.inr (.inr (.inr (.inr ⟨hm, hl, hz, s, rfl, by omega, rfl, rfl, rfl, rfl⟩))))⟩, fun j hj => ?_⟩
              by_cases hd : putM (growM M root q s) root q e j = growM M root q s j
              · rw [hd] at hj
                rcases grow_diff hq hj with e1 | e1
                · exact .inl e1
                · exact .inr ⟨q / 64, by omega, by rw [e1]; exact hl2⟩
              · exact .inr ⟨q / 64, by omega, by rw [put_diff hg q hq hl2 hd]; exact hl2⟩
  · exact (set_page ht p e spare hp).mono fun r w' ⟨r1, r2⟩ => ⟨_, _, M, L, E, r1, by subst r2; exact HH, by subst r2; exact only_refl _ _, .inl ⟨hp, rfl, rfl, rfl, rfl⟩, Dif.refl⟩
end
def iv (l : List Int) : List Value := l.map (.int .i64)
theorem iv_len (l : List Int) : (iv l).length = l.length := by simp [iv]
theorem iv_get {l : List Int} {i : Nat} {x : Int} (h : l[i]? = some x) : (iv l)[i]? = some (.int .i64 x) := by simp [iv, h]
/-- What the table owns; what the other frames hold. -/
structure OI (fill : Int) (root : Nat) (M : Nat → Int) (L : Nat → Option Nat) (own : List Int) : Prop where
  r : (root : Int) ∈ own
  l : ∀ k, k < 4 → ∀ f, L k = some f → (f : Int) ∈ own
  f : ∀ k : Nat, k < 12 → (k : Int) ∉ own → ∀ i, i < 256 → M (k * 256 + i) = fill
theorem OI.step {fill p e sp : Int} {root : Nat} {M M' : Nat → Int} {L L' : Nat → Option Nat} {E E' : Nat → Int} {own : List Int} {u : Bool} {v : Int} (h : OI fill root M L own) (hR : SetR 12 p e sp L E u v L' E') (hD : Dif root M M' L') : OI fill root M' L' (if u = true ∧ v = 0 then own ++ [sp] else own) := by
  have key : ∀ own', (∀ x ∈ own, x ∈ own') → (∀ k, k < 4 → ∀ f, L' k = some f → (f : Int) ∈ own') → OI fill root M' L' own' := fun own' h1 h2 =>
    ⟨h1 _ h.r, h2, fun k hk hn i hi => by
      have hm : M' (k * 256 + i) = M (k * 256 + i) := by
        by_cases hq : M' (k * 256 + i) = M (k * 256 + i)
        · exact hq
        · have hd : (k * 256 + i) / 256 = k := by omega
          rcases hD _ hq with e1 | ⟨k2, hk2, e1⟩
          · rw [hd] at e1; exact absurd (h1 _ (e1 ▸ h.r)) hn
          · rw [hd] at e1; exact absurd (h2 k2 hk2 k e1) hn
      rw [hm]
      exact h.f k hk (fun q => hn (h1 _ q)) i hi⟩
  rcases hR with ⟨_, rfl, _, rfl, rfl⟩ | ⟨q, hq, hq2, h1 | h1 | h1 | h1 | h1 | h1⟩
  · exact key own (fun x hx => hx) h.l
  · obtain ⟨_, rfl, _, rfl, rfl⟩ := h1; exact key own (fun x hx => hx) h.l
  · obtain ⟨_, _, rfl, _, rfl, rfl⟩ := h1; exact key own (fun x hx => hx) h.l
  · obtain ⟨_, _, _, rfl, _, rfl, rfl⟩ := h1; exact key own (fun x hx => hx) h.l
  · obtain ⟨_, _, _, _, rfl, _, rfl, rfl⟩ := h1; exact key own (fun x hx => hx) h.l
  · obtain ⟨_, _, _, _, rfl, _, rfl, rfl⟩ := h1; exact key own (fun x hx => hx) h.l
  · obtain ⟨_, hl, _, s, hs, hs2, rfl, rfl, rfl, rfl⟩ := h1
    rw [if_pos ⟨rfl, rfl⟩]
    refine key _ (fun x hx => List.mem_append_left _ hx) (fun k hk f hf => ?_)
    unfold updL at hf
    split at hf
    · injection hf with hf; subst hf; rw [hs]; exact List.mem_append_right _ (by simp)
    · exact List.mem_append_left _ (h.l k hk f hf)
end Go.Proofs.Ytngjpokbjnjodaa
