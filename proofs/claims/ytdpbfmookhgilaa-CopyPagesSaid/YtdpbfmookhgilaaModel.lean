import Derived.Test.YtdpbfmookhgilaaTab4
/- What a table is: leaves and entries; what Set does to it. -/
namespace Go.Proofs.Ytdpbfmookhgilaa
open Go.RowKit Go.BigFrame
set_option linter.unusedVariables false
set_option linter.unusedSimpArgs false
attribute [local go_sem] szIs_lit row_at row_past row_alloc nf_alloc row_set nf_set row_cell nf_cell row_drew nf_drew row_drewN nf_drewN cell_setRow frozen_setRow nlt1 nlt2 nlt3 nlt4 nne1 nne2 nne3 nen1 nen2 nen3
attribute [local go_sem] by_get by_set
theorem le32_other (M : Nat → Int) (a c : Nat) (x : Int) (ha : a % 4 = 0) (hc : c % 4 = 0) (h : a ≠ c) : le32 (st32 M a x 4) c = le32 M c := by
  unfold le32 st32
  rw [if_neg (by omega), if_neg (by omega), if_neg (by omega), if_neg (by omega)]
theorem le32_zf_in (M : Nat → Int) (o k c : Nat) (h1 : o ≤ c) (h2 : c + 4 ≤ o + k) : le32 (zf M o k) c = 0 := by
  unfold le32 zf
  rw [if_pos (by omega), if_pos (by omega), if_pos (by omega), if_pos (by omega)]; rfl
theorem le32_zf_out (M : Nat → Int) (o k c : Nat) (h : c + 4 ≤ o ∨ o + k ≤ c) : le32 (zf M o k) c = le32 M c := by
  unfold le32 zf
  rw [if_neg (by omega), if_neg (by omega), if_neg (by omega), if_neg (by omega)]
/-- The memory says a table: leaves, entries. -/
structure TB (M : Nat → Int) (F root : Nat) (L : Nat → Option Nat) (E : Nat → Int) : Prop where
  nn : ∀ k, k < 4 → L k = none → le32 M (root * 256 + 4 * k) = 0
  sm : ∀ k, k < 4 → ∀ f, L k = some f → le32 M (root * 256 + 4 * k) = f * 256 + 1 ∧ f < F ∧ f ≠ root
  inj : ∀ j k f, j < 4 → k < 4 → L j = some f → L k = some f → j = k
  ent : ∀ p, p < 256 → ∀ f, L (p / 64) = some f → le32 M (f * 256 + 4 * (p % 64)) = E p
  no : ∀ p, p < 256 → L (p / 64) = none → E p = 0
def updE (E : Nat → Int) (p : Nat) (e : Int) : Nat → Int := fun q => if q = p then e else E q
def updL (L : Nat → Option Nat) (k : Nat) (f : Nat) : Nat → Option Nat := fun j => if j = k then some f else L j
section
variable {M : Nat → Int} {F root : Nat} {L : Nat → Option Nat} {E : Nat → Int}
theorem TB.zero (M : Nat → Int) (F root : Nat) : TB (zf M (root * 256) 256) F root (fun _ => none) (fun _ => 0) := by
  refine ⟨fun k hk _ => le32_zf_in _ _ _ _ (by omega) (by omega), ?_, ?_, ?_, fun _ _ _ => rfl⟩
  · intro k _ f h; cases h
  · intro j k f _ _ h; cases h
  · intro p _ f h; cases h
theorem TB.has (h : TB M F root L E) (p : Nat) (hp : p < 256) : hasL M F root p = (L (p / 64)).isSome := by
  unfold hasL rootW
  cases hl : L (p / 64) with
  | none => rw [h.nn _ (by omega) hl]; rfl
  | some f =>
    obtain ⟨h1, h2, h3⟩ := h.sm _ (by omega) f hl
    rw [h1]
    have e1 : ((f : Int) * 256 + 1) % 256 = 1 := by omega
    have e2 : ((f : Int) * 256 + 1) / 256 = f := by omega
    rw [e1, e2]
    simp; omega
theorem TB.leaf (h : TB M F root L E) (p : Nat) (hp : p < 256) {f : Nat} (hl : L (p / 64) = some f) : leafF M root p = f := by
  unfold leafF rootW
  rw [(h.sm _ (by omega) f hl).1]
  omega
theorem TB.wlk (h : TB M F root L E) (p : Nat) (hp : p < 256) : wlk M F root p = E p := by
  unfold Ytdpbfmookhgilaa.wlk
  rw [h.has p hp]
  cases hl : L (p / 64) with
  | none => simp; exact (h.no p hp hl).symm
  | some f => simp; rw [h.leaf p hp hl]; exact h.ent p hp f hl
theorem TB.put (h : TB M F root L E) (p : Nat) (hp : p < 256) {f : Nat} (hl : L (p / 64) = some f) (e : Int) (he : 0 ≤ e ∧ e ≤ 4294967295) : TB (putM M root p e) F root L (updE E p e) := by
  obtain ⟨h1, h2, h3⟩ := h.sm _ (by omega) f hl
  have hpm : putM M root p e = st32 M (f * 256 + 4 * (p % 64)) e 4 := by unfold putM; rw [h.leaf p hp hl]
  rw [hpm]
  refine ⟨fun k hk hn => ?_, fun k hk f' hf => ?_, h.inj, fun q hq f' hf => ?_, fun q hq hn => ?_⟩
  · rw [le32_other _ _ _ _ (by omega) (by omega) (by omega)]; exact h.nn k hk hn
  · rw [le32_other _ _ _ _ (by omega) (by omega) (by omega)]; exact h.sm k hk f' hf
  · unfold updE
    by_cases hqp : q = p
    · subst hqp
      rw [if_pos rfl]
      obtain rfl : f' = f := by rw [hl] at hf; injection hf with hf; exact hf.symm
      exact le32_st _ _ _ he.1 he.2
    · rw [if_neg hqp, le32_other _ _ _ _ (by omega) (by omega) ?_]
      · exact h.ent q hq f' hf
      · intro heq
        have : f' = f := by omega
        subst this
        have := h.inj _ _ _ (by omega) (by omega) hl hf
        omega
  · unfold updE
    rw [if_neg (fun e => by subst e; rw [hl] at hn; cases hn)]
    exact h.no q hq hn
theorem TB.grow (h : TB M F root L E) (p spare : Nat) (hp : p < 256) (hl : L (p / 64) = none) (hs : spare < F) (hF : F ≤ 4096) (hr : spare ≠ root) (hn : ∀ k, k < 4 → L k ≠ some spare) : TB (growM M root p spare) F root (updL L (p / 64) spare) E := by
  unfold growM
  refine ⟨fun k hk hk2 => ?_, fun k hk f hf => ?_, fun j k f hj hk hf hf2 => ?_, fun q hq f hf => ?_, fun q hq hq2 => ?_⟩
  · unfold updL at hk2
    split at hk2
    · cases hk2
    · rw [le32_other _ _ _ _ (by omega) (by omega) (by omega), le32_zf_out _ _ _ _ (by omega)]
      exact h.nn k hk hk2
  · unfold updL at hf
    split at hf
    · rename_i hkp
      subst hkp
      injection hf with hf
      subst hf
      exact ⟨le32_st _ _ _ (by omega) (by omega), hs, hr⟩
    · rw [le32_other _ _ _ _ (by omega) (by omega) (by omega), le32_zf_out _ _ _ _ (by omega)]
      exact h.sm k hk f hf
  · unfold updL at hf hf2
    split at hf <;> split at hf2
    · omega
    · injection hf with hf; subst hf; exact absurd hf2 (hn k hk)
    · injection hf2 with hf2; subst hf2; exact absurd hf (hn j hj)
    · exact h.inj j k f hj hk hf hf2
  · unfold updL at hf
    split at hf
    · rename_i hqp
      injection hf with hf
      subst hf
      rw [le32_other _ _ _ _ (by omega) (by omega) (by omega), le32_zf_in _ _ _ _ (by omega) (by omega)]
      exact (h.no q hq (by rw [hqp]; exact hl)).symm
    · obtain ⟨h1, h2, h3⟩ := h.sm _ (by omega) f hf
      have hfs : f ≠ spare := fun e => hn _ (by omega) (e ▸ hf)
      rw [le32_other _ _ _ _ (by omega) (by omega) (by omega), le32_zf_out _ _ _ _ (by omega)]
      exact h.ent q hq f hf
  · unfold updL at hq2
    split at hq2
    · cases hq2
    · exact h.no q hq hq2
end
end Go.Proofs.Ytdpbfmookhgilaa
