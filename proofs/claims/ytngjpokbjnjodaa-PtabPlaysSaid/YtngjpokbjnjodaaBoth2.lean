import Derived.Test.YtngjpokbjnjodaaRefT8
import Derived.Test.YtngjpokbjnjodaaAllG
/- A table of both. -/
namespace Go.Proofs.Ytngjpokbjnjodaa
open Go.RowKit Go.BigFrame
set_option linter.unusedVariables false
set_option linter.unusedSimpArgs false
attribute [local go_sem] szIs_lit row_at row_past row_alloc nf_alloc row_set nf_set row_cell nf_cell row_drew nf_drew row_drewN nf_drewN cell_setRow frozen_setRow nlt1 nlt2 nlt3 nlt4 nne1 nne2 nne3 nen1 nen2 nen3
attribute [local go_sem] by_get by_set
theorem flag2 (y : Int) (h0 : 0 ≤ y) (h1 : y < 256) : (bits .and .i64 y 2 == 0) = (y / 2 % 2 == 0) := by
  have key : ∀ n : Fin 256, (bits .and .i64 (n.val : Int) 2 == 0) = ((n.val : Int) / 2 % 2 == 0) := by decide +kernel
  have := key ⟨y.toNat, by omega⟩
  have e : ((y.toNat : Nat) : Int) = y := Int.toNat_of_nonneg h0
  simpa [e] using this
theorem TS.only {w w' : World} {g b F t root k : Nat} {L : Nat → Option Nat} {E : Nat → Int} (h : TS w g b F t root L E) (hg : w.grownBy w' (some k)) (h1 : g ≠ k) (h2 : b ≠ k) (h3 : t ≠ k) : TS w' g b F t root L E := by
  obtain ⟨M, m1, m2⟩ := h.ex
  exact ⟨⟨M, ⟨m1.hg.only hg m1.hg.lt h1, m1.hb.only hg m1.hb.lt h2, m1.f1, m1.ne, m1.by_⟩, m2⟩, h.ht.only hg h.ht.lt h3, h.ne, h.hr⟩
theorem hasF_lvL {L : Nat → Option Nat} {s : Nat} (h : hasF (lvL L) (s : Int) = false) : ∀ k, k < 4 → L k ≠ some s := by
  intro k hk hl
  have : hasF (lvL L) (s : Int) = true := List.any_eq_true.2 ⟨(k, s), lvL_mem.2 ⟨hk, hl⟩, by simp⟩
  rw [h] at this; cases this
/-- What the leaves lie apart from. -/
def Zs (bb g b t x : Nat) (k : Nat) : Prop := k = bb ∨ k = g ∨ k = b ∨ k = t ∨ k = x
structure J2 (w : World) (B bb g b t x F root : Nat) (L : Nat → Option Nat) (E : Nat → Int) : Prop where
  hb : Blk w bb (bothS g t x)
  ts : TS w g b F t root L E
  rt : RT w x (Zs bb g b t x) F root L E
  d1 : bb ≠ b
  d2 : bb ≠ x
  d3 : b ≠ x
  d4 : t ≠ x
  d5 : g ≠ x
  b1 : B ≤ b
  b2 : B ≤ x
  eb : ∀ p, 0 ≤ E p ∧ E p ≤ 4294967295
section
variable {w w' : World} {B bb g b t x F root : Nat} {L L' : Nat → Option Nat} {E E' : Nat → Int}
theorem J2.below (h : J2 w B bb g b t x F root L E) (hb : Below w.heap.size w w') : J2 w' B bb g b t x F root L E :=
  ⟨h.hb.below hb h.hb.lt, h.ts.below hb, h.rt.below hb, h.d1, h.d2, h.d3, h.d4, h.d5, h.b1, h.b2, h.eb⟩
theorem J2.lts (h : J2 w B bb g b t x F root L E) : ∀ k, Zs bb g b t x k → k < w.heap.size := by
  obtain ⟨M, m1, m2⟩ := h.ts.ex
  rintro k (rfl | rfl | rfl | rfl | rfl)
  · exact h.hb.lt
  · exact m1.hg.lt
  · exact m1.hb.lt
  · exact h.ts.ht.lt
  · exact h.rt.lt
theorem SetR.eb {F : Nat} {p e sp v : Int} {u : Bool} (h : SetR F p e sp L E u v L' E') (he : 0 ≤ e ∧ e ≤ 4294967295) (hb : ∀ p, 0 ≤ E p ∧ E p ≤ 4294967295) : ∀ p, 0 ≤ E' p ∧ E' p ≤ 4294967295 := by
  have hu : ∀ q p, 0 ≤ updE E q e p ∧ updE E q e p ≤ 4294967295 := fun q p => by unfold updE; split <;> first | exact he | exact hb p
  rcases h with ⟨_, _, _, _, rfl⟩ | ⟨q, _, _, h⟩
  · exact hb
  · rcases h with ⟨_, _, _, _, rfl⟩ | ⟨_, _, _, _, _, rfl⟩ | ⟨_, _, _, _, _, _, rfl⟩ | ⟨_, _, _, _, _, _, _, rfl⟩ | ⟨_, _, _, _, _, _, _, rfl⟩ | ⟨_, _, _, s, _, _, _, _, _, rfl⟩ <;> first | exact hb | exact hu _
theorem rmay_any {sl : Value} {F0 : Nat} {root : Int} (h : Blk w x (rrow (F0 : Int) root sl E)) (e : Int) (he : 0 ≤ e ∧ e ≤ 4294967295) : Calls Try.prog 59 #[.pointer (some ⟨x, 0, none⟩), .int .u32 e] w fun r w' => r = .returned (.bool (mayE F0 e)) ∧ ∃ n, w' = w.drewN n := by
  unfold mayE
  by_cases hz : e = 0
  · subst hz
    rw [if_neg (by decide)]
    exact (rmay_zero _ w).mono fun r w' ⟨r1, r2⟩ => ⟨by rw [r1]; simp, 0, by rw [← r2]; rfl⟩
  · by_cases h1 : e % 256 = 1
    · rw [if_pos (.inl h1)]; exact rmay_1 h e he.1 he.2 hz h1
    · by_cases h3 : e % 256 = 3
      · rw [if_pos (.inr (.inl h3))]; exact rmay_3 h e he.1 he.2 hz h3
      · by_cases h5 : e % 256 = 5
        · rw [if_pos (.inr (.inr h5))]; exact rmay_5 h e he.1 he.2 hz h5
        · rw [if_neg (by omega)]
          exact (rmay_no h e he.1 he.2 hz (by omega)).mono fun r w' ⟨r1, r2⟩ => ⟨by rw [r1]; simp [hz], r2⟩
theorem rset_all {Z : Nat → Prop} {root : Int} (h : RT w x Z F root L E) (hZx : Z x) (hZs : ∀ k, Z k → k < w.heap.size) (p e sp v : Int) (u : Bool) (he : 0 ≤ e ∧ e ≤ 4294967295) (hR : SetR F p e sp L E u v L' E') :
    Calls Try.prog 55 #[.pointer (some ⟨x, 0, none⟩), .int .i64 p, .int .u32 e, .int .i64 sp] w fun r w' => r = .returned (.tuple #[.bool u, .int .i64 v]) ∧ RT w' x Z F root L' E' ∧ w.grownBy w' (some x) := by
  obtain ⟨A, c, h1, h2, h3⟩ := h.ex
  have hm := rmay_any (F0 := F) h1 e he
  rcases hR with ⟨hp, rfl, rfl, rfl, rfl⟩ | ⟨q, rfl, hq, hR⟩
  · exact (rset_page p hp _ e sp w).mono fun r w' ⟨r1, r2⟩ => ⟨r1, by subst r2; exact h, by subst r2; exact only_refl _ _⟩
  · rcases hR with ⟨m, rfl, rfl, rfl, rfl⟩ | ⟨m, hl, rfl, rfl, rfl, rfl⟩ | ⟨m, hl, h0, rfl, rfl, rfl, rfl⟩ | ⟨m, hl, h0, hs, rfl, rfl, rfl, rfl⟩ | ⟨m, hl, h0, hs, rfl, rfl, rfl, rfl⟩ | ⟨m, hl, h0, s, rfl, hs, rfl, rfl, rfl, rfl⟩
    · rw [m] at hm
      exact (rset_may h1 h2 h3 hZx hZs q hq e sp hm).mono fun r w' ⟨r1, r2, r3⟩ => ⟨r1, r2, grown_some r3 x⟩
    · rw [m] at hm
      exact rset_has h1 h2 h3 hZx hZs q hq e sp hl hm
    · rw [m] at hm
      exact (rset_zero h1 h2 h3 hZx hZs q hq e sp hl h0 hm).mono fun r w' ⟨r1, r2, r3⟩ => ⟨r1, r2, grown_some r3 x⟩
    · rw [m] at hm
      exact (rset_neg h1 h2 h3 hZx hZs q hq e sp hl h0 hs hm).mono fun r w' ⟨r1, r2, r3⟩ => ⟨r1, r2, grown_some r3 x⟩
    · rw [m] at hm
      exact (rset_far h1 h2 h3 hZx hZs q hq e sp hl h0 (by omega) hs hm).mono fun r w' ⟨r1, r2, r3⟩ => ⟨r1, r2, grown_some r3 x⟩
    · rw [m] at hm
      exact rset_new h1 h2 h3 hZx hZs q hq e (s : Int) s rfl hl h0 (by omega) hm
end
end Go.Proofs.Ytngjpokbjnjodaa
