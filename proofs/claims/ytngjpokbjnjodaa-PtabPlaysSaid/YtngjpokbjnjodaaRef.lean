import Derived.Test.YtngjpokbjnjodaaTab4
import Derived.Deep.QuietTactic
import Derived.BigQuiet
import Derived.Deep.LoopGhost
import Derived.Deep.Cut
import Derived.Deep.CutRange
import Derived.Deep.DeepMust
/- The reference memory and its walk. -/
namespace Go.Proofs.Ytngjpokbjnjodaa
open Go.RowKit Go.BigFrame
set_option linter.unusedVariables false
set_option linter.unusedSimpArgs false
attribute [local go_sem] szIs_lit row_at row_past row_alloc nf_alloc row_set nf_set row_cell nf_cell row_drew nf_drew row_drewN nf_drewN cell_setRow frozen_setRow nlt1 nlt2 nlt3 nlt4 nne1 nne2 nne3 nen1 nen2 nen3
attribute [local go_sem] by_get by_set
section
variable {w w' : World} {g b F : Nat} {M : Nat → Int}
theorem rnew_ok (k : Nat) (h1 : 1 ≤ k) (h2 : k ≤ 4096) (w : World) : Calls Try.prog 17 #[.int .i64 k] w (Made (k * 256) w) := by
  have hm := fun w => make_run w (k * 256) (by omega)
  rw [show ((k * 256 : Nat) : Int) = 256 * (k : Int) from by omega] at hm
  go_enter Try.func17, Try.ntmps17
  go_wp2
  go_ret2
  refine ⟨w.heap.size + 1, w.heap.size, by simp, ⟨by go_simp, by go_simp⟩, ⟨by go_simp, by go_simp⟩, by omega, by omega, by omega, ?_⟩
  repeat (first | (with_reducible exact Below.refl _ _) | (with_reducible refine Below.alloc ?_ ?h _; (case h => (first | omega | (simp; done) | (simp; omega)))) | (with_reducible refine Below.drew ?_))
theorem rpage_yes (p : Int) (h : 0 ≤ p ∧ p < 256) (w : World) : Calls Try.prog 42 #[.int .i64 p] w fun r w' => r = .returned (.bool true) ∧ w = w' := by
  obtain ⟨h0, h1⟩ := h
  go_enter Try.func42, Try.ntmps42
  go_wp2
  go_ret
  exact ⟨by first | rfl | simp, rfl⟩
theorem rpage_no (p : Int) (h : ¬ (0 ≤ p ∧ p < 256)) (w : World) : Calls Try.prog 42 #[.int .i64 p] w fun r w' => r = .returned (.bool false) ∧ w = w' := by
  by_cases h0 : 0 ≤ p
  · have h1 : decide (p < 256) = false := by simp; omega
    clear h
    go_enter Try.func42, Try.ntmps42
    go_wp2
    go_ret
    exact ⟨by first | rfl | simp, rfl⟩
  · have h1 : decide (p ≥ 0) = false := by simpa using h0
    clear h h0
    go_enter Try.func42, Try.ntmps42
    go_wp2
    go_ret
    exact ⟨by first | rfl | simp, rfl⟩
theorem there_yes (h : MP w g b F M) (a : Int) (h0 : 0 ≤ a) (h1 : a + 4 ≤ ((F * 256 : Nat) : Int)) : Calls Try.prog 36 #[.pointer (some ⟨g, 0, none⟩), .int .i64 a, .int .i64 4] w fun r w' => r = .returned (.bool true) ∧ w = w' := by
  have hn := h.hn
  obtain ⟨gr, gn, gc, gf⟩ := h.hg.all
  have c0 : w.cell? ⟨g, 0, none⟩ = some (.slice (some ⟨b, 0, none⟩) (F * 256) (F * 256)) := (gc 0).trans rfl
  clear h gr gn gc gf
  generalize F * 256 = n at *
  have q3 : decide (4 ≤ (n : Int) - a) = true := by simp; omega
  go_enter Try.func36, Try.ntmps36
  go_wp2
  go_ret
  exact ⟨by first | rfl | simp, rfl⟩
theorem there_no (h : MP w g b F M) (a : Int) (h0 : ¬ (0 ≤ a ∧ a + 4 ≤ ((F * 256 : Nat) : Int))) : Calls Try.prog 36 #[.pointer (some ⟨g, 0, none⟩), .int .i64 a, .int .i64 4] w fun r w' => r = .returned (.bool false) ∧ w = w' := by
  have hn := h.hn
  obtain ⟨gr, gn, gc, gf⟩ := h.hg.all
  have c0 : w.cell? ⟨g, 0, none⟩ = some (.slice (some ⟨b, 0, none⟩) (F * 256) (F * 256)) := (gc 0).trans rfl
  clear h gr gn gc gf
  generalize F * 256 = n at *
  by_cases q0 : a < 0
  · have q : decide (a ≥ 0) = false := by simp; omega
    clear h0
    go_enter Try.func36, Try.ntmps36
    go_wp2
    go_ret
    exact ⟨by first | rfl | simp, rfl⟩
  · have q0 : 0 ≤ a := by omega
    by_cases q1 : (n : Int) < a
    · have q : decide (a ≤ (n : Int)) = false := by simp; omega
      clear h0
      go_enter Try.func36, Try.ntmps36
      go_wp2
      go_ret
      exact ⟨by first | rfl | simp, rfl⟩
    · have q2 : a ≤ (n : Int) := by omega
      have q3 : decide (4 ≤ (n : Int) - a) = false := by simp; omega
      clear h0 q1
      go_enter Try.func36, Try.ntmps36
      go_wp2
      go_ret
      exact ⟨by first | rfl | simp, rfl⟩
/-- What a store does, wherever. -/
def stepM (M : Nat → Int) (n : Nat) (a x : Int) : Nat → Int := if 0 ≤ a ∧ a + 4 ≤ (n : Int) ∧ a % 4 = 0 then st32 M a.toNat x 4 else M
theorem store_any (h : MP w g b F M) (a x : Int) (hx : 0 ≤ x ∧ x ≤ 4294967295) : Calls Try.prog 18 #[.pointer (some ⟨g, 0, none⟩), .int .i64 a, .int .u32 x] w fun e w' => (∃ v, e = .returned v) ∧ MP w' g b F (stepM M (F * 256) a x) ∧ w.grownBy w' (some b) := by
  by_cases hq : 0 ≤ a ∧ a + 4 ≤ ((F * 256 : Nat) : Int) ∧ a % 4 = 0
  · obtain ⟨k, rfl⟩ := Int.eq_ofNat_of_zero_le hq.1
    unfold stepM
    rw [if_pos hq]
    exact (h.store k x hx (by omega) (by omega)).mono fun e w' ⟨q1, q2, q3⟩ => ⟨⟨_, q1⟩, by simpa using q2, q3⟩
  · have e : stepM M (F * 256) a x = M := by unfold stepM; rw [if_neg hq]
    rw [e]
    have fin : ∀ {e : Ending} {w' : World}, (e = .returned (.int .i64 10) ∧ w = w') → (∃ v, e = .returned v) ∧ MP w' g b F M ∧ w.grownBy w' (some b) := by
      rintro e w' ⟨rfl, rfl⟩; exact ⟨⟨_, rfl⟩, h, only_refl _ _⟩
    by_cases hr : (a.tmod 4 != 0) = true
    · exact (store32_odd g w a x hr).mono fun e w' q => fin q
    · have hr : (a.tmod 4 != 0) = false := by simpa using hr
      have hr' : a.tmod 4 = 0 := by simpa using hr
      by_cases q0 : a < 0
      · exact (store32_neg g b _ M w a x h.hg h.hb h.hn hr q0).mono fun e w' q => fin q
      · have q0 : 0 ≤ a := by omega
        rw [Int.tmod_eq_emod_of_nonneg q0] at hr'
        by_cases q1 : ((F * 256 : Nat) : Int) < a
        · exact (store32_far g b _ M w a x h.hg h.hb h.hn hr q0 q1).mono fun e w' q => fin q
        · exact (store32_end g b _ M w a x h.hg h.hb h.hn hr q0 q1 (by omega)).mono fun e w' q => fin q
theorem rstore_no (h : MP w g b F M) (a x : Int) (hq : ¬ (0 ≤ a ∧ a + 4 ≤ ((F * 256 : Nat) : Int) ∧ a % 4 = 0)) : Calls Try.prog 19 #[.pointer (some ⟨g, 0, none⟩), .int .i64 a, .int .u32 x] w fun r w' => r = .returned (.int .i64 10) ∧ w = w' := by
  by_cases q : 0 ≤ a ∧ a + 4 ≤ ((F * 256 : Nat) : Int)
  · have HT := Lib.hid (there_yes h a q.1 q.2)
    have q0 := q.1
    have q1 : (a % 4 != 0) = true := by
      have : ¬ a % 4 = 0 := fun e => hq ⟨q.1, q.2, e⟩
      simpa using this
    clear h hq q
    go_enter Try.func19, Try.ntmps19
    go_wp2_with fail
    refine HT.out.mono ?_
    rintro r w' ⟨rfl, rfl⟩
    go_wp2
    go_ret
    exact ⟨by first | rfl | simp, rfl⟩
  · have HT := Lib.hid (there_no h a q)
    clear h hq q
    go_enter Try.func19, Try.ntmps19
    go_wp2_with fail
    refine HT.out.mono ?_
    rintro r w' ⟨rfl, rfl⟩
    go_wp2
    go_ret
    exact ⟨by first | rfl | simp, rfl⟩
set_option maxHeartbeats 1000000 in
theorem rstore_ok (h : MP w g b F M) (a : Nat) (x : Int) (hx : 0 ≤ x ∧ x ≤ 4294967295) (h0 : a % 4 = 0) (h2 : a + 4 ≤ F * 256) : Calls Try.prog 19 #[.pointer (some ⟨g, 0, none⟩), .int .i64 (a : Int), .int .u32 x] w fun e w' => e = .returned (.int .i64 0) ∧ MP w' g b F (st32 M a x 4) ∧ w.grownBy w' (some b) := by
  have HT := Lib.hid (there_yes h (a : Int) (by omega) (by omega))
  have hr : ((a : Int) % 4 != 0) = false := by
    have : (a : Int) % 4 = 0 := by omega
    simpa using this
  have HH := Lib.hid h
  have hn := h.hn
  obtain ⟨n, hnn⟩ : ∃ n, F * 256 = n := ⟨_, rfl⟩
  rw [hnn] at h2 hn
  have HNN := Lib.hid hnn
  have HX := Lib.hid hx
  clear h hx h0 hnn
  go_enter Try.func19, Try.ntmps19
  go_wp2_with fail
  refine HT.out.mono ?_
  rintro r w' ⟨rfl, rfl⟩
  go_wp2
  go_loopg [2, 7] 4 (fun k x_ i_ wr => ∃ j : Nat, j ≤ 4 ∧ k = 4 - j ∧ i_ = .int .i64 (j : Int) ∧ x_ = .int .u32 (x / 2 ^ (8 * j)) ∧ MP wr g b F (st32 M a x j) ∧ w.grownBy wr (some b))
  case atStart => exact ⟨0, by omega, rfl, rfl, by simp, by rw [st32_zero]; exact HH.out, only_refl _ _⟩
  case round =>
    obtain ⟨j, hj, hk, rfl, rfl, hm, hg⟩ := hrel
    have HK := Lib.hid hk
    have HM := Lib.hid hm
    have HG := Lib.hid hg
    clear hk hg
    by_cases hlt : j < 4
    · have hin : a + j < n := by omega
      obtain ⟨y, hy⟩ : ∃ y, x / 2 ^ (8 * j) = y := ⟨_, rfl⟩
      have hy0 : 0 ≤ y ∧ y ≤ 4294967295 := by
        rw [← hy]
        have h1 : (0 : Int) < 2 ^ (8 * j) := Int.pow_pos (by omega)
        exact ⟨Int.ediv_nonneg HX.out.1 (by omega), Int.le_trans (Int.ediv_le_self _ HX.out.1) HX.out.2⟩
      have hy1 : y / 256 = x / 2 ^ (8 * (j + 1)) := by
        rw [← hy, Int.ediv_ediv_of_nonneg (Int.le_of_lt (Int.pow_pos (by omega))), show 8 * (j + 1) = 8 * j + 8 by omega, Int.pow_add]
        rfl
      have hst := st32_succ M a x j
      rw [hy] at hst
      have hp := hm.hb.put (a + j) (.int .u8 (y % 256))
      rw [HNN.out, by_set _ _ _ _ hin, hst, ← HNN.out] at hp
      have HP := Lib.hid hp
      have HY1 := Lib.hid hy1
      have c0 : wr.cell? ⟨g, 0, none⟩ = some (.slice (some ⟨b, 0, none⟩) n n) := by rw [← HNN.out]; exact (hm.hg.all.2.2.1 0).trans rfl
      have c1 : wr.cell? ⟨b, a + j, none⟩ = some (.int .u8 (st32 M a x j (a + j))) := (hm.hb.all.2.2.1 _).trans (by_get _ _ _ (by have := HNN.out; omega))
      have c2 : ∀ o, wr.frozen? ⟨b, o, none⟩ = false := fun o => hm.hb.all.2.2.2 o
      rw [hy]
      clear hm hst hp hy1 hy
      obtain ⟨hy2, hy3⟩ := hy0
      go_wp2
      go_roundg (4 - (j + 1))
      case measure => have := HK.out; omega
      case rel =>
        refine ⟨j + 1, by omega, rfl, by go_num, by rw [← HY1.out], ?_, only_cell HG.out _ _⟩
        exact HM.out.put HP.out (only_cell (only_refl _ _) _ _) (st32_byte _ _ _ _ (by first | exact HH.out.by_ | exact fun i => HH.out.by_ i))
    · obtain rfl : j = 4 := by omega
      clear hm
      go_wp2
      go_ret
      exact ⟨by first | rfl | simp, HM.out, HG.out⟩
theorem rstore_any (h : MP w g b F M) (a x : Int) (hx : 0 ≤ x ∧ x ≤ 4294967295) : Calls Try.prog 19 #[.pointer (some ⟨g, 0, none⟩), .int .i64 a, .int .u32 x] w fun e w' => (∃ v, e = .returned v) ∧ MP w' g b F (stepM M (F * 256) a x) ∧ w.grownBy w' (some b) := by
  by_cases hq : 0 ≤ a ∧ a + 4 ≤ ((F * 256 : Nat) : Int) ∧ a % 4 = 0
  · obtain ⟨k, rfl⟩ := Int.eq_ofNat_of_zero_le hq.1
    unfold stepM
    rw [if_pos hq]
    exact (rstore_ok h k x hx (by omega) (by omega)).mono fun e w' ⟨q1, q2, q3⟩ => ⟨⟨_, q1⟩, by simpa using q2, q3⟩
  · have e : stepM M (F * 256) a x = M := by unfold stepM; rw [if_neg hq]
    rw [e]
    exact (rstore_no h a x hq).mono fun e w' ⟨q1, q2⟩ => ⟨⟨_, q1⟩, by subst q2; exact h, by subst q2; exact only_refl _ _⟩
end
end Go.Proofs.Ytngjpokbjnjodaa
