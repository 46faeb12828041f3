import Derived.Test.YtngjpokbjnjodaaRef
import Derived.Deep.QuietTactic
import Derived.BigQuiet
import Derived.Deep.LoopGhost
import Derived.Deep.Cut
import Derived.Deep.CutRange
import Derived.Deep.DeepMust
/- The reference reads; its walk. -/
namespace Go.Proofs.Ytngjpokbjnjodaa
open Go.RowKit Go.BigFrame
set_option linter.unusedVariables false
set_option linter.unusedSimpArgs false
attribute [local go_sem] szIs_lit row_at row_past row_alloc nf_alloc row_set nf_set row_cell nf_cell row_drew nf_drew row_drewN nf_drewN cell_setRow frozen_setRow nlt1 nlt2 nlt3 nlt4 nne1 nne2 nne3 nen1 nen2 nen3
attribute [local go_sem] by_get by_set
section
variable {w w' : World} {g b F : Nat} {M : Nat → Int}
set_option maxHeartbeats 2000000 in
theorem rload_ok (h : MP w g b F M) (a : Nat) (h0 : a % 4 = 0) (h2 : a + 4 ≤ F * 256) : Calls Try.prog 43 #[.pointer (some ⟨g, 0, none⟩), .int .i64 (a : Int)] w fun e w' => e = .returned (.tuple #[.int .u32 (le32 M a), .int .i64 0]) ∧ w = w' := by
  have HT := Lib.hid (there_yes h (a : Int) (by omega) (by omega))
  have hr : ((a : Int) % 4 != 0) = false := by
    have : (a : Int) % 4 = 0 := by omega
    simpa using this
  have hn := h.hn
  obtain ⟨n, hnn⟩ : ∃ n, F * 256 = n := ⟨_, rfl⟩
  rw [hnn] at h2 hn
  have c0 : w.cell? ⟨g, 0, none⟩ = some (.slice (some ⟨b, 0, none⟩) n n) := by rw [← hnn]; exact (h.hg.all.2.2.1 0).trans rfl
  have cb : ∀ i, i < n → w.cell? ⟨b, i, none⟩ = some (.int .u8 (M i)) := fun i hi => (h.hb.all.2.2.1 _).trans (by_get _ _ _ (by omega))
  obtain ⟨y0, e0⟩ : ∃ y, M a = y := ⟨_, rfl⟩
  obtain ⟨y1, e1⟩ : ∃ y, M (a + 1) = y := ⟨_, rfl⟩
  obtain ⟨y2, e2⟩ : ∃ y, M (a + 2) = y := ⟨_, rfl⟩
  obtain ⟨y3, e3⟩ : ∃ y, M (a + 3) = y := ⟨_, rfl⟩
  have d0 := cb a (by omega)
  have d1 := cb (a + 1) (by omega)
  have d2 := cb (a + 2) (by omega)
  have d3 := cb (a + 3) (by omega)
  obtain ⟨b0, b0'⟩ := h.by_ a
  obtain ⟨b1, b1'⟩ := h.by_ (a + 1)
  obtain ⟨b2, b2'⟩ := h.by_ (a + 2)
  obtain ⟨b3, b3'⟩ := h.by_ (a + 3)
  rw [e0] at d0 b0 b0'
  rw [e1] at d1 b1 b1'
  rw [e2] at d2 b2 b2'
  rw [e3] at d3 b3 b3'
  have hle : le32 M a = (((y3 * 256 + y2) * 256 + y1) * 256 + y0) := by unfold le32; rw [e0, e1, e2, e3]; omega
  rw [hle]
  clear h h0 hnn cb hle e0 e1 e2 e3
  go_enter Try.func43, Try.ntmps43
  go_wp2_with fail
  refine HT.out.mono ?_
  rintro r w' ⟨rfl, rfl⟩
  go_wp2
  go_loopg [6, 7] 4 (fun k x_ i_ wr => wr = w ∧ ((k = 4 ∧ i_ = .int .i64 3 ∧ x_ = .int .u32 0) ∨ (k = 3 ∧ i_ = .int .i64 2 ∧ x_ = .int .u32 y3) ∨ (k = 2 ∧ i_ = .int .i64 1 ∧ x_ = .int .u32 (y3 * 256 + y2)) ∨ (k = 1 ∧ i_ = .int .i64 0 ∧ x_ = .int .u32 ((y3 * 256 + y2) * 256 + y1)) ∨ (k = 0 ∧ i_ = .int .i64 (-1) ∧ x_ = .int .u32 (((y3 * 256 + y2) * 256 + y1) * 256 + y0))))
  case atStart => exact ⟨rfl, .inl ⟨rfl, rfl, rfl⟩⟩
  case round =>
    obtain ⟨rfl, hrel⟩ := hrel
    rcases hrel with ⟨hk, rfl, rfl⟩ | ⟨hk, rfl, rfl⟩ | ⟨hk, rfl, rfl⟩ | ⟨hk, rfl, rfl⟩ | ⟨hk, rfl, rfl⟩
    · have HK := Lib.hid hk
      clear hk
      go_wp2
      go_roundg 3
      case measure => have := HK.out; omega
      case rel => exact ⟨rfl, .inr (.inl ⟨rfl, rfl, by simp⟩)⟩
    · have HK := Lib.hid hk
      clear hk
      go_wp2
      go_roundg 2
      case measure => have := HK.out; omega
      case rel => exact ⟨rfl, .inr (.inr (.inl ⟨rfl, rfl, by simp⟩))⟩
    · have HK := Lib.hid hk
      clear hk
      go_wp2
      go_roundg 1
      case measure => have := HK.out; omega
      case rel => exact ⟨rfl, .inr (.inr (.inr (.inl ⟨rfl, rfl, by simp⟩)))⟩
    · have HK := Lib.hid hk
      clear hk
      go_wp2
      go_roundg 0
      case measure => have := HK.out; omega
      case rel => exact ⟨rfl, .inr (.inr (.inr (.inr ⟨rfl, rfl, by simp⟩)))⟩
    · clear hk
      go_wp2
      go_ret2
      exact ⟨by first | rfl | simp, rfl⟩
theorem rwalk_out (h : MP w g b F M) (root p : Int) (hr : ¬ (0 ≤ root ∧ root < F)) : Calls Try.prog 21 #[.pointer (some ⟨g, 0, none⟩), .int .i64 root, .int .i64 p] w fun e w' => e = .returned (.int .u32 0) ∧ w = w' := by
  have hn := h.hn
  have c0 : w.cell? ⟨g, 0, none⟩ = some (.slice (some ⟨b, 0, none⟩) (F * 256) (F * 256)) := (h.hg.all.2.2.1 0).trans rfl
  obtain ⟨n, hnn⟩ : ∃ n, F * 256 = n := ⟨_, rfl⟩
  rw [hnn] at hn c0
  have hn2 : (n : Int) / 256 = (F : Int) := by omega
  clear h
  by_cases h0 : root < 0
  · clear hr hnn hn2
    go_enter Try.func21, Try.ntmps21
    go_wp2
    go_ret
    exact ⟨by first | rfl | simp, rfl⟩
  · have h1 : decide (root ≥ (F : Int)) = true := by simp; omega
    have h0' : 0 ≤ root := by omega
    clear hr h0 hnn
    go_enter Try.func21, Try.ntmps21
    go_wp2
    go_ret
    exact ⟨by first | rfl | simp, rfl⟩
theorem rwalk_page (h : MP w g b F M) (root : Nat) (p : Int) (hr : root < F) (hp : ¬ (0 ≤ p ∧ p < 256)) : Calls Try.prog 21 #[.pointer (some ⟨g, 0, none⟩), .int .i64 (root : Int), .int .i64 p] w fun e w' => e = .returned (.int .u32 0) ∧ w = w' := by
  have hn := h.hn
  have c0 : w.cell? ⟨g, 0, none⟩ = some (.slice (some ⟨b, 0, none⟩) (F * 256) (F * 256)) := (h.hg.all.2.2.1 0).trans rfl
  obtain ⟨n, hnn⟩ : ∃ n, F * 256 = n := ⟨_, rfl⟩
  rw [hnn] at hn c0
  have hn2 : (n : Int) / 256 = (F : Int) := by omega
  have h1 : decide ((root : Int) ≥ (F : Int)) = false := by simp; omega
  have HP := Lib.hid (rpage_no p hp w)
  clear h hp hnn
  go_enter Try.func21, Try.ntmps21
  go_wp2_with fail
  refine HP.out.mono ?_
  rintro r w' ⟨rfl, rfl⟩
  go_wp2
  go_ret
  exact ⟨by first | rfl | simp, rfl⟩
set_option maxHeartbeats 1000000 in
set_option maxRecDepth 20000 in
theorem rwalk_ok (h : MP w g b F M) (root p : Nat) (hr : root < F) (hp : p < 256) : Calls Try.prog 21 #[.pointer (some ⟨g, 0, none⟩), .int .i64 (root : Int), .int .i64 (p : Int)] w fun e w' => e = .returned (.int .u32 (wlk M F root p)) ∧ w = w' := by
  have hn := h.hn
  have f1 := h.f1
  have c0 : w.cell? ⟨g, 0, none⟩ = some (.slice (some ⟨b, 0, none⟩) (F * 256) (F * 256)) := (h.hg.all.2.2.1 0).trans rfl
  obtain ⟨n, hnn⟩ : ∃ n, F * 256 = n := ⟨_, rfl⟩
  rw [hnn] at hn c0
  have hn2 : (n : Int) / 256 = (F : Int) := by omega
  have h1 : decide ((root : Int) ≥ (F : Int)) = false := by simp; omega
  have h00 : decide ((root : Int) < 0) = false := by simp
  have HP := Lib.hid (rpage_yes (p : Int) (by omega) w)
  have hl := rload_ok h (root * 256 + 4 * (p / 64)) (by omega) (by omega)
  rw [show ((root * 256 + 4 * (p / 64) : Nat) : Int) = 256 * (root : Int) + 4 * ((p : Int) / 64) by omega] at hl
  obtain ⟨hw0, hw1⟩ := le32_rng h.by_ (root * 256 + 4 * (p / 64))
  have hd : hasL M F root p = (decide (le32 M (root * 256 + 4 * (p / 64)) % 256 = 1) && decide (le32 M (root * 256 + 4 * (p / 64)) / 256 < (F : Int))) := rfl
  have hdl : (leafF M root p : Int) = le32 M (root * 256 + 4 * (p / 64)) / 256 := by
    show ((le32 M (root * 256 + 4 * (p / 64)) / 256).toNat : Int) = _
    omega
  cases hx : hasL M F root p with
  | true =>
    have hlt := leafF_lt h root p hx
    have hq : wlk M F root p = le32 M (leafF M root p * 256 + 4 * (p % 64)) := by unfold wlk; rw [hx]; rfl
    rw [hq]
    rw [hx] at hd
    have hld := rload_ok h (leafF M root p * 256 + 4 * (p % 64)) (by omega) (by omega)
    rw [show ((leafF M root p * 256 + 4 * (p % 64) : Nat) : Int) = 256 * (leafF M root p : Int) + 4 * ((p : Int) % 64) by omega] at hld
    generalize leafF M root p = f at *
    generalize le32 M (root * 256 + 4 * (p / 64)) = x at *
    replace hd := hd.symm
    simp only [Bool.and_eq_true, decide_eq_true_eq] at hd
    have k1 : (x % 256 != 1) = false := by simp [hd.1]
    have k2 : decide ((f : Int) ≥ (F : Int)) = false := by simp; omega
    have hdl' : x / 256 = (f : Int) := hdl.symm
    have HL := Lib.hid hl
    have HLD := Lib.hid hld
    clear h hd hdl hl hld hx hq hnn
    go_enter Try.func21, Try.ntmps21
    go_wp2_with fail
    refine HP.out.mono ?_
    rintro r w' ⟨rfl, rfl⟩
    go_wp2_with fail
    refine HL.out.mono ?_
    rintro r w' ⟨rfl, rfl⟩
    go_wp2_with fail
    refine HLD.out.mono ?_
    rintro r w' ⟨rfl, rfl⟩
    go_wp2
    go_ret
    exact ⟨by first | rfl | simp, rfl⟩
  | false =>
    have hq : wlk M F root p = 0 := by unfold wlk; rw [hx]; rfl
    rw [hq]
    rw [hx] at hd
    generalize le32 M (root * 256 + 4 * (p / 64)) = x at *
    have HL := Lib.hid hl
    replace hd := hd.symm
    clear h hdl hl hx hq hnn
    by_cases k : x % 256 = 1
    · have k1 : (x % 256 != 1) = false := by simp [k]
      have k2 : decide (x / 256 ≥ (F : Int)) = true := by
        simp only [k, decide_true, Bool.true_and, decide_eq_false_iff_not] at hd
        simp; omega
      clear hd k
      go_enter Try.func21, Try.ntmps21
      go_wp2_with fail
      refine HP.out.mono ?_
      rintro r w' ⟨rfl, rfl⟩
      go_wp2_with fail
      refine HL.out.mono ?_
      rintro r w' ⟨rfl, rfl⟩
      go_wp2
      go_ret
      exact ⟨by first | rfl | simp, rfl⟩
    · have k1 : (x % 256 != 1) = true := by simpa using k
      clear hd k
      go_enter Try.func21, Try.ntmps21
      go_wp2_with fail
      refine HP.out.mono ?_
      rintro r w' ⟨rfl, rfl⟩
      go_wp2_with fail
      refine HL.out.mono ?_
      rintro r w' ⟨rfl, rfl⟩
      go_wp2
      go_ret
      exact ⟨by first | rfl | simp, rfl⟩
end
end Go.Proofs.Ytngjpokbjnjodaa
