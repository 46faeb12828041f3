import Derived.Test.YtdpbfmookhgilaaMade
import Derived.Lib.EndianBits
import Derived.Outline
/- How entries are packed: Pack, Frame, Flags, page, at. -/
namespace Go.Proofs.Ytdpbfmookhgilaa
open Go.RowKit Go.BigFrame
set_option linter.unusedVariables false
set_option linter.unusedSimpArgs false
attribute [local go_sem] szIs_lit row_at row_past row_alloc nf_alloc row_set nf_set row_cell nf_cell row_drew nf_drew row_drewN nf_drewN cell_setRow frozen_setRow nlt1 nlt2 nlt3 nlt4 nne1 nne2 nne3 nen1 nen2 nen3
attribute [local go_sem] by_get by_set
theorem mask32 (i : Nat) (hi : i ≤ 32) (x : Int) (h0 : 0 ≤ x) (h1 : x ≤ 4294967295) : bits .and .u32 x (2 ^ i - 1) = x % 2 ^ i := bits_mask .u32 32 (by decide) wraps_u32 i hi x h0 (by omega)
theorem and255 (x : Int) (h0 : 0 ≤ x) (h1 : x ≤ 4294967295) : bits .and .u32 x 255 = x % 256 := mask32 8 (by decide) x h0 h1
theorem wraps_i64 (n : Int) (h₀ : 0 ≤ n) (h₁ : n < 2 ^ 63) : IntKind.i64.wrap n = n := by rw [IntKind.wrap_i64]; omega
theorem and63 (x : Int) (h0 : 0 ≤ x) (h1 : x < 2 ^ 63) : bits .and .i64 x 63 = x % 64 := bits_mask .i64 63 (by decide) wraps_i64 6 (by decide) x h0 h1
theorem bits_or_comm (k : IntKind) (a b : Int) : bits .or k a b = bits .or k b a := by
  unfold bits; simp [Nat.or_comm]
theorem or8 (f g : Int) (hf : 0 ≤ f) (hf2 : f < 16777216) (hg : 0 ≤ g) (hg2 : g < 256) : bits .or .u32 (f * 256) g = f * 256 + g := by
  rw [bits_or_comm, u32_or8 _ _ hg hg2 (by omega) (by omega) (by omega)]; omega
theorem ret_int {k : IntKind} {a b : Int} (h : a = b) : Ending.returned (.int k a) = .returned (.int k b) := by rw [h]
theorem pack_ok (f g : Int) (hf : 0 ≤ f) (hf2 : f < 16777216) (hg : 0 ≤ g) (hg2 : g < 256) (w : World) : Calls Try.prog 39 #[.int .i64 f, .int .i64 g] w fun e w' => e = .returned (.int .u32 (f * 256 + g)) ∧ w = w' := by
  have ho := or8 f g hf hf2 hg hg2
  go_enter Try.func39, Try.ntmps39
  go_wp2
  go_ret
  exact ⟨by first | rfl | simp, rfl⟩
theorem frame_ok (e : Int) (h0 : 0 ≤ e) (h1 : e ≤ 4294967295) (w : World) : Calls Try.prog 37 #[.int .u32 e] w fun r w' => r = .returned (.int .i64 (e / 256)) ∧ w = w' := by
  go_enter Try.func37, Try.ntmps37
  go_wp2
  go_ret
  exact ⟨by first | rfl | simp, rfl⟩
theorem flags_ok (e : Int) (h0 : 0 ≤ e) (h1 : e ≤ 4294967295) (w : World) : Calls Try.prog 36 #[.int .u32 e] w fun r w' => r = .returned (.int .i64 (e % 256)) ∧ w = w' := by
  have ha := and255 e h0 h1
  go_enter Try.func36, Try.ntmps36
  go_wp2
  go_ret
  exact ⟨by first | rfl | simp, rfl⟩
theorem page_yes (p : Int) (h : 0 ≤ p ∧ p < 256) (w : World) : Calls Try.prog 25 #[.int .i64 p] w fun r w' => r = .returned (.bool true) ∧ w = w' := by
  obtain ⟨h0, h1⟩ := h
  go_enter Try.func25, Try.ntmps25
  go_wp2
  go_ret
  exact ⟨by first | rfl | simp, rfl⟩
theorem page_no (p : Int) (h : ¬ (0 ≤ p ∧ p < 256)) (w : World) : Calls Try.prog 25 #[.int .i64 p] w fun r w' => r = .returned (.bool false) ∧ w = w' := by
  by_cases h0 : 0 ≤ p
  · have h1 : decide (p < 256) = false := by simp; omega
    clear h
    go_enter Try.func25, Try.ntmps25
    go_wp2
    go_ret
    exact ⟨by first | rfl | simp, rfl⟩
  · have h1 : decide (p ≥ 0) = false := by simpa using h0
    clear h h0
    go_enter Try.func25, Try.ntmps25
    go_wp2
    go_ret
    exact ⟨by first | rfl | simp, rfl⟩
theorem at_ok (f p : Int) (hf : 0 ≤ f ∧ f < 16777216) (hp : 0 ≤ p ∧ p < 256) (w : World) : Calls Try.prog 31 #[.int .i64 f, .int .i64 p] w fun r w' => r = .returned (.int .i64 (f * 256 + 4 * (p % 64))) ∧ w = w' := by
  have ha := and63 p hp.1 (by omega)
  obtain ⟨h0, h1⟩ := hp
  obtain ⟨h2, h3⟩ := hf
  go_enter Try.func31, Try.ntmps31
  go_wp2
  go_ret
  exact ⟨by first | rfl | simp, rfl⟩
/-! A memory -/
structure MP (w : World) (g b F : Nat) (M : Nat → Int) : Prop where
  hg : Blk w g (memS b (F * 256))
  hb : Blk w b (bytes M (F * 256))
  f1 : 1 ≤ F ∧ F ≤ 4096
  ne : g ≠ b
  by_ : ∀ i, isByte (M i)
section
variable {w w' : World} {g b F : Nat} {M : Nat → Int}
theorem MP.hn (h : MP w g b F M) : F * 256 ≤ 1048576 := by have := h.f1.2; omega
theorem MP.below (h : MP w g b F M) (hb : Below w.heap.size w w') : MP w' g b F M := ⟨h.hg.below hb h.hg.lt, h.hb.below hb h.hb.lt, h.f1, h.ne, h.by_⟩
theorem MP.put (h : MP w g b F M) {M' : Nat → Int} (h1 : Blk w' b (bytes M' (F * 256))) (h2 : w.grownBy w' (some b)) (h3 : ∀ i, isByte (M' i)) : MP w' g b F M' := ⟨h.hg.only h2 h.hg.lt h.ne, h1, h.f1, h.ne, h3⟩
theorem MP.frames (h : MP w g b F M) : Calls Try.prog 38 #[.pointer (some ⟨g, 0, none⟩)] w fun e w' => e = .returned (.int .i64 (F : Int)) ∧ w = w' := by
  have := frames_ok g b (F * 256) M w h.hg h.hb h.hn
  rwa [show F * 256 / 256 = F by omega] at this
/-- A word that is there. -/
theorem MP.load (h : MP w g b F M) (a : Nat) (h0 : a % 4 = 0) (h2 : a + 4 ≤ F * 256) : Calls Try.prog 40 #[.pointer (some ⟨g, 0, none⟩), .int .i64 (a : Int)] w fun e w' => e = .returned (.tuple #[.int .u32 (le32 M a), .int .i64 0]) ∧ Below w.heap.size w w' := load32_ok g b (F * 256) a M w h.hg h.hb h.hn h.by_ h0 h2
theorem le32_rng (h : ∀ i, isByte (M i)) (a : Nat) : 0 ≤ le32 M a ∧ le32 M a ≤ 4294967295 := by
  obtain ⟨b0, c0⟩ := h a
  obtain ⟨b1, c1⟩ := h (a + 1)
  obtain ⟨b2, c2⟩ := h (a + 2)
  obtain ⟨b3, c3⟩ := h (a + 3)
  unfold le32; omega
theorem MP.store (h : MP w g b F M) (a : Nat) (x : Int) (hx : 0 ≤ x ∧ x ≤ 4294967295) (h0 : a % 4 = 0) (h2 : a + 4 ≤ F * 256) : Calls Try.prog 30 #[.pointer (some ⟨g, 0, none⟩), .int .i64 (a : Int), .int .u32 x] w fun e w' => e = .returned (.int .i64 0) ∧ MP w' g b F (st32 M a x 4) ∧ w.grownBy w' (some b) :=
  (store32_ok g b (F * 256) a M x w h.hg h.hb h.hn hx.1 hx.2 h0 h2).mono fun e w' ⟨q1, q2, q3⟩ => ⟨q1, h.put q2 q3 (st32_byte M a x 4 h.by_), q3⟩
/-- The word of the root for a page. -/
def rootW (M : Nat → Int) (root p : Nat) : Int := le32 M (root * 256 + 4 * (p / 64))
/-- Is there a leaf? Which frame? -/
def hasL (M : Nat → Int) (F root p : Nat) : Bool := decide (rootW M root p % 256 = 1) && decide (rootW M root p / 256 < (F : Int))
def leafF (M : Nat → Int) (root p : Nat) : Nat := (rootW M root p / 256).toNat
set_option maxHeartbeats 1000000 in
theorem leaf_ok (h : MP w g b F M) (root p : Nat) (hr : root < F) (hp : p < 256) : Calls Try.prog 29 #[.pointer (some ⟨g, 0, none⟩), .int .i64 (root : Int), .int .i64 (p : Int)] w fun e w' => e = .returned (.tuple #[.int .i64 (if hasL M F root p then (leafF M root p : Int) else 0), .bool (hasL M F root p)]) ∧ Below w.heap.size w w' := by
  obtain ⟨hw0, hw1⟩ := le32_rng h.by_ (root * 256 + 4 * (p / 64))
  have f1 := h.f1
  have hl := h.load (root * 256 + 4 * (p / 64)) (by omega) (by omega)
  have hl' : Calls Try.prog 40 #[.pointer (some ⟨g, 0, none⟩), .int .i64 ((root : Int) * 256 + 4 * ((p : Int) / 64))] w fun e w' => e = .returned (.tuple #[.int .u32 (le32 M (root * 256 + 4 * (p / 64))), .int .i64 0]) ∧ Below w.heap.size w w' := by
    rwa [show ((root * 256 + 4 * (p / 64) : Nat) : Int) = (root : Int) * 256 + 4 * ((p : Int) / 64) by omega] at hl
  have HL := Lib.hid hl'
  have HM := Lib.hid h
  have hd : hasL M F root p = (decide (le32 M (root * 256 + 4 * (p / 64)) % 256 = 1) && decide (le32 M (root * 256 + 4 * (p / 64)) / 256 < (F : Int))) := rfl
  have hdl : (leafF M root p : Int) = le32 M (root * 256 + 4 * (p / 64)) / 256 := by
    show ((le32 M (root * 256 + 4 * (p / 64)) / 256).toNat : Int) = _
    omega
  rw [hdl]
  rw [hd]
  generalize le32 M (root * 256 + 4 * (p / 64)) = x at *
  clear h hl hl' hd hdl
  by_cases q1 : x % 256 = 1
  · have k1 : (x % 256 != 1) = false := by simp [q1]
    have k1' : decide (x % 256 = 1) = true := by simp [q1]
    by_cases q2 : x / 256 < (F : Int)
    · have k2 : decide (x / 256 < (F : Int)) = true := by simp [q2]
      rw [k1', k2]
      clear q1 k1' k2
      go_enter Try.func29, Try.ntmps29
      go_wp2_with fail
      refine HL.out.mono ?_
      rintro e w1 ⟨rfl, hb1⟩
      have HF := Lib.hid (HM.out.below hb1).frames
      have HB := Lib.hid hb1
      clear hb1
      go_wp2_with fail
      refine (flags_ok x hw0 hw1 w1).mono ?_
      rintro e w' ⟨rfl, rfl⟩
      go_wp2_with fail
      refine (frame_ok x hw0 hw1 w1).mono ?_
      rintro e w' ⟨rfl, rfl⟩
      go_wp2_with fail
      refine HF.out.mono ?_
      rintro e w' ⟨rfl, rfl⟩
      go_wp2_with fail
      refine (frame_ok x hw0 hw1 w1).mono ?_
      rintro e w' ⟨rfl, rfl⟩
      go_wp2
      go_ret2
      exact ⟨by first | rfl | simp, HB.out⟩
    · have k2 : decide (x / 256 < (F : Int)) = false := by simpa using q2
      have q3 : (F : Int) ≤ x / 256 := by omega
      rw [k1', k2]
      clear q1 k1' q2
      go_enter Try.func29, Try.ntmps29
      go_wp2_with fail
      refine HL.out.mono ?_
      rintro e w1 ⟨rfl, hb1⟩
      have HF := Lib.hid (HM.out.below hb1).frames
      have HB := Lib.hid hb1
      clear hb1
      go_wp2_with fail
      refine (flags_ok x hw0 hw1 w1).mono ?_
      rintro e w' ⟨rfl, rfl⟩
      go_wp2_with fail
      refine (frame_ok x hw0 hw1 w1).mono ?_
      rintro e w' ⟨rfl, rfl⟩
      go_wp2_with fail
      refine HF.out.mono ?_
      rintro e w' ⟨rfl, rfl⟩
      go_wp2
      go_ret2
      exact ⟨by first | rfl | simp, HB.out⟩
  · have k1 : (x % 256 != 1) = true := by simpa using q1
    have k1' : decide (x % 256 = 1) = false := by simpa using q1
    rw [k1']
    clear q1 k1'
    go_enter Try.func29, Try.ntmps29
    go_wp2_with fail
    refine HL.out.mono ?_
    rintro e w1 ⟨rfl, hb1⟩
    have HB := Lib.hid hb1
    clear hb1
    go_wp2_with fail
    refine (flags_ok x hw0 hw1 w1).mono ?_
    rintro e w' ⟨rfl, rfl⟩
    go_wp2
    go_ret2
    exact ⟨by first | rfl | simp, HB.out⟩
end
end Go.Proofs.Ytdpbfmookhgilaa
