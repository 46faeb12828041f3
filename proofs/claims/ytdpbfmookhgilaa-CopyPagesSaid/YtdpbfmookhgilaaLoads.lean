import Derived.Test.YtdpbfmookhgilaaSpan
import Derived.Deep.QuietTactic
import Derived.BigQuiet
import Derived.Lib.EndianBits
/- Load8, Load32, Store32. -/
namespace Go.Proofs.Ytdpbfmookhgilaa
open Go.RowKit
set_option linter.unusedVariables false
attribute [local go_sem] szIs_lit row_at row_past row_alloc nf_alloc row_set nf_set row_cell nf_cell row_drew nf_drew row_drewN nf_drewN cell_setRow frozen_setRow nlt1 nlt2 nlt3 nlt4 nne1 nne2 nne3 nen1 nen2 nen3
attribute [local go_sem] by_get by_set

def le32 (M : Nat → Int) (a : Nat) : Int := M a + 256 * M (a + 1) + 65536 * M (a + 2) + 16777216 * M (a + 3)
def isByte (x : Int) : Prop := 0 ≤ x ∧ x ≤ 255
set_option maxHeartbeats 1000000 in
theorem load32_ok (g b n a : Nat) (M : Nat → Int) (w : World) (hg : Blk w g (memS b n)) (hb : Blk w b (bytes M n)) (hn : n ≤ 1048576) (hM : ∀ i, isByte (M i)) (h0 : a % 4 = 0) (h2 : a + 4 ≤ n) :
    Calls Try.prog 40 #[.pointer (some ⟨g, 0, none⟩), .int .i64 a] w fun e w' => e = .returned (.tuple #[.int .u32 (le32 M a), .int .i64 0]) ∧ Below w.heap.size w w' := by
  have Hs := Lib.hid (word_ok g b n a M w hg hb hn h0 h2)
  have el : le32 M a = M a + 256 * M (a + 1) + 65536 * M (a + 2) + 16777216 * M (a + 3) := rfl
  have e1 := by_get M n a (by omega)
  have e2 := by_get M n (a + 1) (by omega)
  have e3 := by_get M n (a + 2) (by omega)
  have e4 := by_get M n (a + 3) (by omega)
  obtain ⟨b0, c0⟩ := hM a
  obtain ⟨b1, c1⟩ := hM (a + 1)
  obtain ⟨b2, c2⟩ := hM (a + 2)
  obtain ⟨b3, c3⟩ := hM (a + 3)
  have o1 : bits .or .u32 (M a) (M (a + 1) * 256) = M a + 256 * M (a + 1) := by rw [u32_or8 _ _ (by omega) (by omega) (by omega) (by omega) (by omega)]; omega
  have o2 : bits .or .u32 (M a + 256 * M (a + 1)) (M (a + 2) * 65536) = M a + 256 * M (a + 1) + 65536 * M (a + 2) := by rw [u32_or16 _ _ (by omega) (by omega) (by omega) (by omega) (by omega)]; omega
  have o3 : bits .or .u32 (M a + 256 * M (a + 1) + 65536 * M (a + 2)) (M (a + 3) * 16777216) = M a + 256 * M (a + 1) + 65536 * M (a + 2) + 16777216 * M (a + 3) := by rw [u32_or24 _ _ (by omega) (by omega) (by omega) (by omega) (by omega)]; omega
  rw [el]
  obtain ⟨gr, gn, gc, gf⟩ := hg.all
  obtain ⟨mr, mn, mc, mf⟩ := hb.all
  rw [show bytes M n = bytes M n from rfl] at mr
  clear el hM h0 hg hb mr gr
  generalize M a = x0 at *
  generalize M (a + 1) = x1 at *
  generalize M (a + 2) = x2 at *
  generalize M (a + 3) = x3 at *
  go_enter Try.func40, Try.ntmps40
  go_wp2_with fail
  refine (Hs.out).mono ?_; rintro e w' ⟨rfl, rfl⟩
  go_wp2
  go_quiet (fail)
  go_wp2
  go_ret2
  exact ⟨by simp, below_drewN (Below.refl _ _) _⟩
theorem load32_neg (g b n : Nat) (M : Nat → Int) (w : World) (x v : Int) (hg : Blk w g (memS b n)) (hb : Blk w b (bytes M n)) (hn : n ≤ 1048576) (hr : (x.tmod 4 != 0) = false) (h2 : x < 0) :
    Calls Try.prog 40 #[.pointer (some ⟨g, 0, none⟩), .int .i64 x] w fun e w' => e = .returned (.tuple #[.int .u32 0, .int .i64 10]) ∧ w = w' := by
  have Hs := Lib.hid (word_neg g b n M w x hg hb hn hr h2)
  clear hg hb hn hr h2
  go_enter Try.func40, Try.ntmps40
  go_wp2_with fail
  refine (Hs.out).mono ?_; rintro e w' ⟨rfl, rfl⟩
  go_wp2
  go_ret2
  exact ⟨by simp, rfl⟩
theorem store32_neg (g b n : Nat) (M : Nat → Int) (w : World) (x v : Int) (hg : Blk w g (memS b n)) (hb : Blk w b (bytes M n)) (hn : n ≤ 1048576) (hr : (x.tmod 4 != 0) = false) (h2 : x < 0) :
    Calls Try.prog 30 #[.pointer (some ⟨g, 0, none⟩), .int .i64 x, .int .u32 v] w fun e w' => e = .returned (.int .i64 10) ∧ w = w' := by
  have Hs := Lib.hid (word_neg g b n M w x hg hb hn hr h2)
  clear hg hb hn hr h2
  go_enter Try.func30, Try.ntmps30
  go_wp2_with fail
  refine (Hs.out).mono ?_; rintro e w' ⟨rfl, rfl⟩
  go_wp2
  go_ret
  exact ⟨by simp, rfl⟩
theorem load32_far (g b n : Nat) (M : Nat → Int) (w : World) (x v : Int) (hg : Blk w g (memS b n)) (hb : Blk w b (bytes M n)) (hn : n ≤ 1048576) (hr : (x.tmod 4 != 0) = false) (h2 : 0 ≤ x) (h3 : (n : Int) < x) :
    Calls Try.prog 40 #[.pointer (some ⟨g, 0, none⟩), .int .i64 x] w fun e w' => e = .returned (.tuple #[.int .u32 0, .int .i64 10]) ∧ w = w' := by
  have Hs := Lib.hid (word_far g b n M w x hg hb hn hr h2 h3)
  clear hg hb hn hr h2 h3
  go_enter Try.func40, Try.ntmps40
  go_wp2_with fail
  refine (Hs.out).mono ?_; rintro e w' ⟨rfl, rfl⟩
  go_wp2
  go_ret2
  exact ⟨by simp, rfl⟩
theorem store32_far (g b n : Nat) (M : Nat → Int) (w : World) (x v : Int) (hg : Blk w g (memS b n)) (hb : Blk w b (bytes M n)) (hn : n ≤ 1048576) (hr : (x.tmod 4 != 0) = false) (h2 : 0 ≤ x) (h3 : (n : Int) < x) :
    Calls Try.prog 30 #[.pointer (some ⟨g, 0, none⟩), .int .i64 x, .int .u32 v] w fun e w' => e = .returned (.int .i64 10) ∧ w = w' := by
  have Hs := Lib.hid (word_far g b n M w x hg hb hn hr h2 h3)
  clear hg hb hn hr h2 h3
  go_enter Try.func30, Try.ntmps30
  go_wp2_with fail
  refine (Hs.out).mono ?_; rintro e w' ⟨rfl, rfl⟩
  go_wp2
  go_ret
  exact ⟨by simp, rfl⟩
theorem load32_end (g b n : Nat) (M : Nat → Int) (w : World) (x v : Int) (hg : Blk w g (memS b n)) (hb : Blk w b (bytes M n)) (hn : n ≤ 1048576) (hr : (x.tmod 4 != 0) = false) (h2 : 0 ≤ x) (h3 : ¬ (n : Int) < x) (h4 : (n : Int) - x < 4) :
    Calls Try.prog 40 #[.pointer (some ⟨g, 0, none⟩), .int .i64 x] w fun e w' => e = .returned (.tuple #[.int .u32 0, .int .i64 10]) ∧ w = w' := by
  have Hs := Lib.hid (word_end g b n M w x hg hb hn hr h2 h3 h4)
  clear hg hb hn hr h2 h3 h4
  go_enter Try.func40, Try.ntmps40
  go_wp2_with fail
  refine (Hs.out).mono ?_; rintro e w' ⟨rfl, rfl⟩
  go_wp2
  go_ret2
  exact ⟨by simp, rfl⟩
theorem store32_end (g b n : Nat) (M : Nat → Int) (w : World) (x v : Int) (hg : Blk w g (memS b n)) (hb : Blk w b (bytes M n)) (hn : n ≤ 1048576) (hr : (x.tmod 4 != 0) = false) (h2 : 0 ≤ x) (h3 : ¬ (n : Int) < x) (h4 : (n : Int) - x < 4) :
    Calls Try.prog 30 #[.pointer (some ⟨g, 0, none⟩), .int .i64 x, .int .u32 v] w fun e w' => e = .returned (.int .i64 10) ∧ w = w' := by
  have Hs := Lib.hid (word_end g b n M w x hg hb hn hr h2 h3 h4)
  clear hg hb hn hr h2 h3 h4
  go_enter Try.func30, Try.ntmps30
  go_wp2_with fail
  refine (Hs.out).mono ?_; rintro e w' ⟨rfl, rfl⟩
  go_wp2
  go_ret
  exact ⟨by simp, rfl⟩
theorem load32_odd (g : Nat) (w : World) (x v : Int) (hr : (x.tmod 4 != 0) = true) :
    Calls Try.prog 40 #[.pointer (some ⟨g, 0, none⟩), .int .i64 x] w fun e w' => e = .returned (.tuple #[.int .u32 0, .int .i64 10]) ∧ w = w' := by
  have Hs := Lib.hid (word_odd g w x hr)
  clear hr
  go_enter Try.func40, Try.ntmps40
  go_wp2_with fail
  refine (Hs.out).mono ?_; rintro e w' ⟨rfl, rfl⟩
  go_wp2
  go_ret2
  exact ⟨by simp, rfl⟩
theorem store32_odd (g : Nat) (w : World) (x v : Int) (hr : (x.tmod 4 != 0) = true) :
    Calls Try.prog 30 #[.pointer (some ⟨g, 0, none⟩), .int .i64 x, .int .u32 v] w fun e w' => e = .returned (.int .i64 10) ∧ w = w' := by
  have Hs := Lib.hid (word_odd g w x hr)
  clear hr
  go_enter Try.func30, Try.ntmps30
  go_wp2_with fail
  refine (Hs.out).mono ?_; rintro e w' ⟨rfl, rfl⟩
  go_wp2
  go_ret
  exact ⟨by simp, rfl⟩
/-- What is stored, byte by byte. -/
def st32 (M : Nat → Int) (a : Nat) (x : Int) (k : Nat) : Nat → Int := fun j => if a ≤ j ∧ j < a + k then x / 2 ^ (8 * (j - a)) % 256 else M j
theorem st32_zero (M : Nat → Int) (a : Nat) (x : Int) : st32 M a x 0 = M := by funext j; unfold st32; rw [if_neg (by omega)]
theorem st32_succ (M : Nat → Int) (a : Nat) (x : Int) (k : Nat) : updM (st32 M a x k) (a + k) (x / 2 ^ (8 * k) % 256) = st32 M a x (k + 1) := by
  funext j
  unfold updM st32
  by_cases e : j = a + k
  · subst e; rw [if_pos rfl, if_pos (by omega)]; simp
  · rw [if_neg e]
    by_cases h : a ≤ j ∧ j < a + k
    · rw [if_pos h, if_pos (by omega)]
    · rw [if_neg h, if_neg (by omega)]
set_option maxHeartbeats 1000000 in
theorem store32_ok (g b n a : Nat) (M : Nat → Int) (x : Int) (w : World) (hg : Blk w g (memS b n)) (hb : Blk w b (bytes M n)) (hn : n ≤ 1048576) (hx0 : 0 ≤ x) (hx1 : x ≤ 4294967295) (h0 : a % 4 = 0) (h2 : a + 4 ≤ n) :
    Calls Try.prog 30 #[.pointer (some ⟨g, 0, none⟩), .int .i64 a, .int .u32 x] w fun e w' => e = .returned (.int .i64 0) ∧ Blk w' b (bytes (st32 M a x 4) n) ∧ w.grownBy w' (some b) := by
  have Hs := Lib.hid (word_ok g b n a M w hg hb hn h0 h2)
  have HS := Lib.hid (st32_succ M a x)
  have HZ := Lib.hid (st32_zero M a x)
  obtain ⟨gr, gn, gc, gf⟩ := hg.all
  obtain ⟨mr, mn, mc, mf⟩ := hb.all
  clear hg h0
  go_enter Try.func30, Try.ntmps30
  go_wp2_with fail
  refine (Hs.out).mono ?_; rintro e w' ⟨rfl, rfl⟩
  go_wp2
  go_loopw [21] (fun s wr => ∃ k : Nat, k ≤ 4 ∧ s = .int .i64 k ∧ Blk wr b (bytes (st32 M a x k) n) ∧ w.grownBy wr (some b)) (fun s _ => 4 - (intOf s).toNat)
  case atStart => exact ⟨0, by omega, rfl, by rw [HZ.out]; exact hb, ⟨rfl, rfl, rfl, Nat.le_refl _, fun _ _ _ => rfl⟩⟩
  case round =>
    obtain ⟨k, hk, rfl, hbk, hgr⟩ := hrel
    obtain ⟨kr, kn, kc, kf⟩ := hbk.all
    clear gr gn gc gf mr mn mc mf
    have hl0 : (0 : Int) ≤ (k : Int) := Int.natCast_nonneg _
    have hs := HS.out k
    have hs' := congrArg (fun f => bytes f n) hs
    have HS' := Lib.hid hs'
    clear hs hs'
    by_cases hlt : k < 4
    · have hin : a + k < n := by omega
      have hget := by_get (st32 M a x k) n (a + k) hin
      have Hb := Lib.hid hb
      clear hb
      go_wp2

      go_roundw
      case rel =>
        refine ⟨k + 1, by omega, by go_num, ?_, only_cell hgr _ _⟩
        have hp := hbk.put (a + k) (.int .u8 (x / 2 ^ (8 * k) % 256))
        rw [by_set _ _ _ _ hin] at hp
        have h2 := HS'.out
        rw [h2] at hp
        exact hp
      case measure => simp [intOf]; omega
    · obtain rfl : k = 4 := by omega
      go_wp2
      go_ret
      exact ⟨rfl, hbk, hgr⟩
end Go.Proofs.Ytdpbfmookhgilaa
