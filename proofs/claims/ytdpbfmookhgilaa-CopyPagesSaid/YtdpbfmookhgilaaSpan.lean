import Derived.Test.YtdpbfmookhgilaaMem
/- span, word, frame, Frames. -/
namespace Go.Proofs.Ytdpbfmookhgilaa
open Go.RowKit
set_option linter.unusedVariables false
attribute [local go_sem] szIs_lit row_at row_past row_alloc nf_alloc row_set nf_set row_cell nf_cell row_drew nf_drew row_drewN nf_drewN cell_setRow frozen_setRow nlt1 nlt2 nlt3 nlt4 nne1 nne2 nne3 nen1 nen2 nen3
attribute [local go_sem] by_get by_set

theorem span_ok (g b n a k : Nat) (M : Nat → Int) (w : World) (hg : Blk w g (memS b n)) (hb : Blk w b (bytes M n)) (hn : n ≤ 1048576) (h1 : 1 ≤ k) (h2 : a + k ≤ n) :
    Calls Try.prog 20 #[.pointer (some ⟨g, 0, none⟩), .int .i64 a, .int .i64 k] w fun e w' => e = .returned (.tuple #[.slice (some ⟨b, a, none⟩) k k, .int .i64 0]) ∧ w = w' := by
  obtain ⟨gr, gn, gc, gf⟩ := hg.all
  obtain ⟨mr, mn, mc, mf⟩ := hb.all
  go_enter Try.func20, Try.ntmps20
  go_wp2
  go_ret2
  exact ⟨by simp, rfl⟩
theorem span_neg (g b n : Nat) (M : Nat → Int) (w : World) (x k : Int) (hg : Blk w g (memS b n)) (hb : Blk w b (bytes M n)) (hn : n ≤ 1048576) (h1 : 0 ≤ k) (h2 : x < 0) :
    Calls Try.prog 20 #[.pointer (some ⟨g, 0, none⟩), .int .i64 x, .int .i64 k] w fun e w' => e = .returned (.tuple #[.slice none 0 0, .int .i64 10]) ∧ w = w' := by
  obtain ⟨gr, gn, gc, gf⟩ := hg.all
  obtain ⟨mr, mn, mc, mf⟩ := hb.all
  go_enter Try.func20, Try.ntmps20
  go_wp2
  go_ret2
  exact ⟨by simp, rfl⟩
theorem span_far (g b n : Nat) (M : Nat → Int) (w : World) (x k : Int) (hg : Blk w g (memS b n)) (hb : Blk w b (bytes M n)) (hn : n ≤ 1048576) (h1 : 0 ≤ k) (h2 : 0 ≤ x) (h3 : (n : Int) < x) :
    Calls Try.prog 20 #[.pointer (some ⟨g, 0, none⟩), .int .i64 x, .int .i64 k] w fun e w' => e = .returned (.tuple #[.slice none 0 0, .int .i64 10]) ∧ w = w' := by
  obtain ⟨gr, gn, gc, gf⟩ := hg.all
  obtain ⟨mr, mn, mc, mf⟩ := hb.all
  go_enter Try.func20, Try.ntmps20
  go_wp2
  go_ret2
  exact ⟨by simp, rfl⟩
theorem span_end (g b n : Nat) (M : Nat → Int) (w : World) (x k : Int) (hg : Blk w g (memS b n)) (hb : Blk w b (bytes M n)) (hn : n ≤ 1048576) (h1 : 0 ≤ k) (h2 : 0 ≤ x) (h3 : ¬ (n : Int) < x) (h4 : (n : Int) - x < k) :
    Calls Try.prog 20 #[.pointer (some ⟨g, 0, none⟩), .int .i64 x, .int .i64 k] w fun e w' => e = .returned (.tuple #[.slice none 0 0, .int .i64 10]) ∧ w = w' := by
  obtain ⟨gr, gn, gc, gf⟩ := hg.all
  obtain ⟨mr, mn, mc, mf⟩ := hb.all
  go_enter Try.func20, Try.ntmps20
  go_wp2
  go_ret2
  exact ⟨by simp, rfl⟩
theorem frames_ok (g b n : Nat) (M : Nat → Int) (w : World) (hg : Blk w g (memS b n)) (hb : Blk w b (bytes M n)) (hn : n ≤ 1048576)  :
    Calls Try.prog 38 #[.pointer (some ⟨g, 0, none⟩)] w fun e w' => e = .returned (.int .i64 ((n / 256 : Nat) : Int)) ∧ w = w' := by
  obtain ⟨gr, gn, gc, gf⟩ := hg.all
  obtain ⟨mr, mn, mc, mf⟩ := hb.all
  go_enter Try.func38, Try.ntmps38
  go_wp2
  go_ret
  exact ⟨by simp, rfl⟩
theorem word_ok (g b n a : Nat) (M : Nat → Int) (w : World) (hg : Blk w g (memS b n)) (hb : Blk w b (bytes M n)) (hn : n ≤ 1048576) (h0 : a % 4 = 0) (h2 : a + 4 ≤ n) :
    Calls Try.prog 41 #[.pointer (some ⟨g, 0, none⟩), .int .i64 a] w fun e w' => e = .returned (.tuple #[.slice (some ⟨b, a, none⟩) 4 4, .int .i64 0]) ∧ w = w' := by
  have hr : (((a : Int) % 4) != 0) = false := by simp; omega
  have Hs := Lib.hid (span_ok g b n a 4 M w hg hb hn (by decide) h2)
  clear h0 h2
  clear hg hb hn
  go_enter Try.func41, Try.ntmps41
  go_wp2_with fail
  refine (Hs.out).mono ?_; rintro e w' ⟨rfl, rfl⟩
  go_wp2
  go_ret2
  exact ⟨by simp, rfl⟩
theorem word_neg (g b n : Nat) (M : Nat → Int) (w : World) (x : Int) (hg : Blk w g (memS b n)) (hb : Blk w b (bytes M n)) (hn : n ≤ 1048576) (hr : (x.tmod 4 != 0) = false) (h2 : x < 0) :
    Calls Try.prog 41 #[.pointer (some ⟨g, 0, none⟩), .int .i64 x] w fun e w' => e = .returned (.tuple #[.slice none 0 0, .int .i64 10]) ∧ w = w' := by
  have Hs := Lib.hid (span_neg g b n M w x 4 hg hb hn (by decide) h2)
  clear hg hb hn
  go_enter Try.func41, Try.ntmps41
  go_wp2_with fail
  refine (Hs.out).mono ?_; rintro e w' ⟨rfl, rfl⟩
  go_wp2
  go_ret2
  exact ⟨by simp, rfl⟩
theorem word_far (g b n : Nat) (M : Nat → Int) (w : World) (x : Int) (hg : Blk w g (memS b n)) (hb : Blk w b (bytes M n)) (hn : n ≤ 1048576) (hr : (x.tmod 4 != 0) = false) (h2 : 0 ≤ x) (h3 : (n : Int) < x) :
    Calls Try.prog 41 #[.pointer (some ⟨g, 0, none⟩), .int .i64 x] w fun e w' => e = .returned (.tuple #[.slice none 0 0, .int .i64 10]) ∧ w = w' := by
  have Hs := Lib.hid (span_far g b n M w x 4 hg hb hn (by decide) h2 h3)
  have hr' : (x % 4 != 0) = false := by rwa [← Int.tmod_eq_emod_of_nonneg h2]
  clear hg hb hn
  go_enter Try.func41, Try.ntmps41
  go_wp2_with fail
  refine (Hs.out).mono ?_; rintro e w' ⟨rfl, rfl⟩
  go_wp2
  go_ret2
  exact ⟨by simp, rfl⟩
theorem word_end (g b n : Nat) (M : Nat → Int) (w : World) (x : Int) (hg : Blk w g (memS b n)) (hb : Blk w b (bytes M n)) (hn : n ≤ 1048576) (hr : (x.tmod 4 != 0) = false) (h2 : 0 ≤ x) (h3 : ¬ (n : Int) < x) (h4 : (n : Int) - x < 4) :
    Calls Try.prog 41 #[.pointer (some ⟨g, 0, none⟩), .int .i64 x] w fun e w' => e = .returned (.tuple #[.slice none 0 0, .int .i64 10]) ∧ w = w' := by
  have Hs := Lib.hid (span_end g b n M w x 4 hg hb hn (by decide) h2 h3 h4)
  have hr' : (x % 4 != 0) = false := by rwa [← Int.tmod_eq_emod_of_nonneg h2]
  clear hg hb hn
  go_enter Try.func41, Try.ntmps41
  go_wp2_with fail
  refine (Hs.out).mono ?_; rintro e w' ⟨rfl, rfl⟩
  go_wp2
  go_ret2
  exact ⟨by simp, rfl⟩
theorem word_odd (g : Nat) (w : World) (x : Int) (hr : (x.tmod 4 != 0) = true) :
    Calls Try.prog 41 #[.pointer (some ⟨g, 0, none⟩), .int .i64 x] w fun e w' => e = .returned (.tuple #[.slice none 0 0, .int .i64 10]) ∧ w = w' := by
  go_enter Try.func41, Try.ntmps41
  go_wp2

  go_ret2
  exact ⟨by simp, rfl⟩
end Go.Proofs.Ytdpbfmookhgilaa
