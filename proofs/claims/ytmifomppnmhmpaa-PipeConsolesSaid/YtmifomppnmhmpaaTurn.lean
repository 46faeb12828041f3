import Derived.Test.YtmifomppnmhmpaaPipe
/- Close and Open. -/
namespace Go.Proofs.Ytmifomppnmhmpaa
open Go.RowKit
set_option linter.unusedVariables false
attribute [local go_sem] szIs_lit row_at row_past row_alloc nf_alloc row_set nf_set row_cell nf_cell row_drew nf_drew row_drewN nf_drewN cell_setRow frozen_setRow nlt1 nlt2 nlt3 nlt4 nne1 nne2 nne3 nen1 nen2 nen3
attribute [local go_sem] rg_setf rg_setn rg_setm

theorem reheld_other (w : World) (m k : Nat) (r s : Int) (h : k ≠ m) : (reheld w m r s).heap[k]? = w.heap[k]? := by
  unfold reheld; simp only [Array.getElem?_setIfInBounds]; rw [if_neg (Ne.symm h)]
theorem reheld_self (w : World) (m : Nat) (r s r1 s1 : Int) (h : w.heap[m]? = some (held r1 s1)) : (reheld w m r s).heap[m]? = some (held r s) := by
  have := (Array.getElem?_eq_some_iff.1 h).1
  simp [reheld, this]
theorem reheld_only (w : World) (m : Nat) (r s : Int) : w.grownBy (reheld w m r s) (some m) :=
  ⟨rfl, rfl, rfl, by simp [reheld], fun k hk hne => reheld_other w m k r s (fun e => hne (by rw [e]))⟩
theorem PipeAt.reheld {g m n : Nat} {Q : Nat → Int} {r s : Int} {w : World} (h : PipeAt w g m Q n r s) (r1 s1 : Int) : PipeAt (reheld w m r1 s1) g m Q n r1 s1 ∧ Keep w (Go.Proofs.Ytmifomppnmhmpaa.reheld w m r1 s1) g m := by
  have hne := h.ne
  obtain ⟨B, f, hb, hm, hr⟩ := h
  exact ⟨⟨B, f, hb.only (reheld_only w m r1 s1) hb.lt hne, reheld_self _ _ _ _ _ _ hm, hr⟩, Keep.of_only2 (reheld_only w m r1 s1)⟩
theorem close_none_true (g m n : Nat) (Q : Nat → Int) (r s : Int) (w : World) (h : PipeAt w g m Q n r s) (h0 : s = 0) : Calls Try.prog 15 #[.pointer (some ⟨g, 0, none⟩), .bool true] w fun e w' => e = .returned (.tuple #[.bool false, .int .i64 4]) ∧ w = w' := by
  subst h0
  have HM := Lib.hid (made_ok g m n Q _ _ w h)
  obtain ⟨B, f, hb, hm, hf, hn, hq⟩ := h
  obtain ⟨gr, gn, gc, gf⟩ := hb.all
  have c4 := (gc 514).trans (rg_map ..)
  clear gc gr gn gf
  have hl0 := look_held hm false
  have hl1 := look_held hm true
  simp only [Bool.false_eq_true, if_false, if_true] at hl0 hl1
  clear hb hm hq
  go_enter Try.func15, Try.ntmps15
  go_wp2_with fail
  refine (HM.out).mono ?_; rintro e w' ⟨rfl, rfl⟩
  go_wp2
  go_ret2
  exact ⟨by simp, rfl⟩
theorem close_true (g m n : Nat) (Q : Nat → Int) (r s : Int) (w : World) (h : PipeAt w g m Q n r s) (h0 : 0 < s) (h1 : s ≤ 2147483647) : Calls Try.prog 15 #[.pointer (some ⟨g, 0, none⟩), .bool true] w fun e w' => e = .returned (.tuple #[.bool ((r == 0) && (s - 1 == 0)), .int .i64 0]) ∧ PipeAt w' g m Q n r (s - 1) ∧ Keep w w' g m := by
  have HM := Lib.hid (made_ok g m n Q _ _ w h)
  have HR := Lib.hid (h.reheld r (s - 1))
  obtain ⟨B, f, hb, hm, hf, hn, hq⟩ := h
  obtain ⟨gr, gn, gc, gf⟩ := hb.all
  have c4 := (gc 514).trans (rg_map ..)
  clear gc gr gn gf
  have hl0 := look_held hm false
  have hl1 := look_held hm true
  have hu := upd_held hm true (s - 1)
  have hk0 := look_held (reheld_self w m r (s - 1) _ _ hm) false
  have hk1 := look_held (reheld_self w m r (s - 1) _ _ hm) true
  simp only [Bool.false_eq_true, if_false, if_true] at hl0 hl1 hu hk0 hk1
  have k4 : (reheld w m r (s - 1)).cell? ⟨g, 514, none⟩ = some (.map (some m)) := (World.cell?_of_block (reheld_other w m g _ _ (PipeAt.ne ⟨B, f, hb, hm, hf, hn, hq⟩))).trans c4
  have ne : (s == 0) = false := beq_eq_false_iff_ne.2 (by omega)
  clear hb hm hq
  by_cases hz : r = 0
  · obtain rfl : r = 0 := by omega
    go_enter Try.func15, Try.ntmps15
    go_wp2_with fail
    refine (HM.out).mono ?_; rintro e w' ⟨rfl, rfl⟩
    go_wp2
    go_ret2
    exact ⟨by first | (simp; done) | (simp; omega), HR.out⟩
  · have hz2 : (r == 0) = false := beq_eq_false_iff_ne.2 hz
    go_enter Try.func15, Try.ntmps15
    go_wp2_with fail
    refine (HM.out).mono ?_; rintro e w' ⟨rfl, rfl⟩
    go_wp2
    go_ret2
    exact ⟨by first | (simp; done) | (simp; omega), HR.out⟩

theorem open_true (g m n : Nat) (Q : Nat → Int) (r s : Int) (w : World) (h : PipeAt w g m Q n r s) (h0 : 0 ≤ s) (h1 : s < 2147483647) : Calls Try.prog 25 #[.pointer (some ⟨g, 0, none⟩), .bool true] w fun e w' => e = .returned (.int .i64 0) ∧ PipeAt w' g m Q n r (s + 1) ∧ Keep w w' g m := by
  have HM := Lib.hid (made_ok g m n Q _ _ w h)
  have HR := Lib.hid (h.reheld r (s + 1))
  obtain ⟨B, f, hb, hm, hf, hn, hq⟩ := h
  obtain ⟨gr, gn, gc, gf⟩ := hb.all
  have c4 := (gc 514).trans (rg_map ..)
  clear gc gr gn gf
  have hl0 := look_held hm false
  have hl1 := look_held hm true
  have hu := upd_held hm true (s + 1)
  simp only [Bool.false_eq_true, if_false, if_true] at hl0 hl1 hu
  clear hb hm hq
  go_enter Try.func25, Try.ntmps25
  go_wp2_with fail
  refine (HM.out).mono ?_; rintro e w' ⟨rfl, rfl⟩
  go_wp2
  go_ret
  exact ⟨by simp, HR.out⟩
theorem open_full_true (g m n : Nat) (Q : Nat → Int) (r s : Int) (w : World) (h : PipeAt w g m Q n r s) (h1 : 2147483647 ≤ s) : Calls Try.prog 25 #[.pointer (some ⟨g, 0, none⟩), .bool true] w fun e w' => e = .returned (.int .i64 2) ∧ w = w' := by
  have HM := Lib.hid (made_ok g m n Q _ _ w h)
  obtain ⟨B, f, hb, hm, hf, hn, hq⟩ := h
  obtain ⟨gr, gn, gc, gf⟩ := hb.all
  have c4 := (gc 514).trans (rg_map ..)
  clear gc gr gn gf
  have hl0 := look_held hm false
  have hl1 := look_held hm true
  have hu := upd_held hm true (s + 1)
  simp only [Bool.false_eq_true, if_false, if_true] at hl0 hl1
  clear hb hm hq hu
  go_enter Try.func25, Try.ntmps25
  go_wp2_with fail
  refine (HM.out).mono ?_; rintro e w' ⟨rfl, rfl⟩
  go_wp2
  go_ret
  exact ⟨by simp, rfl⟩
theorem close_none_false (g m n : Nat) (Q : Nat → Int) (r s : Int) (w : World) (h : PipeAt w g m Q n r s) (h0 : r = 0) : Calls Try.prog 15 #[.pointer (some ⟨g, 0, none⟩), .bool false] w fun e w' => e = .returned (.tuple #[.bool false, .int .i64 4]) ∧ w = w' := by
  subst h0
  have HM := Lib.hid (made_ok g m n Q _ _ w h)
  obtain ⟨B, f, hb, hm, hf, hn, hq⟩ := h
  obtain ⟨gr, gn, gc, gf⟩ := hb.all
  have c4 := (gc 514).trans (rg_map ..)
  clear gc gr gn gf
  have hl0 := look_held hm false
  have hl1 := look_held hm true
  simp only [Bool.false_eq_true, if_false, if_true] at hl0 hl1
  clear hb hm hq
  go_enter Try.func15, Try.ntmps15
  go_wp2_with fail
  refine (HM.out).mono ?_; rintro e w' ⟨rfl, rfl⟩
  go_wp2
  go_ret2
  exact ⟨by simp, rfl⟩
theorem close_false (g m n : Nat) (Q : Nat → Int) (r s : Int) (w : World) (h : PipeAt w g m Q n r s) (h0 : 0 < r) (h1 : r ≤ 2147483647) : Calls Try.prog 15 #[.pointer (some ⟨g, 0, none⟩), .bool false] w fun e w' => e = .returned (.tuple #[.bool ((r - 1 == 0) && (s == 0)), .int .i64 0]) ∧ PipeAt w' g m Q n (r - 1) s ∧ Keep w w' g m := by
  have HM := Lib.hid (made_ok g m n Q _ _ w h)
  have HR := Lib.hid (h.reheld (r - 1) s)
  obtain ⟨B, f, hb, hm, hf, hn, hq⟩ := h
  obtain ⟨gr, gn, gc, gf⟩ := hb.all
  have c4 := (gc 514).trans (rg_map ..)
  clear gc gr gn gf
  have hl0 := look_held hm false
  have hl1 := look_held hm true
  have hu := upd_held hm false (r - 1)
  have hk0 := look_held (reheld_self w m (r - 1) s _ _ hm) false
  have hk1 := look_held (reheld_self w m (r - 1) s _ _ hm) true
  simp only [Bool.false_eq_true, if_false, if_true] at hl0 hl1 hu hk0 hk1
  have k4 : (reheld w m (r - 1) s).cell? ⟨g, 514, none⟩ = some (.map (some m)) := (World.cell?_of_block (reheld_other w m g _ _ (PipeAt.ne ⟨B, f, hb, hm, hf, hn, hq⟩))).trans c4
  have ne : (r == 0) = false := beq_eq_false_iff_ne.2 (by omega)
  clear hb hm hq
  by_cases hz : r - 1 = 0
  · obtain rfl : r = 1 := by omega
    simp only [Int.sub_self] at hk0 hk1 k4 hu
    go_enter Try.func15, Try.ntmps15
    go_wp2_with fail
    refine (HM.out).mono ?_; rintro e w' ⟨rfl, rfl⟩
    go_wp2
    go_ret2
    exact ⟨by first | (simp; done) | (simp; omega), HR.out⟩
  · have hz2 : (r - 1 == 0) = false := beq_eq_false_iff_ne.2 hz
    go_enter Try.func15, Try.ntmps15
    go_wp2_with fail
    refine (HM.out).mono ?_; rintro e w' ⟨rfl, rfl⟩
    go_wp2
    go_ret2
    exact ⟨by first | (simp; done) | (simp; omega), HR.out⟩

theorem open_false (g m n : Nat) (Q : Nat → Int) (r s : Int) (w : World) (h : PipeAt w g m Q n r s) (h0 : 0 ≤ r) (h1 : r < 2147483647) : Calls Try.prog 25 #[.pointer (some ⟨g, 0, none⟩), .bool false] w fun e w' => e = .returned (.int .i64 0) ∧ PipeAt w' g m Q n (r + 1) s ∧ Keep w w' g m := by
  have HM := Lib.hid (made_ok g m n Q _ _ w h)
  have HR := Lib.hid (h.reheld (r + 1) s)
  obtain ⟨B, f, hb, hm, hf, hn, hq⟩ := h
  obtain ⟨gr, gn, gc, gf⟩ := hb.all
  have c4 := (gc 514).trans (rg_map ..)
  clear gc gr gn gf
  have hl0 := look_held hm false
  have hl1 := look_held hm true
  have hu := upd_held hm false (r + 1)
  simp only [Bool.false_eq_true, if_false, if_true] at hl0 hl1 hu
  clear hb hm hq
  go_enter Try.func25, Try.ntmps25
  go_wp2_with fail
  refine (HM.out).mono ?_; rintro e w' ⟨rfl, rfl⟩
  go_wp2
  go_ret
  exact ⟨by simp, HR.out⟩
theorem open_full_false (g m n : Nat) (Q : Nat → Int) (r s : Int) (w : World) (h : PipeAt w g m Q n r s) (h1 : 2147483647 ≤ r) : Calls Try.prog 25 #[.pointer (some ⟨g, 0, none⟩), .bool false] w fun e w' => e = .returned (.int .i64 2) ∧ w = w' := by
  have HM := Lib.hid (made_ok g m n Q _ _ w h)
  obtain ⟨B, f, hb, hm, hf, hn, hq⟩ := h
  obtain ⟨gr, gn, gc, gf⟩ := hb.all
  have c4 := (gc 514).trans (rg_map ..)
  clear gc gr gn gf
  have hl0 := look_held hm false
  have hl1 := look_held hm true
  have hu := upd_held hm false (r + 1)
  simp only [Bool.false_eq_true, if_false, if_true] at hl0 hl1
  clear hb hm hq hu
  go_enter Try.func25, Try.ntmps25
  go_wp2_with fail
  refine (HM.out).mono ?_; rintro e w' ⟨rfl, rfl⟩
  go_wp2
  go_ret
  exact ⟨by simp, rfl⟩
end Go.Proofs.Ytmifomppnmhmpaa
