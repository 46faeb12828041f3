import Derived.Test.YtmifomppnmhmpaaRead
/- Read and Write of a pipe, every case: one contract each. -/
namespace Go.Proofs.Ytmifomppnmhmpaa
open Go.RowKit
set_option linter.unusedVariables false
set_option linter.unusedSimpArgs false
attribute [local go_sem] szIs_lit row_at row_past row_alloc nf_alloc row_set nf_set row_cell nf_cell row_drew nf_drew row_drewN nf_drewN cell_setRow frozen_setRow nlt1 nlt2 nlt3 nlt4 nne1 nne2 nne3 nen1 nen2 nen3
attribute [local go_sem] rg_setf rg_setn rg_setm

theorem write_shut (g m n : Nat) (Q : Nat → Int) (r s : Int) (w : World) (h : PipeAt w g m Q n r s) (A : Option Addr) (len cap : Nat) (h0 : r = 0) : Calls Try.prog 12 #[.pointer (some ⟨g, 0, none⟩), .slice A len cap] w fun e w' => e = .returned (.tuple #[.int .i64 0, .int .i64 210]) ∧ w = w' := by
  subst h0
  have HM := Lib.hid (made_ok g m _ Q _ _ w h)
  obtain ⟨B, f, hb, hm, hf, hn, hq⟩ := h
  obtain ⟨gr, gn, gc, gf⟩ := hb.all
  have c3 := (gc 513).trans (rg_n ..)
  have c4 := (gc 514).trans (rg_map ..)
  have hl0 := look_held hm false
  have hl1 := look_held hm true
  simp only [Bool.false_eq_true, if_false, if_true] at hl0 hl1
  clear gc gr gn gf hb hm hq
  go_enter Try.func12, Try.ntmps12
  go_wp2_with fail
  refine (HM.out).mono ?_; rintro e w' ⟨rfl, rfl⟩
  go_wp2
  go_ret2
  exact ⟨by simp, rfl⟩
theorem write_none (g m n : Nat) (Q : Nat → Int) (r s : Int) (w : World) (h : PipeAt w g m Q n r s) (A : Option Addr) (cap : Nat) (h0 : 0 < r) : Calls Try.prog 12 #[.pointer (some ⟨g, 0, none⟩), .slice A 0 cap] w fun e w' => e = .returned (.tuple #[.int .i64 0, .int .i64 0]) ∧ w = w' := by
  have ne : (r == 0) = false := beq_eq_false_iff_ne.2 (by omega)
  have HM := Lib.hid (made_ok g m _ Q _ _ w h)
  obtain ⟨B, f, hb, hm, hf, hn, hq⟩ := h
  obtain ⟨gr, gn, gc, gf⟩ := hb.all
  have c3 := (gc 513).trans (rg_n ..)
  have c4 := (gc 514).trans (rg_map ..)
  have hl0 := look_held hm false
  have hl1 := look_held hm true
  simp only [Bool.false_eq_true, if_false, if_true] at hl0 hl1
  clear gc gr gn gf hb hm hq
  go_enter Try.func12, Try.ntmps12
  go_wp2_with fail
  refine (HM.out).mono ?_; rintro e w' ⟨rfl, rfl⟩
  go_wp2
  go_ret2
  exact ⟨by simp, rfl⟩
theorem write_full (g m n : Nat) (Q : Nat → Int) (r s : Int) (w : World) (h : PipeAt w g m Q n r s) (A : Option Addr) (len cap : Nat) (h0 : 0 < r) (h1 : 0 < len) (h2 : n = 512) : Calls Try.prog 12 #[.pointer (some ⟨g, 0, none⟩), .slice A len cap] w fun e w' => e = .returned (.tuple #[.int .i64 0, .int .i64 211]) ∧ w = w' := by
  subst h2
  have ne : (r == 0) = false := beq_eq_false_iff_ne.2 (by omega)
  have nl : ((len : Int) == 0) = false := beq_eq_false_iff_ne.2 (by omega)
  have HM := Lib.hid (made_ok g m _ Q _ _ w h)
  obtain ⟨B, f, hb, hm, hf, hn, hq⟩ := h
  obtain ⟨gr, gn, gc, gf⟩ := hb.all
  have c3 := (gc 513).trans (rg_n ..)
  have c4 := (gc 514).trans (rg_map ..)
  have hl0 := look_held hm false
  have hl1 := look_held hm true
  simp only [Bool.false_eq_true, if_false, if_true] at hl0 hl1
  clear gc gr gn gf hb hm hq
  go_enter Try.func12, Try.ntmps12
  go_wp2_with fail
  refine (HM.out).mono ?_; rintro e w' ⟨rfl, rfl⟩
  go_wp2
  go_ret2
  exact ⟨by simp, rfl⟩
theorem read_neg (g m n : Nat) (Q : Nat → Int) (r s : Int) (w : World) (h : PipeAt w g m Q n r s) (N : Int) (h0 : N < 0) : Calls Try.prog 11 #[.pointer (some ⟨g, 0, none⟩), .int .i64 N] w fun e w' => e = .returned (.tuple #[.slice none 0 0, .int .i64 1]) ∧ w = w' := by
  have HM := Lib.hid (made_ok g m _ Q _ _ w h)
  obtain ⟨B, f, hb, hm, hf, hn, hq⟩ := h
  obtain ⟨gr, gn, gc, gf⟩ := hb.all
  have c3 := (gc 513).trans (rg_n ..)
  have c4 := (gc 514).trans (rg_map ..)
  have hl0 := look_held hm false
  have hl1 := look_held hm true
  simp only [Bool.false_eq_true, if_false, if_true] at hl0 hl1
  clear gc gr gn gf hb hm hq
  go_enter Try.func11, Try.ntmps11
  go_wp2_with fail
  refine (HM.out).mono ?_; rintro e w' ⟨rfl, rfl⟩
  go_wp2
  go_ret2
  exact ⟨by simp, rfl⟩
theorem read_zero (g m n : Nat) (Q : Nat → Int) (r s : Int) (w : World) (h : PipeAt w g m Q n r s) (N : Int) (h0 : N = 0) : Calls Try.prog 11 #[.pointer (some ⟨g, 0, none⟩), .int .i64 N] w fun e w' => e = .returned (.tuple #[.slice none 0 0, .int .i64 0]) ∧ w = w' := by
  subst h0
  have HM := Lib.hid (made_ok g m _ Q _ _ w h)
  obtain ⟨B, f, hb, hm, hf, hn, hq⟩ := h
  obtain ⟨gr, gn, gc, gf⟩ := hb.all
  have c3 := (gc 513).trans (rg_n ..)
  have c4 := (gc 514).trans (rg_map ..)
  have hl0 := look_held hm false
  have hl1 := look_held hm true
  simp only [Bool.false_eq_true, if_false, if_true] at hl0 hl1
  clear gc gr gn gf hb hm hq
  go_enter Try.func11, Try.ntmps11
  go_wp2_with fail
  refine (HM.out).mono ?_; rintro e w' ⟨rfl, rfl⟩
  go_wp2
  go_ret2
  exact ⟨by simp, rfl⟩
theorem read_end (g m n : Nat) (Q : Nat → Int) (r s : Int) (w : World) (h : PipeAt w g m Q n r s) (N : Int) (h0 : 0 < N) (h1 : n = 0) (h2 : s = 0) : Calls Try.prog 11 #[.pointer (some ⟨g, 0, none⟩), .int .i64 N] w fun e w' => e = .returned (.tuple #[.slice none 0 0, .int .i64 0]) ∧ w = w' := by
  subst h1
  subst h2
  have ne : (N == 0) = false := beq_eq_false_iff_ne.2 (by omega)
  have HM := Lib.hid (made_ok g m _ Q _ _ w h)
  obtain ⟨B, f, hb, hm, hf, hn, hq⟩ := h
  obtain ⟨gr, gn, gc, gf⟩ := hb.all
  have c3 := (gc 513).trans (rg_n ..)
  have c4 := (gc 514).trans (rg_map ..)
  have hl0 := look_held hm false
  have hl1 := look_held hm true
  simp only [Bool.false_eq_true, if_false, if_true] at hl0 hl1
  clear gc gr gn gf hb hm hq
  go_enter Try.func11, Try.ntmps11
  go_wp2_with fail
  refine (HM.out).mono ?_; rintro e w' ⟨rfl, rfl⟩
  go_wp2
  go_ret2
  exact ⟨by simp, rfl⟩
theorem read_wait (g m n : Nat) (Q : Nat → Int) (r s : Int) (w : World) (h : PipeAt w g m Q n r s) (N : Int) (h0 : 0 < N) (h1 : n = 0) (h2 : 0 < s) : Calls Try.prog 11 #[.pointer (some ⟨g, 0, none⟩), .int .i64 N] w fun e w' => e = .returned (.tuple #[.slice none 0 0, .int .i64 211]) ∧ w = w' := by
  subst h1
  have ne : (N == 0) = false := beq_eq_false_iff_ne.2 (by omega)
  have ns : (s == 0) = false := beq_eq_false_iff_ne.2 (by omega)
  have HM := Lib.hid (made_ok g m _ Q _ _ w h)
  obtain ⟨B, f, hb, hm, hf, hn, hq⟩ := h
  obtain ⟨gr, gn, gc, gf⟩ := hb.all
  have c3 := (gc 513).trans (rg_n ..)
  have c4 := (gc 514).trans (rg_map ..)
  have hl0 := look_held hm false
  have hl1 := look_held hm true
  simp only [Bool.false_eq_true, if_false, if_true] at hl0 hl1
  clear gc gr gn gf hb hm hq
  go_enter Try.func11, Try.ntmps11
  go_wp2_with fail
  refine (HM.out).mono ?_; rintro e w' ⟨rfl, rfl⟩
  go_wp2
  go_ret2
  exact ⟨by simp, rfl⟩
theorem Keep.wide {w w1 : World} {g m : Nat} (h : Keep w w1 g g) : Keep w w1 g m := ⟨h.os, h.tape, h.output, h.size, fun k hk a _ => h.block k hk a a⟩
def cat (Q : Nat → Int) (n : Nat) (Y : Nat → Int) : Nat → Int := fun i => if i < n then Q i else Y (i - n)
def wrote (r : Int) (n len : Nat) : Nat := if r = 0 then 0 else min len (512 - n)
def wroteE (r : Int) (n len : Nat) : Int := if r = 0 then 210 else if len = 0 then 0 else if n = 512 then 211 else 0
def took (n : Nat) (N : Int) : Nat := if N ≤ 0 then 0 else min N.toNat n
def tookE (s : Int) (n : Nat) (N : Int) : Int := if N < 0 then 1 else if N = 0 then 0 else if n = 0 then (if s = 0 then 0 else 211) else 0
/-- Bytes that lie apart from a pipe. -/
def Src (w : World) (g : Nat) (A : Option Addr) (len : Nat) (Y : Nat → Int) : Prop := 0 < len → ∃ ad, A = some ad ∧ ad.block ≠ g ∧ ∀ i, i < len → w.cell? (ad.add i) = some (.int .u8 (Y i))
theorem PipeAt.ext {w : World} {g m n : Nat} {Q Q' : Nat → Int} {r s : Int} (h : PipeAt w g m Q n r s) (e : ∀ i, i < n → Q i = Q' i) : PipeAt w g m Q' n r s := by
  obtain ⟨B, f, hb, hm, hf, hn, hq⟩ := h
  exact ⟨B, f, hb, hm, hf, hn, fun i hi => by rw [← e i hi]; exact hq i hi⟩
theorem cat_zero (w : World) (g m n : Nat) (Q Y : Nat → Int) (r s : Int) (h : PipeAt w g m Q n r s) : PipeAt w g m (cat Q n Y) (n + 0) r s :=
  h.ext fun i hi => by unfold cat; rw [if_pos hi]
theorem ring_over (B Q Y : Nat → Int) (f n C p k : Nat) (hf : f < 512) (hC : n + C ≤ 512) (hp : p = (f + n) % 512) (hk : k = min C (512 - p)) (hq : ∀ i, i < n → Q i = B ((f + i) % 512)) (i : Nat) (hi : i < n + C) :
    cat Q n Y i = over (over B Y p k) (fun i => Y (k + i)) 0 (C - k) ((f + i) % 512) := by
  unfold cat over
  by_cases h : i < n
  · rw [if_pos h, hq i h, if_neg (by omega), if_neg (by omega)]
  · rw [if_neg h]
    by_cases h2 : i - n < k
    · rw [if_neg (by omega), if_pos (by omega)]
      congr 1; omega
    · rw [if_pos (by omega)]
      congr 1; omega
def Wrote (w : World) (g m n len : Nat) (Q Y : Nat → Int) (r s : Int) (e : Ending) (w' : World) : Prop :=
  e = .returned (.tuple #[.int .i64 (wrote r n len : Nat), .int .i64 (wroteE r n len)]) ∧ PipeAt w' g m (cat Q n Y) (n + wrote r n len) r s ∧ Keep w w' g m
theorem write_any (g m n : Nat) (Q : Nat → Int) (r s : Int) (w : World) (h : PipeAt w g m Q n r s) (A : Option Addr) (len cap : Nat) (Y : Nat → Int) (hr : 0 ≤ r) (hlc : len ≤ cap) (hcap : cap ≤ 9223372036854775807) (hs : Src w g A len Y) :
    Calls Try.prog 12 #[.pointer (some ⟨g, 0, none⟩), .slice A len cap] w (Wrote w g m n len Q Y r s) := by
  by_cases h0 : r = 0
  · refine (write_shut g m n Q r s w h A len cap h0).mono ?_
    rintro e w' ⟨rfl, rfl⟩
    have e1 : wrote r n len = 0 := if_pos h0
    have e2 : wroteE r n len = 210 := if_pos h0
    refine ⟨by rw [e1, e2]; rfl, ?_, Keep.refl _ _ _⟩
    rw [e1]; exact cat_zero w g m n Q Y r s h
  · by_cases hl : len = 0
    · subst hl
      refine (write_none g m n Q r s w h A cap (by omega)).mono ?_
      rintro e w' ⟨rfl, rfl⟩
      have e1 : wrote r n 0 = 0 := by unfold wrote; rw [if_neg h0]; omega
      have e2 : wroteE r n 0 = 0 := by unfold wroteE; rw [if_neg h0, if_pos rfl]
      refine ⟨by rw [e1, e2]; rfl, ?_, Keep.refl _ _ _⟩
      rw [e1]; exact cat_zero w g m n Q Y r s h
    · by_cases hn : n = 512
      · refine (write_full g m n Q r s w h A len cap (by omega) (by omega) hn).mono ?_
        rintro e w' ⟨rfl, rfl⟩
        have e1 : wrote r n len = 0 := by unfold wrote; rw [if_neg h0]; omega
        have e2 : wroteE r n len = 211 := by unfold wroteE; rw [if_neg h0, if_neg hl, if_pos hn]
        refine ⟨by rw [e1, e2]; rfl, ?_, Keep.refl _ _ _⟩
        rw [e1]; exact cat_zero w g m n Q Y r s h
      · have h' := h
        obtain ⟨B, f, hb, hm, hf, hn5, hq⟩ := h
        obtain ⟨ad, rfl, had, hy⟩ := hs (by omega)
        have e2 : wroteE r n len = 0 := by unfold wroteE; rw [if_neg h0, if_neg hl, if_neg hn]
        by_cases hle : len ≤ 512 - n
        · have e1 : wrote r n len = len := by unfold wrote; rw [if_neg h0]; omega
          refine (write_b g m n Q r s w ad len cap ((f + n) % 512) (min len (512 - (f + n) % 512)) Y h' (by omega) (by omega) (by omega) hlc hcap had hy hle B f hb hm hf rfl rfl).mono ?_
          rintro e w' ⟨rfl, hb', hk⟩
          refine ⟨by rw [e1, e2], ?_, hk.wide⟩
          rw [e1]
          exact ⟨_, f, hb', (hk.block m (PipeAt.lt h').2 (Ne.symm (PipeAt.ne h')) (Ne.symm (PipeAt.ne h'))).trans hm, hf, by omega, ring_over B Q Y f n len _ _ hf (by omega) rfl rfl hq⟩
        · have e1 : wrote r n len = 512 - n := by unfold wrote; rw [if_neg h0]; omega
          refine (write_a g m n Q r s w ad len cap ((f + n) % 512) (min (512 - n) (512 - (f + n) % 512)) Y h' (by omega) (by omega) (by omega) hlc hcap had hy (512 - n) (by omega) (by omega) B f hb hm hf rfl rfl).mono ?_
          rintro e w' ⟨rfl, hb', hk⟩
          refine ⟨by rw [e1, e2], ?_, hk.wide⟩
          rw [e1]
          exact ⟨_, f, hb', (hk.block m (PipeAt.lt h').2 (Ne.symm (PipeAt.ne h')) (Ne.symm (PipeAt.ne h'))).trans hm, hf, by omega, ring_over B Q Y f n _ _ _ hf (by omega) rfl rfl hq⟩
def Took (w : World) (g m n : Nat) (Q : Nat → Int) (r s N : Int) (e : Ending) (w' : World) : Prop :=
  ∃ A, e = .returned (.tuple #[.slice A (took n N) (took n N), .int .i64 (tookE s n N)]) ∧ (0 < took n N → A = some ⟨w.heap.size, 0, none⟩ ∧ Blk w' w.heap.size (bytes Q (took n N))) ∧ (took n N = 0 → A = none) ∧ PipeAt w' g m (fun i => Q (took n N + i)) (n - took n N) r s ∧ Keep w w' g m
theorem took_none (w : World) (g m n : Nat) (Q : Nat → Int) (r s N : Int) (h : PipeAt w g m Q n r s) (x : Int) (h1 : took n N = 0) (h2 : tookE s n N = x) : Took w g m n Q r s N (.returned (.tuple #[.slice none 0 0, .int .i64 x])) w := by
  refine ⟨none, by rw [h1, h2], fun h => by omega, fun _ => rfl, ?_, Keep.refl _ _ _⟩
  rw [h1]; exact h.ext fun i _ => by rw [Nat.zero_add]
theorem ring_drop (B Q : Nat → Int) (f n C : Nat) (hC : C ≤ n) (hn : n ≤ 512) (hq : ∀ i, i < n → Q i = B ((f + i) % 512)) (i : Nat) (hi : i < n - C) : Q (C + i) = B (((f + C) % 512 + i) % 512) := by
  rw [hq (C + i) (by omega)]
  congr 1; omega
theorem ring_out (B Q : Nat → Int) (f n C k : Nat) (hf : f < 512) (hC : C ≤ n) (hn : n ≤ 512) (hk : k = min C (512 - f)) (hq : ∀ i, i < n → Q i = B ((f + i) % 512)) : bytes (over (over (fun _ => 0) (fun i => B (f + i)) 0 k) B k (C - k)) C = bytes Q C := by
  apply Array.ext_getElem?
  intro i
  by_cases hi : i < C
  · rw [by_get _ _ _ hi, by_get _ _ _ hi, hq i (by omega)]
    congr 2
    unfold over
    by_cases h : i < k
    · rw [if_neg (by omega), if_pos (by omega)]
      exact congrArg B (by omega)
    · rw [if_pos (by omega)]
      exact congrArg B (by omega)
  · rw [by_none _ _ _ (by omega), by_none _ _ _ (by omega)]
theorem read_any (g m n : Nat) (Q : Nat → Int) (r s : Int) (w : World) (h : PipeAt w g m Q n r s) (N : Int) (hs : 0 ≤ s) : Calls Try.prog 11 #[.pointer (some ⟨g, 0, none⟩), .int .i64 N] w (Took w g m n Q r s N) := by
  by_cases h0 : N < 0
  · refine (read_neg g m n Q r s w h N h0).mono ?_
    rintro e w' ⟨rfl, rfl⟩
    exact took_none _ _ _ _ _ _ _ _ h _ (if_pos (by omega)) (if_pos h0)
  · by_cases h1 : N = 0
    · refine (read_zero g m n Q r s w h N h1).mono ?_
      rintro e w' ⟨rfl, rfl⟩
      exact took_none _ _ _ _ _ _ _ _ h _ (if_pos (by omega)) (by unfold tookE; rw [if_neg h0, if_pos h1])
    · by_cases h2 : n = 0
      · by_cases h3 : s = 0
        · refine (read_end g m n Q r s w h N (by omega) h2 h3).mono ?_
          rintro e w' ⟨rfl, rfl⟩
          exact took_none _ _ _ _ _ _ _ _ h _ (by unfold took; rw [if_neg (by omega)]; omega) (by unfold tookE; rw [if_neg h0, if_neg h1, if_pos h2, if_pos h3])
        · refine (read_wait g m n Q r s w h N (by omega) h2 (by omega)).mono ?_
          rintro e w' ⟨rfl, rfl⟩
          exact took_none _ _ _ _ _ _ _ _ h _ (by unfold took; rw [if_neg (by omega)]; omega) (by unfold tookE; rw [if_neg h0, if_neg h1, if_pos h2, if_neg h3])
      · have h' := h
        obtain ⟨B, f, hb, hm, hf, hn5, hq⟩ := h
        have e2 : tookE s n N = 0 := by unfold tookE; rw [if_neg h0, if_neg h1, if_neg h2]
        obtain ⟨K, rfl⟩ : ∃ K : Nat, N = K := ⟨N.toNat, by omega⟩
        have e1 : took n K = min K n := by unfold took; rw [if_neg (by omega), Int.toNat_natCast]
        by_cases hle : K ≤ n
        · have e1 : took n K = K := by omega
          refine (read_a g m n Q r s w K (min K (512 - f)) h' hle (by omega) B f hb hm hf hn5 rfl).mono ?_
          rintro e w' ⟨rfl, hb', hg, hk⟩
          rw [ring_out B Q f n K _ hf hle hn5 rfl hq] at hb'
          unfold Took
          rw [e1, e2]
          exact ⟨_, rfl, fun _ => ⟨rfl, hb'⟩, fun h => by omega, ⟨B, (f + K) % 512, hg, (hk.block m (PipeAt.lt h').2 (Ne.symm (PipeAt.ne h')) (Ne.symm (PipeAt.ne h'))).trans hm, Nat.mod_lt _ (by omega), by omega, ring_drop B Q f n K hle hn5 hq⟩, hk.wide⟩
        · have e1 : took n K = n := by omega
          refine (read_b g m n Q r s w K (min n (512 - f)) h' (by omega) (by omega) B f hb hm hf hn5 rfl).mono ?_
          rintro e w' ⟨rfl, hb', hg, hk⟩
          rw [ring_out B Q f n n _ hf (by omega) hn5 rfl hq] at hb'
          unfold Took
          rw [e1, e2]
          exact ⟨_, rfl, fun _ => ⟨rfl, hb'⟩, fun h => by omega, ⟨B, (f + n) % 512, hg, (hk.block m (PipeAt.lt h').2 (Ne.symm (PipeAt.ne h')) (Ne.symm (PipeAt.ne h'))).trans hm, Nat.mod_lt _ (by omega), by omega, ring_drop B Q f n n (by omega) hn5 hq⟩, hk.wide⟩
end Go.Proofs.Ytmifomppnmhmpaa
