import Derived.Test.YtmifomppnmhmpaaSpoil
/- The calls of a pipe and of the reference's pipe, one contract each for every case. -/
namespace Go.Proofs.Ytmifomppnmhmpaa
open Go.RowKit
set_option linter.unusedVariables false
set_option linter.unusedSimpArgs false
structure RefA (w : World) (base x g m : Nat) (A : Option Addr) (n c : Nat) (Q : Nat → Int) (r s : Int) : Prop where
  blk : Blk w x (rp A n c r s)
  own : Own w base 5 A n c (fun i => .int .u8 (Q i))
  base : base ≤ x
  xg : x ≠ g
  xm : x ≠ m
  apart : ∀ k, inB A = some k → k ≠ x ∧ k ≠ g ∧ k ≠ m
theorem RefA.kept {w w' : World} {base x g m n c : Nat} {A : Option Addr} {Q : Nat → Int} {r s : Int} (h : RefA w base x g m A n c Q r s) (hx : w'.heap[x]? = w.heap[x]?) (hA : ∀ k, inB A = some k → w'.heap[k]? = w.heap[k]?) : RefA w' base x g m A n c Q r s :=
  ⟨⟨(row_heap hx).trans h.blk.1, (nf_heap hx).trans h.blk.2⟩, h.own.heap hA, h.base, h.xg, h.xm, h.apart⟩
theorem RefA.keep {w w' : World} {base x g m n c : Nat} {A : Option Addr} {Q : Nat → Int} {r s : Int} (h : RefA w base x g m A n c Q r s) (hk : Keep w w' g m) : RefA w' base x g m A n c Q r s :=
  h.kept (hk.block x h.blk.lt h.xg h.xm) fun k e => hk.block k (h.own.lt k e).2 (h.apart k e).2.1 (h.apart k e).2.2
theorem RefA.below {w w' : World} {base x g m n c : Nat} {A : Option Addr} {Q : Nat → Int} {r s : Int} (h : RefA w base x g m A n c Q r s) (hk : Below w.heap.size w w') : RefA w' base x g m A n c Q r s :=
  h.kept (hk.block x h.blk.lt) fun k e => hk.block k (h.own.lt k e).2
theorem RefA.ext {w : World} {base x g m n c : Nat} {A : Option Addr} {Q Q' : Nat → Int} {r s : Int} (h : RefA w base x g m A n c Q r s) (e : ∀ i, i < n → Q i = Q' i) : RefA w base x g m A n c Q' r s :=
  ⟨h.blk, h.own.ext fun i hi => congrArg _ (e i hi), h.base, h.xg, h.xm, h.apart⟩
/-- What a call of the reference's pipe leaves: only x and its row have changed. -/
structure Fr (w w' : World) (x : Nat) (A : Option Addr) : Prop where
  os : w'.os = w.os
  tape : w'.tape = w.tape
  output : w'.output = w.output
  size : w.heap.size ≤ w'.heap.size
  block : ∀ k, k < w.heap.size → k ≠ x → inB A ≠ some k → w'.heap[k]? = w.heap[k]?
theorem Fr.refl (w : World) (x : Nat) (A : Option Addr) : Fr w w x A := ⟨rfl, rfl, rfl, Nat.le_refl _, fun _ _ _ _ => rfl⟩
theorem Fr.of_only {w w' : World} {x : Nat} (A : Option Addr) (h : w.grownBy w' (some x)) : Fr w w' x A := ⟨h.os, h.tape, h.output, h.size, fun k hk a _ => h.block k hk (fun e => a (by injection e))⟩
theorem Fr.pipe {w w' : World} {base x g m n c n' : Nat} {A : Option Addr} {Q Q' : Nat → Int} {r s r' s' : Int} (hf : Fr w w' x A) (h : RefA w base x g m A n c Q r s) (hp : PipeAt w g m Q' n' r' s') : PipeAt w' g m Q' n' r' s' :=
  hp.heap (hf.block g hp.lt.1 (Ne.symm h.xg) (fun e => (h.apart g e).2.1 rfl)) (hf.block m hp.lt.2 (Ne.symm h.xm) (fun e => (h.apart m e).2.2 rfl))
theorem Fr.below {w w' : World} {base x g m n c : Nat} {A : Option Addr} {Q : Nat → Int} {r s : Int} (hf : Fr w w' x A) (h : RefA w base x g m A n c Q r s) (hb : base ≤ w.heap.size) : Below base w w' :=
  ⟨hf.os, hf.tape, hf.output, hf.size, fun k hk => hf.block k (by omega) (fun e => by have := h.base; omega) (fun e => by have := (h.own.lt k e).1; omega)⟩
def opR (b : Bool) (r : Int) : Int := if b then r else r + 1
def opS (b : Bool) (s : Int) : Int := if b then s + 1 else s
theorem popen_any (g m n : Nat) (Q : Nat → Int) (r s : Int) (w : World) (h : PipeAt w g m Q n r s) (b : Bool) (h1 : 0 ≤ r) (h2 : r < 2147483647) (h3 : 0 ≤ s) (h4 : s < 2147483647) : Calls Try.prog 25 #[.pointer (some ⟨g, 0, none⟩), .bool b] w fun e w' => e = .returned (.int .i64 0) ∧ PipeAt w' g m Q n (opR b r) (opS b s) ∧ Keep w w' g m := by
  cases b
  · exact open_false g m n Q r s w h h1 h2
  · exact open_true g m n Q r s w h h3 h4
theorem ropen_any (base x g m n c : Nat) (A : Option Addr) (Q : Nat → Int) (r s : Int) (w : World) (h : RefA w base x g m A n c Q r s) (b : Bool) (h1 : 0 ≤ r) (h2 : r < 2147483647) (h3 : 0 ≤ s) (h4 : s < 2147483647) : Calls Try.prog 31 #[.pointer (some ⟨x, 0, none⟩), .bool b] w fun e w' => e = .returned (.int .i64 0) ∧ RefA w' base x g m A n c Q (opR b r) (opS b s) ∧ Fr w w' x A := by
  have key : ∀ (w' : World) (r' s' : Int), Blk w' x (rp A n c r' s') → w.grownBy w' (some x) → RefA w' base x g m A n c Q r' s' ∧ Fr w w' x A := fun w' r' s' hb hg =>
    ⟨⟨hb, h.own.heap fun k e => hg.block k (h.own.lt k e).2 (fun e2 => by injection e2 with e2; exact (h.apart k e).1 e2), h.base, h.xg, h.xm, h.apart⟩, Fr.of_only A hg⟩
  cases b
  · exact (ropen_f x n c A r s w h.blk h1 h2).mono fun e w' ⟨a, hb, hg⟩ => ⟨a, key w' _ _ hb hg⟩
  · exact (ropen_t x n c A r s w h.blk h3 h4).mono fun e w' ⟨a, hb, hg⟩ => ⟨a, key w' _ _ hb hg⟩
def clR (b : Bool) (r : Int) : Int := if b then r else if r = 0 then 0 else r - 1
def clS (b : Bool) (s : Int) : Int := if b then (if s = 0 then 0 else s - 1) else s
def clV (b : Bool) (r s : Int) : Bool := if (if b then s else r) = 0 then false else (clR b r == 0 && clS b s == 0)
def clE (b : Bool) (r s : Int) : Int := if (if b then s else r) = 0 then 4 else 0
theorem pclose_any (g m n : Nat) (Q : Nat → Int) (r s : Int) (w : World) (h : PipeAt w g m Q n r s) (b : Bool) (h1 : 0 ≤ r) (h2 : r < 2147483647) (h3 : 0 ≤ s) (h4 : s < 2147483647) : Calls Try.prog 15 #[.pointer (some ⟨g, 0, none⟩), .bool b] w fun e w' => e = .returned (.tuple #[.bool (clV b r s), .int .i64 (clE b r s)]) ∧ PipeAt w' g m Q n (clR b r) (clS b s) ∧ Keep w w' g m := by
  cases b
  · by_cases h0 : r = 0
    · refine (close_none_false g m n Q r s w h h0).mono ?_
      rintro e w' ⟨rfl, rfl⟩
      subst h0
      exact ⟨by simp [clV, clE], by simpa [clR, clS] using h, Keep.refl _ _ _⟩
    · refine (close_false g m n Q r s w h (by omega) (by omega)).mono ?_
      rintro e w' ⟨rfl, hp, hk⟩
      exact ⟨by simp [clV, clE, h0, clR, clS], by simpa [clR, clS, h0] using hp, hk⟩
  · by_cases h0 : s = 0
    · refine (close_none_true g m n Q r s w h h0).mono ?_
      rintro e w' ⟨rfl, rfl⟩
      subst h0
      exact ⟨by simp [clV, clE], by simpa [clR, clS] using h, Keep.refl _ _ _⟩
    · refine (close_true g m n Q r s w h (by omega) (by omega)).mono ?_
      rintro e w' ⟨rfl, hp, hk⟩
      exact ⟨by simp [clV, clE, h0, clR, clS], by simpa [clR, clS, h0] using hp, hk⟩
theorem rclose_any (base x g m n c : Nat) (A : Option Addr) (Q : Nat → Int) (r s : Int) (w : World) (h : RefA w base x g m A n c Q r s) (b : Bool) (h1 : 0 ≤ r) (h2 : r < 2147483647) (h3 : 0 ≤ s) (h4 : s < 2147483647) : Calls Try.prog 32 #[.pointer (some ⟨x, 0, none⟩), .bool b] w fun e w' => e = .returned (.tuple #[.bool (clV b r s), .int .i64 (clE b r s)]) ∧ RefA w' base x g m A n c Q (clR b r) (clS b s) ∧ Fr w w' x A := by
  have key : ∀ (w' : World) (r' s' : Int), Blk w' x (rp A n c r' s') → w.grownBy w' (some x) → RefA w' base x g m A n c Q r' s' ∧ Fr w w' x A := fun w' r' s' hb hg =>
    ⟨⟨hb, h.own.heap fun k e => hg.block k (h.own.lt k e).2 (fun e2 => by injection e2 with e2; exact (h.apart k e).1 e2), h.base, h.xg, h.xm, h.apart⟩, Fr.of_only A hg⟩
  cases b
  · by_cases h0 : r = 0
    · refine (rclose_f_none x n c A r s w h.blk h0).mono ?_
      rintro e w' ⟨rfl, rfl⟩
      subst h0
      exact ⟨by simp [clV, clE], by simpa [clR, clS] using h, Fr.refl _ _ _⟩
    · by_cases h5 : r = 1
      · subst h5
        refine (rclose_f_z x n c A s w h.blk).mono ?_
        rintro e w' ⟨rfl, hb, hg⟩
        exact ⟨by simp [clV, clE, clR, clS], by simpa [clR, clS] using key w' 0 s hb hg⟩
      · refine (rclose_f_p x n c A r s w h.blk (by omega) (by omega)).mono ?_
        rintro e w' ⟨rfl, hb, hg⟩
        have n1 : ¬ (r - 1 = 0) := by omega
        exact ⟨by simp [clV, clE, h0, clR, clS, n1], by simpa [clR, clS, h0] using key w' _ s hb hg⟩
  · by_cases h0 : s = 0
    · refine (rclose_t_none x n c A r s w h.blk h0).mono ?_
      rintro e w' ⟨rfl, rfl⟩
      subst h0
      exact ⟨by simp [clV, clE], by simpa [clR, clS] using h, Fr.refl _ _ _⟩
    · by_cases h5 : r = 0
      · refine (rclose_t_z x n c A r s w h.blk (by omega) (by omega) h5).mono ?_
        rintro e w' ⟨rfl, hb, hg⟩
        exact ⟨by simp [clV, clE, h0, clR, clS, h5], by simpa [clR, clS, h0] using key w' _ _ hb hg⟩
      · refine (rclose_t_p x n c A r s w h.blk (by omega) (by omega) (by omega)).mono ?_
        rintro e w' ⟨rfl, hb, hg⟩
        exact ⟨by simp [clV, clE, h0, clR, clS, h5], by simpa [clR, clS, h0] using key w' _ _ hb hg⟩
def rdy (b : Bool) (n : Nat) (r s : Int) : Bool := if b then (decide (r = 0) || decide (n < 512)) else (decide (s = 0) || decide (0 < n))
theorem pready_any (g m n : Nat) (Q : Nat → Int) (r s : Int) (w : World) (h : PipeAt w g m Q n r s) (b : Bool) (h1 : 0 ≤ r) (h3 : 0 ≤ s) : Calls Try.prog 16 #[.pointer (some ⟨g, 0, none⟩), .bool b] w fun e w' => e = .returned (.bool (rdy b n r s)) ∧ w = w' := by
  have h5 := h.le5
  cases b
  · by_cases h0 : s = 0
    · exact (ready_rd0 g m n Q r s w h h0).mono fun e w' ⟨a, b⟩ => ⟨by rw [a]; simp [rdy, h0], b⟩
    · by_cases hn : n = 0
      · exact (ready_rd2 g m n Q r s w h (by omega) hn).mono fun e w' ⟨a, b⟩ => ⟨by rw [a]; simp [rdy, h0, hn], b⟩
      · exact (ready_rd1 g m n Q r s w h (by omega) (by omega)).mono fun e w' ⟨a, b⟩ => ⟨by rw [a]; simp [rdy, h0]; omega, b⟩
  · by_cases h0 : r = 0
    · exact (ready_wr0 g m n Q r s w h h0).mono fun e w' ⟨a, b⟩ => ⟨by rw [a]; simp [rdy, h0], b⟩
    · by_cases hn : n = 512
      · exact (ready_wr2 g m n Q r s w h (by omega) hn).mono fun e w' ⟨a, b⟩ => ⟨by rw [a]; simp [rdy, h0, hn], b⟩
      · exact (ready_wr1 g m n Q r s w h (by omega) (by omega)).mono fun e w' ⟨a, b⟩ => ⟨by rw [a]; simp [rdy, h0]; omega, b⟩
theorem rready_any (base x g m n c : Nat) (A : Option Addr) (Q : Nat → Int) (r s : Int) (w : World) (h : RefA w base x g m A n c Q r s) (b : Bool) (h1 : 0 ≤ r) (h3 : 0 ≤ s) (h5 : n ≤ 512) : Calls Try.prog 36 #[.pointer (some ⟨x, 0, none⟩), .bool b] w fun e w' => e = .returned (.bool (rdy b n r s)) ∧ w = w' := by
  cases b
  · by_cases h0 : s = 0
    · exact (rready_r0 x n c A r s w h.blk h0).mono fun e w' ⟨a, b⟩ => ⟨by rw [a]; simp [rdy, h0], b⟩
    · by_cases hn : n = 0
      · exact (rready_r2 x n c A r s w h.blk (by omega) hn).mono fun e w' ⟨a, b⟩ => ⟨by rw [a]; simp [rdy, h0, hn], b⟩
      · exact (rready_r1 x n c A r s w h.blk (by omega) (by omega)).mono fun e w' ⟨a, b⟩ => ⟨by rw [a]; simp [rdy, h0]; omega, b⟩
  · by_cases h0 : r = 0
    · exact (rready_w0 x n c A r s w h.blk h0).mono fun e w' ⟨a, b⟩ => ⟨by rw [a]; simp [rdy, h0], b⟩
    · by_cases hn : n = 512
      · exact (rready_w2 x n c A r s w h.blk (by omega) hn).mono fun e w' ⟨a, b⟩ => ⟨by rw [a]; simp [rdy, h0, hn], b⟩
      · exact (rready_w1 x n c A r s w h.blk (by omega) (by omega)).mono fun e w' ⟨a, b⟩ => ⟨by rw [a]; simp [rdy, h0]; omega, b⟩
def RWrote (w : World) (base x g m n l : Nat) (A : Option Addr) (Q Y : Nat → Int) (r s : Int) (e : Ending) (w' : World) : Prop :=
  e = .returned (.tuple #[.int .i64 (wrote r n l : Nat), .int .i64 (wroteE r n l)]) ∧ (∃ A' c', RefA w' base x g m A' (n + wrote r n l) c' (cat Q n Y) r s ∧ ∀ k, inB A' = some k → inB A = some k ∨ w.heap.size ≤ k) ∧ Fr w w' x A
theorem rwrite_any (base x g m n c : Nat) (A : Option Addr) (Q : Nat → Int) (r s : Int) (w : World) (h : RefA w base x g m A n c Q r s) (A2 : Option Addr) (l c2 : Nat) (Y : Nat → Int) (hr : 0 ≤ r) (hlc : l ≤ c2) (hcap : c2 ≤ 9223372036854775807) (hY : Rd w A2 l Y) (h5 : n ≤ 512) (hb : base ≤ w.heap.size) (hg : g < w.heap.size) (hm : m < w.heap.size) :
    Calls Try.prog 35 #[.pointer (some ⟨x, 0, none⟩), .slice A2 l c2] w (RWrote w base x g m n l A Q Y r s) := by
  have same : RefA w base x g m A (n + 0) c (cat Q n Y) r s := h.ext fun i hi => by unfold cat; rw [if_pos hi]
  by_cases h0 : r = 0
  · refine (rwrite_shut x n c A r s w h.blk A2 l c2 h0).mono ?_
    rintro e w' ⟨rfl, rfl⟩
    have e1 : wrote r n l = 0 := if_pos h0
    have e2 : wroteE r n l = 210 := if_pos h0
    exact ⟨by rw [e1, e2]; rfl, by rw [e1]; exact ⟨A, c, same, fun k e => .inl e⟩, Fr.refl _ _ _⟩
  · by_cases hl : l = 0
    · refine (rwrite_none x n c A r s w h.blk A2 l c2 (by omega) hl).mono ?_
      rintro e w' ⟨rfl, rfl⟩
      have e1 : wrote r n l = 0 := by unfold wrote; rw [if_neg h0]; omega
      have e2 : wroteE r n l = 0 := by unfold wroteE; rw [if_neg h0, if_pos hl]
      exact ⟨by rw [e1, e2]; rfl, by rw [e1]; exact ⟨A, c, same, fun k e => .inl e⟩, Fr.refl _ _ _⟩
    · by_cases hn : n = 512
      · refine (rwrite_full x n c A r s w h.blk A2 l c2 (by omega) (by omega) hn).mono ?_
        rintro e w' ⟨rfl, rfl⟩
        have e1 : wrote r n l = 0 := by unfold wrote; rw [if_neg h0]; omega
        have e2 : wroteE r n l = 211 := by unfold wroteE; rw [if_neg h0, if_neg hl, if_pos hn]
        exact ⟨by rw [e1, e2]; rfl, by rw [e1]; exact ⟨A, c, same, fun k e => .inl e⟩, Fr.refl _ _ _⟩
      · have e2 : wroteE r n l = 0 := by unfold wroteE; rw [if_neg h0, if_neg hl, if_neg hn]
        have hx : inB A ≠ some x := fun e => (h.apart x e).1 rfl
        have key : ∀ C, wrote r n l = C → ∀ e w', (e = .returned (.tuple #[.int .i64 (C : Nat), .int .i64 0]) ∧ ∃ A' c', Blk w' x (rp A' (n + C) c' r s) ∧ Own w' base 5 A' (n + C) c' (fun i => .int .u8 (cat Q n Y i)) ∧ inB A' ≠ some x ∧ (inB A' = inB A ∨ inB A' = some w.heap.size) ∧ (∀ k, k < w.heap.size → k ≠ x → inB A ≠ some k → w'.heap[k]? = w.heap[k]?) ∧ w.heap.size ≤ w'.heap.size ∧ w'.os = w.os ∧ w'.tape = w.tape ∧ w'.output = w.output) → RWrote w base x g m n l A Q Y r s e w' := by
          rintro C hC e w' ⟨rfl, A', c', h1, h2, h3, h4, h5, h6, h7, h8, h9⟩
          refine ⟨by rw [hC, e2], ⟨A', c', ?_, fun k hk => ?_⟩, ⟨h7, h8, h9, h6, h5⟩⟩
          · rw [hC]
            refine ⟨h1, h2, h.base, h.xg, h.xm, fun k hk => ?_⟩
            rcases h4 with e | e
            · exact h.apart k (e ▸ hk)
            · rw [e] at hk; injection hk with hk; have := h.blk.lt; omega
          · rcases h4 with e | e
            · exact .inl (e ▸ hk)
            · rw [e] at hk; injection hk with hk; exact .inr (by omega)
        by_cases hle : l < 512 - n
        · exact (rwrite_a x n c A r s w h.blk base Q Y h.own hb hx A2 l c2 (by omega) hlc hcap hY (by omega) (by omega) hle).mono (key l (by unfold wrote; rw [if_neg h0]; omega))
        · exact (rwrite_b x n c A r s w h.blk base Q Y h.own hb hx A2 l c2 (by omega) hlc hcap hY (by omega) (by omega) (512 - n) (by omega) (by omega)).mono (key (512 - n) (by unfold wrote; rw [if_neg h0]; omega))
def RTook (w : World) (base x g m n : Nat) (A : Option Addr) (Q : Nat → Int) (r s N : Int) (e : Ending) (w' : World) : Prop :=
  ∃ A1 c1, e = .returned (.tuple #[.slice A1 (took n N) c1, .int .i64 (tookE s n N)]) ∧ Rd w' A1 (took n N) Q ∧ (∃ A' c', RefA w' base x g m A' (n - took n N) c' (fun i => Q (took n N + i)) r s ∧ ∀ k, inB A' = some k → inB A = some k ∨ w.heap.size ≤ k) ∧ Fr w w' x A
theorem rread_any (base x g m n c : Nat) (A : Option Addr) (Q : Nat → Int) (r s : Int) (w : World) (h : RefA w base x g m A n c Q r s) (N : Int) (hs : 0 ≤ s) (h5 : n ≤ 512) (hb : base ≤ w.heap.size) (hg : g < w.heap.size) (hm : m < w.heap.size) : Calls Try.prog 33 #[.pointer (some ⟨x, 0, none⟩), .int .i64 N] w (RTook w base x g m n A Q r s N) := by
  have none_ : ∀ y : Int, took n N = 0 → tookE s n N = y → RTook w base x g m n A Q r s N (.returned (.tuple #[.slice none 0 0, .int .i64 y])) w := fun y h1 h2 =>
    ⟨none, 0, by rw [h1, h2], fun h => by omega, ⟨A, c, by rw [h1]; exact h.ext fun i _ => by rw [Nat.zero_add], fun k e => .inl e⟩, Fr.refl _ _ _⟩
  by_cases h0 : N < 0
  · refine (rread_neg x n c A r s w h.blk N h0).mono ?_
    rintro e w' ⟨rfl, rfl⟩
    exact none_ _ (if_pos (by omega)) (if_pos h0)
  · by_cases h1 : N = 0
    · refine (rread_zero x n c A r s w h.blk N h1).mono ?_
      rintro e w' ⟨rfl, rfl⟩
      exact none_ _ (if_pos (by omega)) (by unfold tookE; rw [if_neg h0, if_pos h1])
    · by_cases h2 : n = 0
      · by_cases h3 : s = 0
        · refine (rread_end x n c A r s w h.blk N (by omega) h2 h3).mono ?_
          rintro e w' ⟨rfl, rfl⟩
          exact none_ _ (by unfold took; rw [if_neg (by omega)]; omega) (by unfold tookE; rw [if_neg h0, if_neg h1, if_pos h2, if_pos h3])
        · refine (rread_wait x n c A r s w h.blk N (by omega) h2 (by omega)).mono ?_
          rintro e w' ⟨rfl, rfl⟩
          exact none_ _ (by unfold took; rw [if_neg (by omega)]; omega) (by unfold tookE; rw [if_neg h0, if_neg h1, if_pos h2, if_neg h3])
      · have e2 : tookE s n N = 0 := by unfold tookE; rw [if_neg h0, if_neg h1, if_neg h2]
        have hxl := h.blk.lt
        have key : ∀ C, took n N = C → ∀ e w', (∃ A1 c1 A2 c2, e = .returned (.tuple #[.slice A1 C c1, .int .i64 0]) ∧ Own w' w.heap.size 5 A1 C c1 (fun i => .int .u8 (Q i)) ∧ Own w' w.heap.size 5 A2 (n - C) c2 (fun i => .int .u8 (Q (C + i))) ∧ Blk w' x (rp A2 (n - C) c2 r s) ∧ w.grownBy w' (some x)) → RTook w base x g m n A Q r s N e w' := by
          rintro C hC e w' ⟨A1, c1, A2, c2, rfl, h1, h2, h3, h4⟩
          unfold RTook
          rw [hC, e2]
          refine ⟨A1, c1, rfl, fun hn => ?_, ⟨A2, c2, ⟨h3, ⟨h2.1, ?_⟩, h.base, h.xg, h.xm, fun k hk => ?_⟩, fun k hk => .inr (h2.lt k hk).1⟩, Fr.of_only A h4⟩
          · obtain ⟨g0, e, hc⟩ := h1.cells hn
            exact ⟨_, e, hc⟩
          · rcases h2.2 with hv | ⟨g0, cap, cur, hv, hb0, rest⟩
            · exact .inl hv
            · exact .inr ⟨g0, cap, cur, hv, by omega, rest⟩
          · have := (h2.lt k hk).1
            exact ⟨by omega, by omega, by omega⟩
        by_cases hle : N ≤ n
        · obtain ⟨K, rfl⟩ : ∃ K : Nat, N = K := ⟨N.toNat, by omega⟩
          exact (rread_a x n c A r s w h.blk Q base h.own (by omega) (by omega) K (by omega) (by omega)).mono (key K (by unfold took; rw [if_neg (by omega)]; omega))
        · exact (rread_b x n c A r s w h.blk Q base h.own (by omega) (by omega) N (by omega)).mono (key n (by unfold took; rw [if_neg (by omega)]; omega))
end Go.Proofs.Ytmifomppnmhmpaa
