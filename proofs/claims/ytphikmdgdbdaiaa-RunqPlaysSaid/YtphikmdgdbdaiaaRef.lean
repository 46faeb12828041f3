import Derived.Test.YtphikmdgdbdaiaaFinds
import Derived.Test.YtphikmdgdbdaiaaFreeX
/- The reference: where it lies; what looks at it. -/
namespace Go.Proofs.Ytphikmdgdbdaiaa
open Go.RowKit Go.BigFrame
set_option linter.unusedVariables false
set_option linter.unusedSimpArgs false
attribute [local go_sem] szIs_lit row_at row_past row_alloc nf_alloc row_set nf_set row_cell nf_cell row_drew nf_drew row_drewN nf_drewN cell_setRow frozen_setRow nlt1 nlt2 nlt3 nlt4 nne1 nne2 nne3 nen1 nen2 nen3
/-- Where the reference lies: the struct's block, the block of the harts' row, the queues' rows. -/
structure RA where
  x : Nat
  hb : Nat
  A : Nat → Option Addr
  c : Nat → Nat
def rv (a : RA) (S : QS) : Nat → List Value
  | 0 => []
  | k + 1 => rv a S k ++ [.int .i64 (S.R k), .slice (a.A k) (S.Q k).length (a.c k)]
theorem rv_len (a : RA) (S : QS) : ∀ k, (rv a S k).length = k * 2
  | 0 => rfl
  | k + 1 => by unfold rv; rw [List.length_append, rv_len a S k]; simp; omega
theorem rv_R (a : RA) (S : QS) {h : Nat} : ∀ k, h < k → (rv a S k)[h * 2]? = some (.int .i64 (S.R h))
  | 0, hh => by omega
  | k + 1, hh => by
    unfold rv
    by_cases e : h = k
    · subst e; rw [List.getElem?_append_right (by rw [rv_len]; omega), rv_len]; simp
    · rw [List.getElem?_append_left (by rw [rv_len]; omega)]; exact rv_R a S k (by omega)
theorem rv_Q (a : RA) (S : QS) {h : Nat} : ∀ k, h < k → (rv a S k)[h * 2 + 1]? = some (.slice (a.A h) (S.Q h).length (a.c h))
  | 0, hh => by omega
  | k + 1, hh => by
    unfold rv
    by_cases e : h = k
    · subst e; rw [List.getElem?_append_right (by rw [rv_len]; omega), rv_len]; simp
    · rw [List.getElem?_append_left (by rw [rv_len]; omega)]; exact rv_Q a S k (by omega)
def RA.setA (a : RA) (h : Nat) (A : Option Addr) (c : Nat) : RA := { a with A := fun k => if k = h then A else a.A k, c := fun k => if k = h then c else a.c k }
theorem rv_congr (a a' : RA) (S S' : QS) : ∀ k, (∀ h, h < k → S.R h = S'.R h ∧ S.Q h = S'.Q h ∧ a.A h = a'.A h ∧ a.c h = a'.c h) → rv a S k = rv a' S' k
  | 0, _ => rfl
  | k + 1, q => by
    unfold rv
    obtain ⟨h1, h2, h3, h4⟩ := q k (by omega)
    rw [rv_congr a a' S S' k (fun h hh => q h (by omega)), h1, h2, h3, h4]
theorem rv_setR (a : RA) (S : QS) {h : Nat} (v : Int) : ∀ k, h < k → (rv a S k).set (h * 2) (.int .i64 v) = rv a (S.setR h v) k
  | 0, hh => by omega
  | k + 1, hh => by
    unfold rv
    by_cases e : h = k
    · subst e
      rw [List.set_append_right _ _ (by rw [rv_len]; omega), rv_len, rv_congr a a (S.setR h v) S h (fun j hj => by simp [QS.setR, show ¬ j = h by omega])]
      simp [QS.setR]
    · rw [List.set_append_left _ _ (by rw [rv_len]; omega), rv_setR a S v k (by omega)]
      simp [QS.setR, show ¬ k = h by omega]
theorem rv_setQ (a : RA) (S : QS) {h : Nat} (A : Option Addr) (c : Nat) (l : List Int) : ∀ k, h < k → (rv a S k).set (h * 2 + 1) (.slice A l.length c) = rv (a.setA h A c) (S.setQ h l) k
  | 0, hh => by omega
  | k + 1, hh => by
    unfold rv
    by_cases e : h = k
    · subst e
      rw [List.set_append_right _ _ (by rw [rv_len]; omega), rv_len, rv_congr (a.setA h A c) a (S.setQ h l) S h (fun j hj => by simp [QS.setQ, RA.setA, show ¬ j = h by omega])]
      simp [QS.setQ, RA.setA]
    · rw [List.set_append_left _ _ (by rw [rv_len]; omega), rv_setQ a S A c l k (by omega)]
      simp [QS.setQ, RA.setA, show ¬ k = h by omega]
/-- The reference says S. -/
structure RR (w : World) (a : RA) (S : QS) : Prop where
  n1 : 1 ≤ S.n
  n8 : S.n ≤ 8
  blk : Blk w a.x #[.slice (some ⟨a.hb, 0, none⟩) S.n S.n]
  row : Rw w 64 2 (some ⟨a.hb, 0, none⟩) S.n S.n (rv a S S.n)
  q : ∀ h, h < S.n → Rw w 3 1 (a.A h) (S.Q h).length (a.c h) (iv (S.Q h))
  ne : a.x ≠ a.hb
  qn : ∀ h, h < S.n → blkOf (a.A h) ≠ some a.x ∧ blkOf (a.A h) ≠ some a.hb
def RA.foot (a : RA) (n k : Nat) : Prop := k = a.x ∨ k = a.hb ∨ ∃ h, h < n ∧ blkOf (a.A h) = some k
section
variable {w w' : World} {a : RA} {S : QS}
theorem RR.foot_lt (h : RR w a S) {k : Nat} (hk : a.foot S.n k) : k < w.heap.size := by
  rcases hk with rfl | rfl | ⟨i, hi, hk⟩
  · exact h.blk.lt
  · exact h.row.blt
  · exact (h.q i hi).lt k hk
theorem RR.same (h : RR w a S) (hk : ∀ k, a.foot S.n k → w'.heap[k]? = w.heap[k]?) : RR w' a S :=
  ⟨h.n1, h.n8, h.blk.same (hk _ (.inl rfl)), h.row.heap fun k e => hk k (by injection e with e; exact .inr (.inl e.symm)), fun i hi => (h.q i hi).heap fun k e => hk k (.inr (.inr ⟨i, hi, e⟩)), h.ne, h.qn⟩
theorem RR.below (h : RR w a S) (hb : Below w.heap.size w w') : RR w' a S := h.same fun k hk => hb.block k (h.foot_lt hk)
theorem RR.alloc (h : RR w a S) (o : Obj) : RR (w.alloc o) a S := h.below ((Below.refl _ _).alloc (Nat.le_refl _) _)
theorem RR.drew (h : RR w a S) : RR w.drew a S := h.same fun _ _ => rfl
theorem RR.drewN (h : RR w a S) (k : Nat) : RR (w.drewN k) a S := h.below (below_drewN (Below.refl _ _) _)
theorem RR.ch {F : Nat → Prop} (h : RR w a S) (hc : Ch F w w') (hF : ∀ k, a.foot S.n k → ¬ F k) : RR w' a S := h.same fun k hk => hc.block k (h.foot_lt hk) (hF k hk)
theorem RR.c0 (h : RR w a S) : w.cell? ⟨a.x, 0, none⟩ = some (.slice (some ⟨a.hb, 0, none⟩) S.n S.n) := (h.blk.all.2.2.1 0).trans rfl
theorem RR.cR (h : RR w a S) {i : Nat} (hi : i < S.n) : w.cell? ⟨a.hb, i * 2, none⟩ = some (.int .i64 (S.R i)) := by rw [h.row.cell _ (by omega), rv_R a S _ hi]
theorem RR.cQ (h : RR w a S) {i : Nat} (hi : i < S.n) : w.cell? ⟨a.hb, i * 2 + 1, none⟩ = some (.slice (a.A i) (S.Q i).length (a.c i)) := by rw [h.row.cell _ (by omega), rv_Q a S _ hi]
theorem RR.fro (h : RR w a S) (i : Nat) : w.frozen? ⟨a.hb, i, none⟩ = false := h.row.frozen i
theorem RR.le (h : RR w a S) {i : Nat} (hi : i < S.n) : (S.Q i).length ≤ a.c i ∧ a.c i ≤ maxLen := (h.q i hi).le
theorem hart_yes (H : RR w a S) (h : Nat) (hh : h < S.n) : Calls Try.prog 42 #[.pointer (some ⟨a.x, 0, none⟩), .int .i64 (h : Int)] w fun e w' => e = .returned (.bool true) ∧ w = w' := by
  have c0 := H.c0
  have n8 := H.n8
  clear H
  go_enter Try.func42, Try.ntmps42
  go_wp2_with fail
  go_ret
  exact ⟨by first | rfl | simp, rfl⟩
theorem hart_no (H : RR w a S) (h : Int) (hh : ¬ (0 ≤ h ∧ h < S.n)) : Calls Try.prog 42 #[.pointer (some ⟨a.x, 0, none⟩), .int .i64 h] w fun e w' => e = .returned (.bool false) ∧ w = w' := by
  have c0 := H.c0
  have n8 := H.n8
  clear H
  by_cases h0 : 0 ≤ h
  · have h1 : ¬ h < (S.n : Int) := fun q => hh ⟨h0, q⟩
    clear hh
    go_enter Try.func42, Try.ntmps42
    go_wp2_with fail
    go_ret
    exact ⟨by first | rfl | simp, rfl⟩
  · clear hh
    go_enter Try.func42, Try.ntmps42
    go_wp2_with fail
    go_ret
    exact ⟨by first | rfl | simp, rfl⟩
theorem long_ok (H : RR w a S) (h : Nat) (hh : h < S.n) (hlen : (S.Q h).length ≤ 1000) (hp : 0 ≤ S.R h) : Calls Try.prog 44 #[.pointer (some ⟨a.x, 0, none⟩), .int .i64 (h : Int)] w fun e w' => e = .returned (.int .i64 ((hs S h).length : Int)) ∧ w = w' := by
  have c0 := H.c0
  have c1 := H.cR hh
  have c2 := H.cQ hh
  have n8 := H.n8
  have HL := Lib.hid (show (hs S h).length = (if 0 < S.R h then 1 else 0) + (S.Q h).length by unfold hs; split <;> simp <;> omega)
  clear H
  generalize (hs S h).length = L at *
  generalize (S.Q h).length = q at *
  generalize S.R h = r at *
  by_cases hr : 0 < r
  · have hL : L = q + 1 := by rw [HL.out, if_pos hr]; omega
    subst hL
    go_enter Try.func44, Try.ntmps44
    go_wp2_with fail
    go_ret
    exact ⟨by first | rfl | simp, rfl⟩
  · have hL : L = q := by rw [HL.out, if_neg hr]; omega
    subst hL
    go_enter Try.func44, Try.ntmps44
    go_wp2_with fail
    go_ret
    exact ⟨by first | rfl | simp, rfl⟩
theorem rrun_yes (H : RR w a S) (h : Nat) (hh : h < S.n) : Calls Try.prog 40 #[.pointer (some ⟨a.x, 0, none⟩), .int .i64 (h : Int)] w fun e w' => e = .returned (.int .i64 (S.R h)) ∧ w = w' := by
  have c0 := H.c0
  have c1 := H.cR hh
  have n8 := H.n8
  have HI := Lib.hid (hart_yes H h hh)
  clear H
  go_enter Try.func40, Try.ntmps40
  go_wp2_with fail
  refine HI.out.mono ?_
  rintro e w' ⟨rfl, rfl⟩
  go_wp2_with fail
  go_ret
  exact ⟨by first | rfl | simp, rfl⟩
theorem rrun_no (H : RR w a S) (h : Int) (hh : ¬ (0 ≤ h ∧ h < S.n)) : Calls Try.prog 40 #[.pointer (some ⟨a.x, 0, none⟩), .int .i64 h] w fun e w' => e = .returned (.int .i64 0) ∧ w = w' := by
  have HI := Lib.hid (hart_no H h hh)
  clear H hh
  go_enter Try.func40, Try.ntmps40
  go_wp2_with fail
  refine HI.out.mono ?_
  rintro e w' ⟨rfl, rfl⟩
  go_wp2_with fail
  go_ret
  exact ⟨by first | rfl | simp, rfl⟩
theorem rque_yes (H : RR w a S) (h : Nat) (hh : h < S.n) : Calls Try.prog 39 #[.pointer (some ⟨a.x, 0, none⟩), .int .i64 (h : Int)] w fun e w' => e = .returned (.slice (a.A h) (S.Q h).length (a.c h)) ∧ w = w' := by
  have c0 := H.c0
  have c1 := H.cQ hh
  have n8 := H.n8
  have HI := Lib.hid (hart_yes H h hh)
  clear H
  go_enter Try.func39, Try.ntmps39
  go_wp2_with fail
  refine HI.out.mono ?_
  rintro e w' ⟨rfl, rfl⟩
  go_wp2_with fail
  go_ret
  exact ⟨by first | rfl | simp, rfl⟩
theorem rque_no (H : RR w a S) (h : Int) (hh : ¬ (0 ≤ h ∧ h < S.n)) : Calls Try.prog 39 #[.pointer (some ⟨a.x, 0, none⟩), .int .i64 h] w fun e w' => e = .returned (.slice none 0 0) ∧ w = w' := by
  have HI := Lib.hid (hart_no H h hh)
  clear H hh
  go_enter Try.func39, Try.ntmps39
  go_wp2_with fail
  refine HI.out.mono ?_
  rintro e w' ⟨rfl, rfl⟩
  go_wp2_with fail
  go_ret
  exact ⟨by first | rfl | simp, rfl⟩
theorem hs_le {S : QS} (W : QW S) (h : Nat) : (S.Q h).length ≤ 64 := by
  rcases Nat.lt_or_ge h S.n with hh | hh
  · have h1 := sumTo_le (fun h => (S.Q h).length) S.n hh
    have h3 : (S.Q h).length ≤ wts S S.n := h1
    have := wts_le W; omega
  · rw [(W.out h hh).2]; simp
theorem sum_mono (f : Nat → Nat) (k : Nat) : ∀ m, sumTo f k ≤ sumTo f (k + m)
  | 0 => Nat.le_refl _
  | m + 1 => Nat.le_trans (sum_mono f k m) (Nat.le_add_right _ _)
theorem tot_le {S : QS} (W : QW S) {k : Nat} (hk : k ≤ S.n) : sumTo (fun h => (hs S h).length) k ≤ 64 := by
  have h1 := W.len
  have h2 := W.cap
  have := sum_mono (fun h => (hs S h).length) k (S.n - k)
  rw [show k + (S.n - k) = S.n by omega] at this
  unfold tot at h1; omega
set_option maxHeartbeats 1000000 in
theorem all_len (H : RR w a S) (W : QW S) : Calls Try.prog 43 #[.pointer (some ⟨a.x, 0, none⟩)] w fun e w' => e = .returned (.int .i64 (S.M.length : Int)) ∧ w = w' := by
  have HR := Lib.hid H
  have HW := Lib.hid W
  have HM := Lib.hid W.len
  have c0 := H.c0
  have n8 := H.n8
  clear H W
  generalize hn : S.n = n at *
  have HN := Lib.hid hn
  clear hn
  go_enter Try.func43, Try.ntmps43
  go_wp2_with fail
  go_loopg [3, 4] (n + 1) (fun gk s_ h_ wr => ∃ h : Nat, s_ = .int .i64 (sumTo (fun h => (hs S h).length) h : Int) ∧ h_ = .int .i64 (h : Int) ∧ gk = n + 1 - h ∧ h ≤ n ∧ w = wr)
  case atStart => exact ⟨0, rfl, rfl, rfl, by omega, rfl⟩
  case round =>
    obtain ⟨h, rfl, rfl, hgk, hh, rfl⟩ := hrel
    have HK := Lib.hid hgk
    clear hgk
    by_cases hlt : h < n
    · have HL := Lib.hid (long_ok HR.out h (by rw [HN.out]; exact hlt) (by have := hs_le HW.out h; omega) (HW.out.r0 h))
      have hs1 := tot_le HW.out (k := h + 1) (by rw [HN.out]; omega)
      have HS := Lib.hid (show sumTo (fun h => (hs S h).length) (h + 1) = sumTo (fun h => (hs S h).length) h + (hs S h).length from rfl)
      rw [HS.out] at hs1
      generalize hs0 : sumTo (fun h => (hs S h).length) h = s0 at *
      generalize hl0 : (hs S h).length = l0 at *
      have HX := Lib.hid (And.intro hs0 hl0)
      clear hs0 hl0
      go_wp2_with fail
      refine HL.out.mono ?_
      rintro e w' ⟨rfl, rfl⟩
      go_wp2_with fail
      go_roundg (n + 1 - (h + 1))
      case measure => have := HK.out; omega
      case rel => exact ⟨h + 1, by rw [HS.out]; go_num, by go_num, rfl, by omega, rfl⟩
    · obtain rfl : h = n := by omega
      have HT := Lib.hid (show sumTo (fun h => (hs S h).length) h = S.M.length by rw [HM.out]; unfold tot; rw [HN.out])
      go_wp2_with fail
      go_ret
      exact ⟨by first | (simp [HT.out]; done) | rfl | simp, rfl⟩
theorem ridle_ok (H : RR w a S) (W : QW S) : Calls Try.prog 38 #[.pointer (some ⟨a.x, 0, none⟩)] w fun e w' => e = .returned (.bool (decide (S.M.length = 0))) ∧ w = w' := by
  have HA := Lib.hid (all_len H W)
  clear H W
  generalize S.M.length = m at *
  by_cases hm : m = 0
  · subst hm
    go_enter Try.func38, Try.ntmps38
    go_wp2_with fail
    refine HA.out.mono ?_
    rintro e w' ⟨rfl, rfl⟩
    go_wp2_with fail
    go_ret
    exact ⟨by first | rfl | simp, rfl⟩
  · have k0 : (((m : Nat) : Int) == 0) = false := by simpa using hm
    have HD := Lib.hid (decide_eq_false hm)
    go_enter Try.func38, Try.ntmps38
    go_wp2_with fail
    refine HA.out.mono ?_
    rintro e w' ⟨rfl, rfl⟩
    go_wp2_with fail
    go_ret
    exact ⟨by first | (simp [HD.out]; done) | rfl | simp, rfl⟩
end
end Go.Proofs.Ytphikmdgdbdaiaa
