import Derived.Test.YtphikmdgdbdaiaaRefSteal
/- The reference: Put, Next, Tick, Sleep, of any arguments; Wake. -/
namespace Go.Proofs.Ytphikmdgdbdaiaa
open Go.RowKit Go.BigFrame
set_option linter.unusedVariables false
set_option linter.unusedSimpArgs false
attribute [local go_sem] szIs_lit row_at row_past row_alloc nf_alloc row_set nf_set row_cell nf_cell row_drew nf_drew row_drewN nf_drewN cell_setRow frozen_setRow nlt1 nlt2 nlt3 nlt4 nne1 nne2 nne3 nen1 nen2 nen3
section
variable {w w4 : World} {a : RA} {S : QS}
/-! Put, Next, Tick, Sleep: any -/
theorem whereF_snd (S : QS) (W : QW S) (t : Int) : (whereF S t).2 = (S.M.get t).isSome := by
  unfold whereF
  cases hg : S.M.get t with
  | none => rfl
  | some v => obtain ⟨k, h1, rfl, h3⟩ := (W.key t v).1 hg; rfl
theorem rput_ok (H : RR w a S) (W : QW S) (i t : Int) : Calls Try.prog 31 #[.pointer (some ⟨a.x, 0, none⟩), .int .i64 i, .int .i64 t] w fun e w' => ∃ a', e = .returned (.int .i64 (putF S i t).1) ∧ RR w' a' (putF S i t).2 ∧ Mr S.n w a w' a' := by
  have hs := whereF_snd S W t
  by_cases h1 : ¬ inH S i ∨ t < 1
  · rw [show putF S i t = (1, S) by unfold putF; rw [if_pos h1]]
    exact (rput_arg H i t h1).mono fun e w' q => ⟨a, q.1, q.2 ▸ H, q.2 ▸ Mr.refl _ _ _⟩
  · have h1' := h1
    simp only [not_or, Classical.not_not] at h1'
    obtain ⟨k, rfl, hk⟩ := inH_nat h1'.1
    cases hv : (S.M.get t).isSome with
    | true =>
      rw [show putF S k t = (5, S) by unfold putF; rw [if_neg h1, if_pos hv]]
      exact (rput_busy H W k hk t h1'.2 (by rw [hs, hv])).mono fun e w' q => ⟨a, q.1, q.2 ▸ H, q.2 ▸ Mr.refl _ _ _⟩
    | false =>
      by_cases hf : 64 ≤ S.M.length
      · rw [show putF S k t = (2, S) by unfold putF; rw [if_neg h1, if_neg (by rw [hv]; decide), if_pos hf]]
        exact (rput_full H W k hk t h1'.2 (by rw [hs, hv]) hf).mono fun e w' q => ⟨a, q.1, q.2 ▸ H, q.2 ▸ Mr.refl _ _ _⟩
      · rw [show putF S k t = (0, putS S k t) by unfold putF; rw [if_neg h1, if_neg (by rw [hv]; decide), if_neg hf]; simp]
        exact (rput_in H W k hk t h1'.2 (by rw [hs, hv]) (by omega)).mono fun e w' ⟨a', q1, q2, q3⟩ => ⟨a', q1, q2.setM _, q3⟩
theorem rnext_ok (H : RR w a S) (W : QW S) (i : Int) : Calls Try.prog 33 #[.pointer (some ⟨a.x, 0, none⟩), .int .i64 i] w fun e w' => ∃ a', e = .returned (.tuple #[.int .i64 (nextF S i).1.1, .bool (nextF S i).1.2]) ∧ RR w' a' (nextF S i).2 ∧ Mr S.n w a w' a' := by
  by_cases hi : inH S i
  · obtain ⟨h, rfl, hk⟩ := inH_nat hi
    have hkt : ((h : Int)).toNat = h := by omega
    by_cases hr : 0 < S.R h
    · rw [show nextF S h = ((0, false), S) by unfold nextF; rw [hkt, if_pos (.inr hr)]]
      exact (rnext_busy H h hk hr).mono fun e w' q => ⟨a, q.1, q.2 ▸ H, q.2 ▸ Mr.refl _ _ _⟩
    · have h0 : S.R h = 0 := by have := W.r0 h; omega
      have hn : ¬ (¬ inH S h ∨ 0 < S.R h) := by simp [hi, h0]
      cases hq : S.Q h with
      | cons x r =>
        rw [show nextF S h = ((x, true), takeS S h x r) by unfold nextF; rw [hkt, if_neg hn, hq]]
        have hl := hs_le W h
        rw [hq] at hl
        simp only [List.length_cons] at hl
        exact (rnext_take H h hk h0 x r hq (by omega)).mono fun e w' ⟨a', q1, q2, q3⟩ => ⟨a', q1, q2.setM _, q3⟩
      | nil =>
        rcases List.eq_nil_or_concat (S.Q (lng S S.n)) with hb | ⟨l, t, hb⟩
        · rw [show nextF S h = ((0, false), S) by unfold nextF; rw [hkt, if_neg hn, hq, hb]; rfl]
          exact (rnext_none H h hk h0 hq hb).mono fun e w' ⟨q1, q2, q3⟩ => ⟨a, q1, q2, ⟨Ch.of_below q3, rfl, rfl, fun _ q => .inl q⟩⟩
        · rw [List.concat_eq_append] at hb
          rw [show nextF S h = ((t, true), stealS S h t l) by unfold nextF; rw [hkt, if_neg hn, hq, hb]; simp]
          have hl := hs_le W (lng S S.n)
          rw [hb] at hl
          simp at hl
          exact (rnext_steal H h hk h0 hq l t hb (by omega)).mono fun e w' ⟨a', q1, q2, q3⟩ => ⟨a', q1, q2.setM _, q3⟩
  · rw [show nextF S i = ((0, false), S) by unfold nextF; rw [if_pos (.inl hi)]]
    exact (rnext_out H i hi).mono fun e w' q => ⟨a, q.1, q.2 ▸ H, q.2 ▸ Mr.refl _ _ _⟩
theorem rtick_ok (H : RR w a S) (W : QW S) (i : Int) : Calls Try.prog 34 #[.pointer (some ⟨a.x, 0, none⟩), .int .i64 i] w fun e w' => ∃ a', e = .returned (.bool (tickF S i).1) ∧ RR w' a' (tickF S i).2 ∧ Mr S.n w a w' a' := by
  by_cases hi : inH S i
  · obtain ⟨h, rfl, hk⟩ := inH_nat hi
    have hkt : ((h : Int)).toNat = h := by omega
    by_cases h0 : S.R h = 0
    · rw [show tickF S h = (false, S) by unfold tickF; rw [hkt, if_pos (.inr (.inl h0))]]
      exact (rtick_idle H h hk h0).mono fun e w' q => ⟨a, q.1, q.2 ▸ H, q.2 ▸ Mr.refl _ _ _⟩
    · by_cases hq : S.Q h = []
      · rw [show tickF S h = (false, S) by unfold tickF; rw [hkt, if_pos (.inr (.inr hq))]]
        exact (rtick_alone H h hk h0 hq).mono fun e w' q => ⟨a, q.1, q.2 ▸ H, q.2 ▸ Mr.refl _ _ _⟩
      · rw [show tickF S h = (true, (S.setQ h (S.Q h ++ [S.R h])).setR h 0) by unfold tickF; rw [hkt, if_neg (by simp [hi, h0, hq])]]
        have hl := hs_le W h
        exact rtick_in H h hk h0 (List.length_pos_iff.2 hq) (by omega)
  · rw [show tickF S i = (false, S) by unfold tickF; rw [if_pos (.inl hi)]]
    exact (rtick_out H i hi).mono fun e w' q => ⟨a, q.1, q.2 ▸ H, q.2 ▸ Mr.refl _ _ _⟩
theorem rsleep_ok (H : RR w a S) (i : Int) : Calls Try.prog 35 #[.pointer (some ⟨a.x, 0, none⟩), .int .i64 i] w fun e w' => ∃ a', e = .returned (.tuple #[.int .i64 (sleepF S i).1.1, .int .i64 (sleepF S i).1.2]) ∧ RR w' a' (sleepF S i).2 ∧ Mr S.n w a w' a' := by
  by_cases hi : inH S i
  · obtain ⟨h, rfl, hk⟩ := inH_nat hi
    have hkt : ((h : Int)).toNat = h := by omega
    by_cases h0 : S.R h = 0
    · rw [show sleepF S h = ((0, 4), S) by unfold sleepF; rw [hkt, if_pos (.inr h0)]]
      exact (rsleep_idle H h hk h0).mono fun e w' q => ⟨a, q.1, q.2 ▸ H, q.2 ▸ Mr.refl _ _ _⟩
    · rw [show sleepF S h = ((S.R h, 0), (S.setR h 0).setM (S.M.del (S.R h))) by unfold sleepF; rw [hkt, if_neg (by simp [hi, h0])]]
      exact (rsleep_in H h hk h0).mono fun e w' ⟨q1, q2, q3⟩ => ⟨a, q1, q2.setM _, q3⟩
  · rw [show sleepF S i = ((0, 4), S) by unfold sleepF; rw [if_pos (.inl hi)]]
    exact (rsleep_out H i hi).mono fun e w' q => ⟨a, q.1, q.2 ▸ H, q.2 ▸ Mr.refl _ _ _⟩
/-! Wake -/
theorem longS_hs (S : QS) (h : Nat) : longS S h = ((hs S h).length : Int) := by
  unfold longS hs; split <;> simp <;> omega
theorem sht_one (S : QS) : sht S 1 = 0 := by unfold sht sht; split <;> rfl
set_option maxHeartbeats 4000000 in
theorem rwake_ok (H : RR w a S) (W : QW S) (t : Int) : Calls Try.prog 32 #[.pointer (some ⟨a.x, 0, none⟩), .int .i64 t] w fun e w' => ∃ a', e = .returned (.tuple #[.int .i64 (wakeF S t).1.1, .int .i64 (wakeF S t).1.2]) ∧ RR w' a' (wakeF S t).2 ∧ Mr S.n w a w' a' := by
  have HR := Lib.hid H
  have HW := Lib.hid W
  have c0 := H.c0
  have n8 := H.n8
  have n1 := H.n1
  clear H W
  generalize hn : S.n = n at *
  have HN := Lib.hid hn
  have HWF := Lib.hid (show wakeF S t = ((if (putF S (sht S n) t).1 = 0 then (sht S n : Int) else 0, (putF S (sht S n) t).1), (putF S (sht S n) t).2) by rw [← hn]; rfl)
  clear hn
  rw [HWF.out]
  have hbn : sht S n < n := by rcases sht_lt S n with e | e <;> omega
  have hp := rput_ok HR.out HW.out ((sht S n : Nat) : Int) t
  rw [HN.out] at hp
  generalize hbb : sht S n = BB at *
  have HBE := Lib.hid hbb
  generalize putF S ((BB : Nat) : Int) t = F at *
  obtain ⟨c, S2⟩ := F
  simp only at hp ⊢
  have HP := Lib.hid hp
  generalize hv : (if c = 0 then (BB : Int) else 0) = v at *
  have HV := Lib.hid hv
  clear hp hbb hv HWF
  go_enter Try.func32, Try.ntmps32
  go_wp2_with fail
  go_loopg [6, 7] (n + 1) (fun gk b_ k_ wr => ∃ k : Nat, b_ = .int .i64 ((sht S k : Nat) : Int) ∧ k_ = .int .i64 (k : Int) ∧ gk = n + 2 - k ∧ 1 ≤ k ∧ k ≤ n ∧ w = wr)
  case atStart => exact ⟨1, by rw [sht_one]; rfl, rfl, by omega, by omega, by omega, rfl⟩
  case round =>
    obtain ⟨k, rfl, rfl, hgk, hk1, hk, rfl⟩ := hrel
    have HK := Lib.hid hgk
    clear hgk
    have hbl : sht S k < n := by rcases sht_lt S k with e | e <;> omega
    by_cases hlt2 : k < n
    · have l1 := Lib.hid (long_ok HR.out k (by rw [HN.out]; exact hlt2) (by have := hs_le HW.out k; omega) (HW.out.r0 k))
      have l2 := Lib.hid (long_ok HR.out (sht S k) (by rw [HN.out]; exact hbl) (by have := hs_le HW.out (sht S k); omega) (HW.out.r0 _))
      have HLN := Lib.hid (show sht S (k + 1) = if longS S k < longS S (sht S k) then k else sht S k from rfl)
      rw [longS_hs, longS_hs] at HLN
      generalize sht S k = bb at *
      generalize (hs S bb).length = q1 at *
      generalize (hs S k).length = q2 at *
      by_cases hc : q2 < q1
      · have HLN2 := Lib.hid (show sht S (k + 1) = k by rw [HLN.out, if_pos (by omega)])
        go_wp2_with fail
        refine l1.out.mono ?_
        rintro e w' ⟨rfl, rfl⟩
        go_wp2_with fail
        refine l2.out.mono ?_
        rintro e w' ⟨rfl, rfl⟩
        go_wp2_with fail
        go_roundg (n + 2 - (k + 1))
        case measure => have := HK.out; omega
        case rel => exact ⟨k + 1, by rw [HLN2.out], by go_num, rfl, by omega, by omega, rfl⟩
      · have HLN2 := Lib.hid (show sht S (k + 1) = bb by rw [HLN.out, if_neg (by omega)])
        go_wp2_with fail
        refine l1.out.mono ?_
        rintro e w' ⟨rfl, rfl⟩
        go_wp2_with fail
        refine l2.out.mono ?_
        rintro e w' ⟨rfl, rfl⟩
        go_wp2_with fail
        go_roundg (n + 2 - (k + 1))
        case measure => have := HK.out; omega
        case rel => exact ⟨k + 1, by rw [HLN2.out], by go_num, rfl, by omega, by omega, rfl⟩
    · obtain rfl : k = n := by omega
      rw [HBE.out] at hbl ⊢
      by_cases h0 : c = 0
      · subst h0
        have hv2 := HV.out
        rw [if_pos rfl] at hv2
        subst hv2
        go_wp2_with fail
        refine HP.out.mono ?_
        rintro e w' ⟨a', rfl, hR, hM⟩
        have HF := Lib.hid (And.intro hR hM)
        clear hR hM
        go_wp2_with fail
        go_ret2
        first | exact ⟨a', by first | rfl | simp, HF.out.1, HF.out.2⟩ | exact ⟨by first | rfl | simp, a', HF.out.1, HF.out.2⟩
      · have k0 : (c == 0) = false := by simpa using h0
        have hv2 := HV.out
        rw [if_neg h0] at hv2
        subst hv2
        clear h0
        go_wp2_with fail
        refine HP.out.mono ?_
        rintro e w' ⟨a', rfl, hR, hM⟩
        have HF := Lib.hid (And.intro hR hM)
        clear hR hM
        go_wp2_with fail
        go_ret2
        first | exact ⟨a', by first | rfl | simp, HF.out.1, HF.out.2⟩ | exact ⟨by first | rfl | simp, a', HF.out.1, HF.out.2⟩
end
end Go.Proofs.Ytphikmdgdbdaiaa
