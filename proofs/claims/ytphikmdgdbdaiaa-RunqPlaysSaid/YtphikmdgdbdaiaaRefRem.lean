import Derived.Test.YtphikmdgdbdaiaaRefAny
/- The reference: Remove. -/
namespace Go.Proofs.Ytphikmdgdbdaiaa
open Go.RowKit Go.BigFrame
set_option linter.unusedVariables false
set_option linter.unusedSimpArgs false
attribute [local go_sem] szIs_lit row_at row_past row_alloc nf_alloc row_set nf_set row_cell nf_cell row_drew nf_drew row_drewN nf_drewN cell_setRow frozen_setRow nlt1 nlt2 nlt3 nlt4 nne1 nne2 nne3 nen1 nen2 nen3
section
variable {w w4 : World} {a : RA} {S : QS}
theorem fl_take {t x : Int} {l : List Int} {i : Nat} (h : l[i]? = some x) : fl t (l.take (i + 1)) = fl t (l.take i) ++ if x = t then [] else [x] := by
  rw [List.take_add_one, h, fl_app]
  by_cases e : x = t
  · rw [if_pos e]; simp [fl, e]
  · rw [if_neg e]; simp [fl, e]
theorem fl_le (t : Int) (l : List Int) : (fl t l).length ≤ l.length := List.length_filter_le ..
theorem rrem_none (H : RR w a S) (W : QW S) (t : Int) (hw : whereF S t = (0, false)) : Calls Try.prog 36 #[.pointer (some ⟨a.x, 0, none⟩), .int .i64 t] w fun e w' => e = .returned (.bool false) ∧ w = w' := by
  have hwh := rwhere_ok H W t
  rw [hw] at hwh
  have HWH := Lib.hid hwh
  clear H W hwh hw
  go_enter Try.func36, Try.ntmps36
  go_wp2_with fail
  refine HWH.out.mono ?_
  rintro e w' ⟨rfl, rfl⟩
  go_wp2_with fail
  go_ret
  exact ⟨by first | rfl | simp, rfl⟩
theorem rrem_run (H : RR w a S) (W : QW S) (t : Int) (h : Nat) (hlt : h < S.n) (hw : whereF S t = ((h : Int), true)) (hr : S.R h = t) : Calls Try.prog 36 #[.pointer (some ⟨a.x, 0, none⟩), .int .i64 t] w fun e w' => e = .returned (.bool true) ∧ RR w' a (S.setR h 0) ∧ Mr S.n w a w' a := by
  have hwh := rwhere_ok H W t
  rw [hw] at hwh
  have HWH := Lib.hid hwh
  have c0 := H.c0
  have c1 := H.cR hlt
  have z1 := H.fro (h * 2)
  have n8 := H.n8
  have HF := Lib.hid (H.putR hlt 0)
  rw [hr] at c1
  clear H W hwh hw hr
  go_enter Try.func36, Try.ntmps36
  go_wp2_with fail
  refine HWH.out.mono ?_
  rintro e w' ⟨rfl, rfl⟩
  go_wp2_with fail
  go_ret
  exact ⟨by first | rfl | simp, HF.out.1, HF.out.2⟩
set_option maxRecDepth 100000 in
set_option maxHeartbeats 8000000 in
theorem rrem_wait (H : RR w a S) (W : QW S) (t : Int) (h : Nat) (hlt : h < S.n) (hw : whereF S t = ((h : Int), true)) (hr : ¬ S.R h = t) : Calls Try.prog 36 #[.pointer (some ⟨a.x, 0, none⟩), .int .i64 t] w fun e w' => ∃ a', e = .returned (.bool true) ∧ RR w' a' (S.setQ h (fl t (S.Q h))) ∧ Mr S.n w a w' a' := by
  have hwh := rwhere_ok H W t
  rw [hw] at hwh
  have HWH := Lib.hid hwh
  have HR := Lib.hid H
  have c0 := H.c0
  have c1 := H.cR hlt
  have n8 := H.n8
  have hl64 := hs_le W h
  have k0 : (S.R h == t) = false := by simpa using hr
  have hhn := Lib.hid hlt
  have HRR := Lib.hid hr
  clear H W hwh hw hr
  generalize hL : (S.Q h).length = L at *
  have HL := Lib.hid hL
  clear hL
  go_enter Try.func36, Try.ntmps36
  go_wp2_with fail
  refine HWH.out.mono ?_
  rintro e w' ⟨rfl, rfl⟩
  go_wp2_with fail
  go_loopg [7, 8] (L + 1) (fun gk l_ i_ wr => ∃ (i : Nat) (A : Option Addr) (c m : Nat), l_ = .slice A m c ∧ i_ = .int .i64 (i : Int) ∧ gk = L + 1 - i ∧ i ≤ L ∧ m = (fl t ((S.Q h).take i)).length ∧ Rw wr 3 1 A m c (iv (fl t ((S.Q h).take i))) ∧ (∀ k, blkOf A = some k → w.heap.size ≤ k) ∧ Below w.heap.size w wr)
  case atStart => exact ⟨0, none, 0, 0, rfl, rfl, rfl, by omega, rfl, Rw.nil _ _ _, (fun k hk => by cases hk), Below.refl _ _⟩
  case round =>
    obtain ⟨i, A, c, m, rfl, rfl, hgk, hi, hm, hA, hAf, hB⟩ := hrel
    have HK := Lib.hid hgk
    have HA := Lib.hid hA
    have HAF := Lib.hid hAf
    have HB := Lib.hid hB
    have HM := Lib.hid hm
    have hR := HR.out.below hB
    have d0 := hR.c0
    have d1 := hR.cQ hhn.out
    have dz := hR.fro (h * 2 + 1)
    have hrow := hR.q h hhn.out
    have hqc := hR.le hhn.out
    rw [HL.out] at d1 hrow hqc
    have hm64 : m ≤ 64 := by have := fl_le t ((S.Q h).take i); have h2 : ((S.Q h).take i).length ≤ 64 := by rw [List.length_take, HL.out]; omega
                             omega
    have HR2 := Lib.hid hR
    clear hgk hA hAf hB hm hR
    by_cases hlt2 : i < L
    · obtain ⟨b, hbA⟩ := hrow.some_ (by omega)
      obtain ⟨x, hx⟩ : ∃ x, (S.Q h)[i]? = some x := ⟨_, List.getElem?_eq_getElem (by rw [HL.out]; exact hlt2)⟩
      rw [hbA] at hrow d1
      have c3 : wr.cell? ⟨b, i, none⟩ = some (.int .i64 x) := by
        rw [hrow.cell i (by omega)]; simp [iv, hx]
      have HT := Lib.hid (fl_take (t := t) hx)
      clear hrow hbA hx
      by_cases hxt : x = t
      · subst hxt
        go_wp2_with fail
        go_roundg (L + 1 - (i + 1))
        case measure => have := HK.out; omega
        case rel =>
          have e1 := HT.out
          simp only [if_true, List.append_nil] at e1
          exact ⟨i + 1, A, c, m, rfl, by go_num, rfl, by omega, by rw [e1]; exact HM.out, by rw [e1]; exact HA.out, HAF.out, HB.out⟩
      · have k1 : (x == t) = false := by simpa using hxt
        have B1 : Below w.heap.size w (wr.alloc (.cells #[.int .i64 x] 3)) := HB.out.alloc HB.out.size _
        have R1 := HA.out.below ((Below.refl _ wr).alloc (Nat.le_refl _) (.cells #[.int .i64 x] 3))
        have hmm := HM.out
        rw [hmm] at R1
        obtain ⟨A2, c2, w2, p1, p2, p3, p4, p5⟩ := app_run B1 (l := fl t ((S.Q h).take i)) (l' := [x]) (c' := 1) R1 HAF.out ((one_row wr x).rd (iv_cells _)) (fun e => by cases e) (by omega) (by simp)
        rw [← hmm] at p1 p2
        have HE1 := Lib.hid p1
        have HE2 := Lib.hid p2
        have HE3 := Lib.hid p3
        have HE4 := Lib.hid p4
        have HXT := Lib.hid hxt
        clear p1 p2 p3 p4 p5 B1 R1 hmm hxt
        go_wp2_with (at_builtin; (refine wpList_run rfl (s := Builtin.append_ #[31, 31] 31 #[.slice A m c, .slice (some ⟨wr.heap.size, 0, none⟩) 1 1]) (by kernel_rfl) HE1.out ?_))
        go_roundg (L + 1 - (i + 1))
        case measure => have := HK.out; omega
        case rel =>
          have e1 := HT.out
          rw [if_neg HXT.out] at e1
          exact ⟨i + 1, A2, c2, m + 1, rfl, by go_num, rfl, by omega, by rw [e1, HM.out]; simp, by rw [e1]; exact HE2.out, HE4.out, HE3.out⟩
    · obtain rfl : i = L := by omega
      have e1 : (S.Q h).take i = S.Q h := List.take_of_length_le (by rw [HL.out]; exact Nat.le_refl _)
      have hA2 := HA.out
      have hm2 := HM.out
      rw [e1] at hA2 hm2
      rw [hm2] at hA2
      have HF := Lib.hid (HR.out.putQ hhn.out HB.out hA2 HAF.out)
      have hm3 := Lib.hid hm2
      clear hA2 hm2 hrow e1
      rw [← hm3.out] at HF
      go_wp2_with fail
      go_ret
      first | exact ⟨_, by first | rfl | simp, HF.out.1, HF.out.2⟩ | exact ⟨by first | rfl | simp, _, HF.out.1, HF.out.2⟩
theorem rremove_ok (H : RR w a S) (W : QW S) (t : Int) : Calls Try.prog 36 #[.pointer (some ⟨a.x, 0, none⟩), .int .i64 t] w fun e w' => ∃ a', e = .returned (.bool (removeF S t).1) ∧ RR w' a' (removeF S t).2 ∧ Mr S.n w a w' a' := by
  cases hg : S.M.get t with
  | none =>
    rw [show removeF S t = (false, S) by unfold removeF; rw [hg]]
    exact (rrem_none H W t (by unfold whereF; rw [hg])).mono fun e w' q => ⟨a, q.1, q.2 ▸ H, q.2 ▸ Mr.refl _ _ _⟩
  | some v =>
    obtain ⟨h, h1, rfl, h3⟩ := (W.key t v).1 hg
    rw [show removeF S t = (true, removeS S h t) by unfold removeF; rw [hg]; simp]
    have hw := whereF_yes W h3
    by_cases hr : S.R h = t
    · have hfl : fl t (S.Q h) = S.Q h := fl_none (by
        have hnd := W.nd h
        unfold hs at hnd
        rw [if_pos (by have := (W.mem h3).2.1; omega), hr] at hnd
        have := (List.nodup_cons.1 (by simpa using hnd)).1
        exact this)
      have he : (S.setR h 0).setQ h (S.Q h) = S.setR h 0 := by
        unfold QS.setQ QS.setR
        congr 1
        funext k
        split
        · rename_i e; rw [e]
        · rfl
      refine (rrem_run H W t h h1 hw hr).mono fun e w' ⟨q1, q2, q3⟩ => ⟨a, q1, ?_, q3⟩
      unfold removeS; rw [if_pos hr, hfl, he]; exact q2.setM _
    · refine (rrem_wait H W t h h1 hw hr).mono fun e w' ⟨a', q1, q2, q3⟩ => ⟨a', q1, ?_, q3⟩
      unfold removeS; rw [if_neg hr]; exact q2.setM _
end
end Go.Proofs.Ytphikmdgdbdaiaa
