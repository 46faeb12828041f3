import Derived.Test.YtphikmdgdbdaiaaRefP
/- The reference: Where. -/
namespace Go.Proofs.Ytphikmdgdbdaiaa
open Go.RowKit Go.BigFrame
set_option linter.unusedVariables false
set_option linter.unusedSimpArgs false
attribute [local go_sem] szIs_lit row_at row_past row_alloc nf_alloc row_set nf_set row_cell nf_cell row_drew nf_drew row_drewN nf_drewN cell_setRow frozen_setRow nlt1 nlt2 nlt3 nlt4 nne1 nne2 nne3 nen1 nen2 nen3
section
variable {w : World} {a : RA} {S : QS}
theorem RR.setM (H : RR w a S) (M : IM) : RR w a (S.setM M) :=
  ⟨H.n1, H.n8, H.blk, by rw [show rv a (S.setM M) (S.setM M).n = rv a S S.n from rv_congr _ _ _ _ _ fun h _ => ⟨rfl, rfl, rfl, rfl⟩]; exact H.row, H.q, H.ne, H.qn⟩
theorem Mr.undrew {n : Nat} {w' : World} {a' : RA} (h : Mr n w.drew a w' a') : Mr n w a w' a' := ⟨h.ch.undrew, h.x, h.hb, fun k q => (h.new k q).elim .inl fun q => .inr (by simp at q; omega)⟩
theorem whereF_no {S : QS} (W : QW S) {t : Int} (h : ∀ k, k < S.n → t ∉ hs S k) : whereF S t = (0, false) := by
  unfold whereF
  cases hg : S.M.get t with
  | none => rfl
  | some v => obtain ⟨k, h1, rfl, h3⟩ := (W.key t v).1 hg; exact absurd h3 (h k h1)
theorem whereF_yes {S : QS} (W : QW S) {t : Int} {k : Nat} (h : t ∈ hs S k) : whereF S t = ((k : Int), true) := by
  unfold whereF; rw [(W.mem h).2.2]
theorem rwhere_lo (H : RR w a S) (t : Int) (ht : t < 1) : Calls Try.prog 37 #[.pointer (some ⟨a.x, 0, none⟩), .int .i64 t] w fun e w' => e = .returned (.tuple #[.int .i64 0, .bool false]) ∧ w = w' := by
  have c0 := H.c0
  have n8 := H.n8
  have n1 := H.n1
  clear H
  go_enter Try.func37, Try.ntmps37
  go_wp2_with fail
  go_loopg [6, 7] 1 (fun gk h_ p7 wr => h_ = .int .i64 0 ∧ gk = 1 ∧ w = wr)
  case atStart => exact ⟨rfl, rfl, rfl⟩
  case round =>
    obtain ⟨rfl, hgk, rfl⟩ := hrel
    go_wp2_with fail
    go_ret2
    exact ⟨by first | rfl | simp, rfl⟩
set_option maxHeartbeats 4000000 in
theorem rwhere_in (H : RR w a S) (W : QW S) (t : Int) (ht : ¬ t < 1) : Calls Try.prog 37 #[.pointer (some ⟨a.x, 0, none⟩), .int .i64 t] w fun e w' => e = .returned (.tuple #[.int .i64 (whereF S t).1, .bool (whereF S t).2]) ∧ w = w' := by
  have c0 := H.c0
  have n8 := H.n8
  have HR := Lib.hid H
  have HW := Lib.hid W
  clear H W
  generalize hn : S.n = n at *
  have HN := Lib.hid hn
  clear hn
  go_enter Try.func37, Try.ntmps37
  go_wp2_with fail
  go_loopg [6, 7] (n + 1) (fun gk h_ p7 wr => ∃ h : Nat, h_ = .int .i64 (h : Int) ∧ gk = n + 1 - h ∧ h ≤ n ∧ (∀ k, k < h → t ∉ hs S k) ∧ w = wr)
  case atStart => exact ⟨0, rfl, rfl, by omega, fun k hk => by omega, rfl⟩
  case round =>
    obtain ⟨h, rfl, hgk, hh, hno, rfl⟩ := hrel
    have HK := Lib.hid hgk
    have HNO := Lib.hid hno
    clear hgk hno
    by_cases hlt : h < n
    · have c1 := HR.out.cR (i := h) (by rw [HN.out]; exact hlt)
      have c2 := HR.out.cQ (i := h) (by rw [HN.out]; exact hlt)
      have HQ := Lib.hid (HR.out.q h (by rw [HN.out]; exact hlt))
      have hqc := HR.out.le (i := h) (by rw [HN.out]; exact hlt)
      have hq64 := hs_le HW.out h
      generalize hql : (S.Q h).length = q at *
      have HQL := Lib.hid hql
      clear hql
      by_cases hr : S.R h = t
      · have HF := Lib.hid (whereF_yes HW.out (t := t) (k := h) (by unfold hs; rw [if_pos (by omega)]; simp [hr]))
        rw [hr] at c1
        clear hr
        go_wp2_with fail
        go_ret2
        exact ⟨by rw [HF.out]; first | rfl | simp, rfl⟩
      · have k0 : (S.R h == t) = false := by simpa using hr
        have HRT := Lib.hid hr
        clear hr
        go_wp2_with fail
        go_loopg [7] (q + 1) (fun gk i_ wr => ∃ i : Nat, i_ = .int .i64 (i : Int) ∧ gk = q + 1 - i ∧ i ≤ q ∧ (∀ j, j < i → (S.Q h)[j]? ≠ some t) ∧ w = wr)
        case atStart => exact ⟨0, rfl, rfl, by omega, fun j hj => by omega, rfl⟩
        case round =>
          obtain ⟨i, rfl, hgk, hi, hnq, rfl⟩ := hrel
          have HK2 := Lib.hid hgk
          have HNQ := Lib.hid hnq
          clear hgk hnq
          by_cases hlt2 : i < q
          · obtain ⟨b, hbA⟩ := HQ.out.some_ (by omega)
            obtain ⟨x, hx⟩ : ∃ x, (S.Q h)[i]? = some x := ⟨_, List.getElem?_eq_getElem (by rw [HQL.out]; exact hlt2)⟩
            have c3 : w.cell? ⟨b, i, none⟩ = some (.int .i64 x) := by
              have := HQ.out
              rw [hbA] at this
              rw [this.cell i (by omega)]; simp [iv, hx]
            rw [hbA] at c2
            have HX := Lib.hid hx
            clear hx
            by_cases hxt : x = t
            · subst hxt
              have HF := Lib.hid (whereF_yes HW.out (t := x) (k := h) (by unfold hs; exact List.mem_append_right _ (List.mem_of_getElem? HX.out)))
              go_wp2_with fail
              go_ret2
              exact ⟨by rw [HF.out]; first | rfl | simp, rfl⟩
            · have k1 : (x == t) = false := by simpa using hxt
              have HXT := Lib.hid hxt
              clear hxt
              go_wp2_with fail
              go_roundg (q + 1 - (i + 1))
              case measure => have := HK2.out; omega
              case rel => exact ⟨i + 1, by go_num, rfl, by omega, fun j hj => by
                rcases Nat.lt_or_ge j i with e | e
                · exact HNQ.out j e
                · rw [show j = i by omega, HX.out]; intro e; injection e with e; exact HXT.out e, rfl⟩
          · obtain rfl : i = q := by omega
            go_wp2_with fail
            go_roundg (n + 1 - (h + 1))
            case measure => have := HK.out; omega
            case rel => exact ⟨h + 1, by go_num, rfl, by omega, fun k hk => by
              rcases Nat.lt_or_ge k h with e | e
              · exact HNO.out k e
              · rw [show k = h by omega]
                intro hm
                unfold hs at hm
                rcases List.mem_append.1 hm with hm | hm
                · split at hm
                  · simp at hm; exact HRT.out hm.symm
                  · cases hm
                · obtain ⟨j, hj⟩ := List.mem_iff_getElem?.1 hm
                  exact HNQ.out j (by have := (List.getElem?_eq_some_iff.1 hj).1; rw [HQL.out] at this; exact this) hj, rfl⟩
    · obtain rfl : h = n := by omega
      have HF := Lib.hid (whereF_no HW.out (t := t) (by rw [HN.out]; exact HNO.out))
      go_wp2_with fail
      go_ret2
      exact ⟨by rw [HF.out]; first | rfl | simp, rfl⟩
theorem rwhere_ok (H : RR w a S) (W : QW S) (t : Int) : Calls Try.prog 37 #[.pointer (some ⟨a.x, 0, none⟩), .int .i64 t] w fun e w' => e = .returned (.tuple #[.int .i64 (whereF S t).1, .bool (whereF S t).2]) ∧ w = w' := by
  by_cases ht : t < 1
  · have : whereF S t = (0, false) := whereF_no W fun k _ hm => by have := (W.mem hm).2.1; omega
    rw [this]; exact rwhere_lo H t ht
  · exact rwhere_in H W t ht
end
end Go.Proofs.Ytphikmdgdbdaiaa
