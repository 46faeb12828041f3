import Derived.Test.YtphikmdgdbdaiaaStepQ
/- Looks. -/
namespace Go.Proofs.Ytphikmdgdbdaiaa
open Go.RowKit Go.BigFrame
set_option linter.unusedVariables false
set_option linter.unusedSimpArgs false
attribute [local go_sem] szIs_lit row_at row_past row_alloc nf_alloc row_set nf_set row_cell nf_cell row_drew nf_drew row_drewN nf_drewN cell_setRow frozen_setRow nlt1 nlt2 nlt3 nlt4 nne1 nne2 nne3 nen1 nen2 nen3
section
variable {B : Nat → Prop} {w0 w w' : World} {g x : Nat} {S T : QS}
theorem DU.idle (h : DU B w0 w g x S T) : Calls Try.prog 23 #[.pointer (some ⟨g, 0, none⟩)] w fun e w' => e = .returned (.bool (decide (S.M.length = 0))) ∧ w = w' := idleI h.qj.qi
theorem DU.ridle (h : DU B w0 w g x S T) : Calls Try.prog 38 #[.pointer (some ⟨x, 0, none⟩)] w fun e w' => e = .returned (.bool (decide (T.M.length = 0))) ∧ w = w' := by
  obtain ⟨a, r, q1, rfl, q3, q4, q5, q6, q7⟩ := h.ok
  exact ridle_ok q4 q5
theorem DU.run (h : DU B w0 w g x S T) (i : Int) : Calls Try.prog 15 #[.pointer (some ⟨g, 0, none⟩), .int .i64 i] w fun e w' => e = .returned (.int .i64 (runF S i)) ∧ w = w' := runI h.qj.qi i
theorem DU.rrun (h : DU B w0 w g x S T) (i : Int) : Calls Try.prog 40 #[.pointer (some ⟨x, 0, none⟩), .int .i64 i] w fun e w' => e = .returned (.int .i64 (runF T i)) ∧ w = w' := by
  obtain ⟨a, r, q1, rfl, q3, q4, q5, q6, q7⟩ := h.ok
  by_cases hi : inH T i
  · obtain ⟨k, rfl, hk⟩ := inH_nat hi
    rw [show runF T k = T.R k by unfold runF; rw [if_pos hi]; simp]
    exact rrun_yes q4 k hk
  · rw [show runF T i = 0 by unfold runF; rw [if_neg hi]]
    exact rrun_no q4 i hi
theorem DU.where_ (h : DU B w0 w g x S T) (t : Int) : Calls Try.prog 17 #[.pointer (some ⟨g, 0, none⟩), .int .i64 t] w fun e w' => e = .returned (.tuple #[.int .i64 (whereF S t).1, .bool (whereF S t).2]) ∧ w = w' := whereI h.qj.qi t
theorem DU.rwhere (h : DU B w0 w g x S T) (t : Int) : Calls Try.prog 37 #[.pointer (some ⟨x, 0, none⟩), .int .i64 t] w fun e w' => e = .returned (.tuple #[.int .i64 (whereF T t).1, .bool (whereF T t).2]) ∧ w = w' := by
  obtain ⟨a, r, q1, rfl, q3, q4, q5, q6, q7⟩ := h.ok
  exact rwhere_ok q4 q5 t
theorem DU.rlen (h : DU B w0 w g x S T) : ∃ hb, w.cell? ⟨x, 0, none⟩ = some (.slice (some ⟨hb, 0, none⟩) T.n T.n) := by
  obtain ⟨a, r, q1, rfl, q3, q4, q5, q6, q7⟩ := h.ok
  exact ⟨r.hb, q4.c0⟩
theorem DU.que (h : DU (fun _ => False) w0 w g x S T) (i : Int) : Calls Try.prog 14 #[.pointer (some ⟨g, 0, none⟩), .int .i64 i] w fun e w' => ∃ A c, e = .returned (.slice A (queF S i).length c) ∧ Rw w' 3 1 A (queF S i).length c (iv (queF S i)) ∧ DU (fun k => blkOf A = some k) w0 w' g x S T ∧ ∀ k, blkOf A = some k → w0.heap.size ≤ k :=
  (queI h.qj.qi i).mono fun e w' ⟨A, c, r1, r2, _, r4, r5⟩ => ⟨A, c, r1, r2, h.aside (N := 0) r4 fun k hk => ⟨r5 k hk, r2.lt k hk⟩, fun k hk => Nat.le_trans h.bl.size (r5 k hk)⟩
theorem DU.rque (h : DU B w0 w g x S T) (i : Int) : Calls Try.prog 39 #[.pointer (some ⟨x, 0, none⟩), .int .i64 i] w fun e w' => ∃ A c, e = .returned (.slice A (queF T i).length c) ∧ w = w' ∧ Rw w 3 1 A (queF T i).length c (iv (queF T i)) ∧ ∀ k, blkOf A = some k → ¬ B k := by
  obtain ⟨a, r, q1, rfl, q3, q4, q5, q6, q7⟩ := h.ok
  by_cases hi : inH T i
  · obtain ⟨k, rfl, hk⟩ := inH_nat hi
    rw [show queF T k = T.Q k by unfold queF; rw [if_pos hi]; simp]
    exact (rque_yes q4 k hk).mono fun e w' q => ⟨_, _, q.1, q.2, q4.q k hk, fun j hj => (q7 j (.inr (.inr ⟨k, hk, hj⟩))).2⟩
  · rw [show queF T i = [] by unfold queF; rw [if_neg hi]]
    exact (rque_no q4 i hi).mono fun e w' q => ⟨none, 0, q.1, q.2, Rw.nil _ _ _, fun j hj => by cases hj⟩
end
theorem queF_le {S : QS} (W : QW S) (i : Int) : (queF S i).length ≤ 64 := by
  unfold queF; split
  · exact hs_le W _
  · simp
set_option maxRecDepth 100000 in
set_option maxHeartbeats 8000000 in
theorem looks_ok (w0 w : World) (g x : Nat) (S : QS) (h : DU (fun _ => False) w0 w g x S S) : Calls Try.prog 22 #[.pointer (some ⟨g, 0, none⟩), .pointer (some ⟨x, 0, none⟩)] w fun e w' => e = .returned (.bool true) ∧ DU (fun _ => False) w0 w' g x S S := by
  have HD := Lib.hid h
  have HW := Lib.hid h.qw
  have hn8 := h.qw.n8
  clear h
  generalize hn : S.n = n at *
  have HN := Lib.hid hn
  clear hn
  go_enter Try.func22, Try.ntmps22
  go_wp2_with fail
  refine HD.out.idle.mono ?_
  rintro e w' ⟨rfl, rfl⟩
  go_wp2_with fail
  refine HD.out.ridle.mono ?_
  rintro e w' ⟨rfl, rfl⟩
  go_wp2_with fail
  go_loopg [5, 6, 7, 8] (n + 3) (fun gk h_ p6 p7 p8 wr => ∃ i : Nat, h_ = .int .i64 ((i : Int) - 1) ∧ gk = n + 3 - i ∧ i ≤ n + 2 ∧ DU (fun _ => False) w0 wr g x S S)
  case atStart => exact ⟨0, rfl, rfl, by omega, HD.out⟩
  case round =>
    obtain ⟨i, rfl, hgk, hi, hD⟩ := hrel
    have HK := Lib.hid hgk
    have HD1 := Lib.hid hD
    obtain ⟨hb, c0⟩ := hD.rlen
    rw [HN.out] at c0
    clear hgk hD
    by_cases hlt : i < n + 2
    · have hq := HD1.out.que ((i : Int) - 1)
      have hl64 := queF_le HW.out ((i : Int) - 1)
      generalize hQ : queF S ((i : Int) - 1) = Q at *
      generalize hL : Q.length = L at *
      generalize hR : runF S ((i : Int) - 1) = rr at *
      have HQ := Lib.hid hQ
      have HL := Lib.hid hL
      have HR := Lib.hid hR
      have HQC := Lib.hid hq
      clear hq hQ hL hR
      go_wp2_with fail
      refine HQC.out.mono ?_
      rintro e w2 ⟨A, c, rfl, hA, hD2, hfr⟩
      have HFR := Lib.hid hfr
      have HA := Lib.hid hA
      have HD2 := Lib.hid hD2
      clear hA hD2 hfr
      go_wp2_with fail
      refine (HD2.out.rque ((i : Int) - 1)).mono ?_
      rw [HQ.out, HL.out]
      rintro e w' ⟨A2, c2, rfl, rfl, hA2, hne⟩
      have HA2 := Lib.hid hA2
      have HNE := Lib.hid hne
      clear hA2 hne
      go_wp2_with fail
      refine (HD2.out.run ((i : Int) - 1)).mono ?_
      rintro e w' ⟨rfl, rfl⟩
      rw [HR.out]
      go_wp2_with fail
      refine (HD2.out.rrun ((i : Int) - 1)).mono ?_
      rintro e w' ⟨rfl, rfl⟩
      rw [HR.out]
      go_wp2_with fail
      go_loopg [8] (L + 1) (fun gk j_ wr => ∃ (j : Nat) (vs : List Value), j_ = .int .i64 (j : Int) ∧ gk = L + 1 - j ∧ j ≤ L ∧ DU (fun k => blkOf A = some k) w0 wr g x S S ∧ Rw wr 3 1 A L c vs ∧ (∀ q, j ≤ q → vs[q]? = (iv Q)[q]?) ∧ Rw wr 3 1 A2 L c2 (iv Q))
      case atStart => exact ⟨0, iv Q, rfl, rfl, by omega, HD2.out, HA.out, fun _ _ => rfl, HA2.out⟩
      case round =>
        obtain ⟨j, vs, rfl, hgk, hj, hD3, hV, hvs, hQ2⟩ := hrel
        have HK2 := Lib.hid hgk
        have HD3 := Lib.hid hD3
        have HV := Lib.hid hV
        have HVS := Lib.hid hvs
        have HQ2 := Lib.hid hQ2
        clear hgk hD3 hV hvs hQ2
        by_cases hlt2 : j < L
        · obtain ⟨b, hbA⟩ := HV.out.some_ (by omega)
          obtain ⟨b2, hbA2⟩ := HQ2.out.some_ (by omega)
          subst hbA
          subst hbA2
          obtain ⟨y, hy⟩ : ∃ y, Q[j]? = some y := ⟨_, List.getElem?_eq_getElem (by rw [HL.out]; exact hlt2)⟩
          have hyv : (iv Q)[j]? = some (.int .i64 y) := by simp [iv, hy]
          have d1 : wr.cell? ⟨b, j, none⟩ = some (.int .i64 y) := by rw [HV.out.cell j (by omega), HVS.out j (Nat.le_refl _), hyv]
          have d2 : wr.cell? ⟨b2, j, none⟩ = some (.int .i64 y) := by rw [HQ2.out.cell j (by omega), hyv]
          have dz := HV.out.frozen j
          clear hy hyv
          go_wp2_with fail
          go_quiet (fail)
          have d3 : (wr.drewN nq).cell? ⟨b, j, none⟩ = some (.int .i64 y) := d1
          have d4 : (wr.drewN nq).frozen? ⟨b, j, none⟩ = false := dz
          have hne : ¬ b2 = b := fun e => HNE.out b2 rfl (by rw [e]; rfl)
          have HVN := Lib.hid ((HV.out.drewN nq).put j (.int .i64 (-1)))
          have hch : Ch (· = b) (wr.drewN nq) ((wr.drewN nq).setCell ⟨b, j, none⟩ (.int .i64 (-1))) := (Ch.refl (· = b) (wr.drewN nq)).cell _ _ fun _ => rfl
          have HQN := Lib.hid ((HQ2.out.drewN nq).ch hch (fun k hk e => hne (by have : b2 = k := Option.some.inj hk; omega)))
          have hDN := HD3.out.look (below_drewN (Below.refl _ _) nq)
          have HDN := Lib.hid (hDN.write hch (fun k e => by
            rw [e]
            exact HFR.out b rfl) (fun k e => by rw [e]; rfl))
          clear d1 d2 dz hch hDN hne
          generalize wr.drewN nq = v at *
          go_wp2_with fail
          go_roundg (L + 1 - (j + 1))
          case measure => have := HK2.out; omega
          case rel => exact ⟨j + 1, vs.set j (.int .i64 (-1)), by go_num, rfl, by omega, HDN.out, HVN.out, fun q hq => by rw [List.getElem?_set_ne (by omega)]; exact HVS.out q (by omega), HQN.out⟩
        · obtain rfl : j = L := by omega
          go_wp2_with fail
          go_roundg (n + 3 - (i + 1))
          case measure => have := HK.out; omega
          case rel => exact ⟨i + 1, by go_num, rfl, by omega, HD3.out.weak fun _ h => h.elim⟩
    · obtain rfl : i = n + 2 := by omega
      go_wp2_with fail
      go_ret
      first | exact ⟨by first | rfl | simp, HD1.out⟩
end Go.Proofs.Ytphikmdgdbdaiaa
