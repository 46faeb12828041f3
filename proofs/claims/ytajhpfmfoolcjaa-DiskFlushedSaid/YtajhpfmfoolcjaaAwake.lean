import Derived.Test.YtajhpfmfoolcjaaCrash
/- awake: the example of the chapter; a nil disk. -/
namespace Go.Proofs.Ytajhpfmfoolcjaa
open Go.RowKit Go.BigFrame
set_option linter.unusedVariables false
set_option linter.unusedSimpArgs false
attribute [local go_sem] szIs_lit row_at row_past row_alloc nf_alloc row_set nf_set row_cell nf_cell row_drew nf_drew row_drewN nf_drewN cell_setRow frozen_setRow nlt1 nlt2 nlt3 nlt4 nne1 nne2 nne3 nen1 nen2 nen3
/-- A disk of the call's own. -/
structure OW (w0 w : World) (a : DA) (S : DS) : Prop where
  dr : DR w a S
  bl : Below w0.heap.size w0 w
  own : ∀ k, a.all S k → w0.heap.size ≤ k
section
variable {w0 w w' : World} {a a' : DA} {S S' : DS}
theorem OW.mv (h : OW w0 w a S) (hr : DR w' a' S') (hm : Mv w a S w' a' S') : OW w0 w' a' S' :=
  ⟨hr, h.bl.trans (hm.ch.below (fun k hk q => by have := h.own k (.inl q); omega) h.bl.size), fun k q => (hm.all k q).elim (h.own k) fun q => Nat.le_trans h.bl.size q⟩
theorem OW.below (h : OW w0 w a S) (hb : Below w.heap.size w w') : OW w0 w' a S := h.mv (h.dr.below hb) (Mv.of_below _ _ hb)
theorem OW.alloc (h : OW w0 w a S) (o : Obj) : OW w0 (w.alloc o) a S := h.below ((Below.refl _ _).alloc (Nat.le_refl _) _)
theorem OW.drew (h : OW w0 w a S) : OW w0 w.drew a S := h.below (Below.refl _ _).drew
theorem OW.drewN (h : OW w0 w a S) (n : Nat) : OW w0 (w.drewN n) a S := h.below (below_drewN (Below.refl _ _) n)
end
theorem off0 {S : DS} (h : S.lim = false) : S.off = false := by unfold DS.off; rw [h]; rfl
theorem dec0 {S : DS} (h : S.lim = false) : S.dec = S := by unfold DS.dec; rw [h]; rfl
/-- The write of the bytes of a fresh block. -/
theorem OW.write {w0 w : World} {a : DA} {S : DS} (h : OW w0 w a S) (n : Nat) (b c : Nat) (l : List Int) (hn : n < S.cnt) (ho : S.off = false) (hb : Rw w 5 1 (some ⟨b, 0, none⟩) 512 c (bv l)) (hf : ¬ a.foot b) (hlen : S.pend.length ≤ 4398046511103) : Calls Try.prog 10 #[.pointer (some ⟨a.g, 0, none⟩), .int .i64 (n : Int), .slice (some ⟨b, 0, none⟩) 512 c] w fun e w' => e = .returned (.int .i64 0) ∧ ∃ a' p, p.n = n ∧ p.bs = l ∧ OW w0 w' a' (S.dec.push p) ∧ a'.g = a.g ∧ Mv w a S w' a' (S.dec.push p) :=
  (write_on h.dr n _ c l hn ho hb (fun k e q => hf (by injection e with e; simp only at e; rw [e]; exact q)) hlen).mono fun e w' ⟨a', p, r1, r2, r3, r4, r5⟩ => ⟨r1, a', p, r2, r3, h.mv r4 r5, r5.g, r5⟩
theorem bs39b (w : World) : (Instr.buildSlice 39 2 #[(0, .int .i64 3), (1, .int .i64 3)]).run Try.prog w = .ok (.slice (some ⟨w.heap.size, 0, none⟩) 2 2) (w.alloc (.cells #[.int .i64 3, .int .i64 3] 3)) := by
  simp [go_sem]
theorem bs23 (w : World) : (Instr.buildSlice 23 1 #[(0, .agg #[.int .i64 1, .int .i64 2])]).run Try.prog w = .ok (.slice (some ⟨w.heap.size, 0, none⟩) 1 1) (w.alloc (.cells #[.int .i64 1, .int .i64 2] 47)) := by
  simp [go_sem]
theorem fb98 : fb 98 0 = 98 ∧ fb 98 1 = 105 := by decide
def tn1 : Nat → TornV := fun _ => ⟨1, 2⟩
theorem crash_tn1 (L F : List Int) (p1 p2 : PW) (e1 : p2.n = 3) (e2 : p2.bs = F) : (((S0 4 L).push p1).push p2).crash 1 tn1 = ⟨4, Go.Proofs.Ytajhpfmfoolcjaa.lay L (3 * 512) (F.take 2), [], false, 0⟩ := by
  have h : (((S0 4 L).push p1).push p2).pend[1]? = some p2 := rfl
  have h2 : (((S0 4 L).push p1).push p2).crash1 tn1 0 L = Go.Proofs.Ytajhpfmfoolcjaa.lay L (3 * 512) (F.take 2) := by
    show (match (((S0 4 L).push p1).push p2).pend[1]? with | some p => Go.Proofs.Ytajhpfmfoolcjaa.lay L (p.n * 512) (p.bs.take 2) | none => L) = _
    rw [h]; simp only; rw [e1, e2]
  show (⟨4, (((S0 4 L).push p1).push p2).crash1 tn1 0 L, [], false, 0⟩ : DS) = _
  rw [h2]
theorem awake_says (p1 p2 : PW) (e1 : p2.n = 3) (e2 : p2.bs = fil 512 98) : ∀ S : DS, S = ((S0 4 (List.replicate (4 * 512) 0)).push p1).push p2 → ((S.crash 1 tn1).says 3)[0]? = some 98 ∧ ((S.crash 1 tn1).says 3)[1]? = some 105 ∧ ((S.crash 1 tn1).says 3)[2]? = some 0 := by
  rintro S rfl
  obtain ⟨L, hL⟩ : ∃ L : List Int, L = List.replicate (4 * 512) 0 := ⟨_, rfl⟩
  obtain ⟨F, hF⟩ : ∃ F, F = fil 512 98 := ⟨_, rfl⟩
  rw [← hF] at e2
  rw [← hL, crash_tn1 L F p1 p2 e1 e2]
  have hLl : L.length = 2048 := by rw [hL, List.length_replicate]
  have hFl : F.length = 512 := by rw [hF, fil_len]
  have hl : (F.take 2).length = 2 := by rw [List.length_take, hFl]; omega
  have key : ∀ j, j < 512 → ((⟨4, Go.Proofs.Ytajhpfmfoolcjaa.lay L (3 * 512) (F.take 2), [], false, 0⟩ : DS).says 3)[j]? = if j < 2 then some (fb 98 j) else some 0 := fun j hj => by
    show (((Go.Proofs.Ytajhpfmfoolcjaa.lay L (3 * 512) (F.take 2)).drop (3 * 512)).take 512)[j]? = _
    rw [List.getElem?_take_of_lt hj, List.getElem?_drop, lay_get _ _ _ (by rw [hl, hLl]; omega)]
    rw [hl]
    by_cases h2 : j < 2
    · rw [if_pos (by omega), if_pos h2, show 3 * 512 + j - 3 * 512 = j by omega, List.getElem?_take_of_lt h2, hF, fil_get _ hj]
    · rw [if_neg (by omega), if_neg h2, hL, List.getElem?_replicate, if_pos (by omega)]
  have k0 := key 0 (by omega)
  have k1 := key 1 (by omega)
  have k2 := key 2 (by omega)
  rw [if_pos (by omega), fb98.1] at k0
  rw [if_pos (by omega), fb98.2] at k1
  rw [if_neg (by omega)] at k2
  exact ⟨k0, k1, k2⟩
set_option maxRecDepth 100000 in
set_option maxHeartbeats 4000000 in
theorem awake_ok (w : World) : Calls Try.prog 8 #[] w fun e w' => e = .returned (.bool true) ∧ Below w.heap.size w w' := by
  have HN := Lib.hid (new_ok 4 w (by omega) (by omega))
  go_enter Try.func8, Try.ntmps8
  go_wp2_with fail
  refine HN.out.mono ?_
  rintro e w1 ⟨a, rfl, h1, h2, h3, h4⟩
  have O1 : OW w w1 a (S0 4 (List.replicate (4 * 512) 0)) := ⟨h1, h2, h3⟩
  have HO1 := Lib.hid O1
  clear h1 h2 h3 h4 O1
  go_wp2_with fail
  refine (filled_ok 512 (by omega) 97 w1).mono ?_
  rintro e w2 ⟨b1, rfl, hb1, hb2, hb3⟩
  have O2 := HO1.out.below hb2
  have HW := Lib.hid (O2.write 3 b1 512 _ (by simp [S0]) (off0 rfl) hb1 (fun q => by have := HO1.out.dr.foot_lt (.inl q); omega) (by simp [S0]))
  clear hb1 hb2 hb3 O2
  go_wp2_with fail
  refine HW.out.mono ?_
  rintro e w3 ⟨rfl, a3, p1, e1, e2, O3, e3, m3⟩
  rw [dec0 rfl] at O3
  have HO3 := Lib.hid O3
  clear O3 m3
  go_wp2_with fail
  refine (filled_ok 512 (by omega) 98 w3).mono ?_
  rintro e w4 ⟨b2, rfl, hb1, hb2, hb3⟩
  have O4 := HO3.out.below hb2
  have HW2 := O4.write 3 b2 512 _ (by simp [S0, DS.push]) (off0 rfl) hb1 (fun q => by have := HO3.out.dr.foot_lt (.inl q); omega) (by simp [S0, DS.push])
  rw [e3] at HW2
  have HW2 := Lib.hid HW2
  clear hb1 hb2 hb3 O4
  go_wp2_with fail
  refine HW2.out.mono ?_
  rintro e w5 ⟨rfl, a5, p2, f1, f2, O5, f3, m5⟩
  rw [dec0 rfl] at O5
  generalize hS : ((S0 4 (List.replicate (4 * 512) 0)).push p1).push p2 = S at *
  have hSl : S.pend.length = 2 := by rw [← hS]; simp [DS.push, S0]
  have hSn : iv (S.pend.map PW.ni) = iv [3, 3] := by rw [← hS]; simp [DS.push, S0, PW.ni, e1, f1]
  have hSc : S.cnt = 4 ∧ S.lim = false := by rw [← hS]; exact ⟨rfl, rfl⟩
  have hsays := awake_says p1 p2 f1 f2 S hS.symm
  have HSAY := Lib.hid hsays
  have HO5 := Lib.hid O5
  have HP := pending_ok O5.dr (by omega)
  rw [hSl, hSn, f3] at HP
  have HP := Lib.hid HP
  clear O5 m5 hsays
  go_wp2_with fail
  refine HP.out.mono ?_
  rintro e w6 ⟨A6, c6, rfl, hr6, hb6, hf6⟩
  have hbb : Below w6.heap.size w6 (w6.alloc (.cells #[.int .i64 3, .int .i64 3] 3)) := (Below.refl _ _).alloc (Nat.le_refl _) _
  have hr7 : Rw (w6.alloc (.cells #[.int .i64 3, .int .i64 3] 3)) 3 1 (some ⟨w6.heap.size, 0, none⟩) 2 2 (iv [3, 3]) := by
    have := Rw.fresh (s := 1) w6 3 #[.int .i64 3, .int .i64 3] 2 2 (by omega) (by unfold maxLen; omega) rfl
    simpa [iv] using this
  have O7 := (HO5.out.below hb6).below hbb
  have HSI := Lib.hid (same_yes _ A6 _ 2 c6 2 [3, 3] (hr6.below hbb) hr7 (by omega))
  have HO7 := Lib.hid O7
  clear hr6 hb6 hf6 hbb hr7 O7
  have hb39 := bs39b w6
  go_wp2_with fail
  refine HSI.out.mono ?_
  rintro e w8 ⟨rfl, nq, rfl⟩
  have O8 := HO7.out.drewN nq
  generalize hw8 : (w6.alloc (.cells #[.int .i64 3, .int .i64 3] 3)).drewN nq = w8 at *
  clear hw8
  have hb23 := bs23 w8
  have O9 := O8.alloc (.cells #[.int .i64 1, .int .i64 2] 47)
  have hT : Tn (w8.alloc (.cells #[.int .i64 1, .int .i64 2] 47)) (some ⟨w8.heap.size, 0, none⟩) 1 tn1 := fun _ => ⟨w8.heap.size, 0, rfl, fun i hi => by
    obtain rfl : i = 0 := by omega
    exact ⟨by simp [go_sem, tn1], by simp [go_sem, tn1]⟩⟩
  have HC := crash_ok O9.dr (some ⟨w8.heap.size, 0, none⟩) 1 1 tn1 hT (fun _ k e q => by
    injection e with e; simp only at e
    have := O8.dr.foot_lt (.inl q); omega) (by omega) (by omega)
  rw [f3] at HC
  have HC := Lib.hid HC
  have HO9 := Lib.hid O9
  clear O8 O9 hT
  go_wp2_with fail
  refine HC.out.mono ?_
  rintro e w10 hh
  rcases hh with ⟨_, hbad, _⟩ | ⟨rfl, _, a11, hD, hM⟩
  · exact absurd (fun i hi => by
      obtain rfl : i = 0 := by omega
      exact ⟨by simp [tn1], by rw [hSl]; simp [tn1], by omega, by simp [tn1], by simp [tn1]⟩) hbad
  · have O10 := HO9.out.mv hD hM
    have hg := hM.g
    have HR := read_ok hD 3 (by show 3 < S.cnt; rw [hSc.1]; omega)
    rw [hg, f3] at HR
    have HR := Lib.hid HR
    have HO10 := Lib.hid O10
    clear hD hM O10
    go_wp2_with fail
    refine HR.out.mono ?_
    rintro e w12 ⟨A12, c12, a12, rfl, hr12, hD12, hM12, hf12⟩
    obtain ⟨b12, rfl⟩ := hr12.some_ (by omega)
    have O12 := HO10.out.mv hD12 hM12
    have hg12 := hM12.g
    obtain ⟨s0, s1, s2⟩ := HSAY.out
    have d0 := (hr12.cell 0 (by omega)).trans (bv_get s0)
    have d1 := (hr12.cell 1 (by omega)).trans (bv_get s1)
    have d2 := (hr12.cell 2 (by omega)).trans (bv_get s2)
    have HF := flush_on hD12 (off0 rfl) (by simp [DS.crash])
    rw [hg12, hg, f3] at HF
    have HF := Lib.hid HF
    have HO12 := Lib.hid O12
    clear hr12 hD12 hM12 hf12 O12 s0 s1 s2
    go_wp2_with fail
    refine HF.out.mono ?_
    rintro e w13 ⟨a13, rfl, hD13, hM13⟩
    have HB := Lib.hid (HO12.out.mv hD13 hM13).bl
    clear hD13 hM13
    go_wp2
    go_ret
    exact ⟨by first | rfl | simp [DS.crash], HB.out⟩
end Go.Proofs.Ytajhpfmfoolcjaa
