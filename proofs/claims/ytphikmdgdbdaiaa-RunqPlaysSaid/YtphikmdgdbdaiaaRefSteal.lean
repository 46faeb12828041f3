import Derived.Test.YtphikmdgdbdaiaaRefNext
/- The reference: Next, from another hart. -/
namespace Go.Proofs.Ytphikmdgdbdaiaa
open Go.RowKit Go.BigFrame
set_option linter.unusedVariables false
set_option linter.unusedSimpArgs false
attribute [local go_sem] szIs_lit row_at row_past row_alloc nf_alloc row_set nf_set row_cell nf_cell row_drew nf_drew row_drewN nf_drewN cell_setRow frozen_setRow nlt1 nlt2 nlt3 nlt4 nne1 nne2 nne3 nen1 nen2 nen3
theorem lng_one (S : QS) : lng S 1 = 0 := by unfold lng lng; split <;> rfl
section
variable {w w4 : World} {a : RA} {S : QS}
structure CPut (w : World) (a : RA) (S : QS) (h : Nat) (t : Int) (P : Nat → World) : Prop where
  w0 : P 0 = w
  s1 : (Instr.storeAt 3 (.pointer (some ⟨a.hb, h * 2, none⟩)) (.int .i64 t)).run Try.prog (P 0) = .ok () (P 1)
  ld : ∀ k, k ≤ 0 → RR (P k) a S
  fin : RR (P 1) a (S.setR h t) ∧ Mr S.n w a (P 1) a
theorem cput_ok (H : RR w a S) {h : Nat} (hh : h < S.n) (t : Int) : ∃ P, CPut w a S h t P :=
  ⟨fun k => [w].getD k (w.setCell ⟨a.hb, h * 2, none⟩ (.int .i64 t)), ⟨rfl, store_cell 3 _ _ _ w (sz3 w) rfl (H.cR hh) (H.fro _), (fun k hk => by
    obtain rfl : k = 0 := by omega
    exact H), (H.putR hh t).1, (H.putR hh t).2⟩⟩
structure CSteal (w : World) (a : RA) (S : QS) (h : Nat) (l : List Int) (W : Nat → World) (A' : Option Addr) (c : Nat) (A2 : Option Addr) (c2 : Nat) : Prop where
  w0 : W 0 = w
  r0 : (Instr.buildSlice 31 0 #[]).run Try.prog (W 0) = .ok (.slice (some ⟨w.heap.size, 0, none⟩) 0 0) (W 1)
  r1 : (Builtin.append_ #[31, 31] 31 #[.slice (some ⟨w.heap.size, 0, none⟩) 0 0, .slice A' l.length c]).run Try.prog (W 1) = .ok (.slice A2 l.length c2) (W 2)
  s2 : (Instr.storeAt 31 (.pointer (some ⟨a.hb, h * 2 + 1, none⟩)) (.slice A2 l.length c2)).run Try.prog (W 2) = .ok () (W 3)
  ld : ∀ k, k ≤ 2 → RR (W k) a S
  fin : RR (W 3) (a.setA h A2 c2) (S.setQ h l) ∧ Mr S.n w a (W 3) (a.setA h A2 c2)
theorem csteal_ok (H : RR w a S) {h : Nat} (hh : h < S.n) (l : List Int) {A' : Option Addr} {c : Nat} (hr : ∀ w', Below w.heap.size w w' → Rd w' A' (iv l)) (hc' : A' = none → c = 0) (hlen : l.length ≤ 1000) : ∃ W A2 c2, CSteal w a S h l W A' c A2 c2 := by
  obtain ⟨A2, c2, w2, p1, p2, p3, p4⟩ := copy_ok w (hr _ (Below.refl _ _)) hc' hlen (hr _ ((Below.refl _ _).alloc (Nat.le_refl _) _))
  have H2 := H.below p3
  obtain ⟨f1, f2⟩ := H.putQ hh p3 p2 p4
  refine ⟨fun k => [w, w.alloc (.cells #[] 3), w2].getD k (w2.setCell ⟨a.hb, h * 2 + 1, none⟩ (.slice A2 l.length c2)), A2, c2, ⟨rfl, bs31e w, p1, store_cell 31 _ _ _ _ (sz31 _) rfl (H2.cQ hh) (H2.fro _), fun k hk => ?_, f1, f2⟩⟩
  rcases (show k = 0 ∨ k = 1 ∨ k = 2 by omega) with rfl | rfl | rfl
  · exact H
  · exact H.below ((Below.refl _ _).alloc (Nat.le_refl _) _)
  · exact H2
set_option maxRecDepth 100000 in
set_option maxHeartbeats 8000000 in
theorem rnext_none (H : RR w a S) (h : Nat) (hlt : h < S.n) (h0 : S.R h = 0) (hq : S.Q h = []) (hb : S.Q (lng S S.n) = []) : Calls Try.prog 33 #[.pointer (some ⟨a.x, 0, none⟩), .int .i64 (h : Int)] w fun e w' => e = .returned (.tuple #[.int .i64 0, .bool false]) ∧ RR w' a S ∧ Below w.heap.size w w' := by
  have HBB := Lib.hid hb
  clear hb
  have HI := Lib.hid (hart_yes H h hlt)
  have HR := Lib.hid H
  have c1 := H.cR hlt
  have c2 := H.cQ hlt
  have n8 := H.n8
  have n1 := H.n1
  have c0 := H.c0
  have hhn := Lib.hid hlt
  rw [h0] at c1
  rw [hq] at c2
  have hcq := H.le hlt
  clear H
  generalize hn : S.n = n at *
  have HN := Lib.hid hn
  clear hn h0 hq
  go_enter Try.func33, Try.ntmps33
  go_wp2_with fail
  refine HI.out.mono ?_
  rintro e w' ⟨rfl, rfl⟩
  go_wp2_with fail
  go_loopg [7, 8] (n + 1) (fun gk b_ k_ wr => ∃ k : Nat, b_ = .int .i64 ((lng S k : Nat) : Int) ∧ k_ = .int .i64 (k : Int) ∧ gk = n + 2 - k ∧ 1 ≤ k ∧ k ≤ n ∧ RR wr a S ∧ Below w.heap.size w wr)
  case atStart => exact ⟨1, by rw [lng_one]; rfl, rfl, by omega, by omega, by omega, HR.out, Below.refl _ _⟩
  case round =>
    obtain ⟨k, rfl, rfl, hgk, hk1, hk, hR, hB⟩ := hrel
    have HK := Lib.hid hgk
    have HR2 := Lib.hid hR
    have HB2 := Lib.hid hB
    clear hgk hB
    have c0 := hR.c0
    rw [HN.out] at c0
    have hbl : lng S k < n := by rcases lng_lt S k with e | e <;> omega
    by_cases hlt2 : k < n
    · have d1 := hR.cQ (i := k) (by rw [HN.out]; exact hlt2)
      have d2 := hR.cQ (i := lng S k) (by rw [HN.out]; exact hbl)
      have HLN := Lib.hid (show lng S (k + 1) = if (S.Q (lng S k)).length < (S.Q k).length then k else lng S k from rfl)
      clear hR
      generalize lng S k = bb at *
      generalize hq1 : (S.Q bb).length = q1 at *
      generalize hq2 : (S.Q k).length = q2 at *
      have HQ := Lib.hid (And.intro hq1 hq2)
      clear hq1 hq2
      by_cases hc : q1 < q2
      · have hln : lng S (k + 1) = k := by rw [HLN.out, if_pos hc]
        have HLN2 := Lib.hid hln
        clear hln
        go_wp2_with fail
        go_quiet (fail)
        go_wp2_with fail
        go_roundg (n + 2 - (k + 1))
        case measure => have := HK.out; omega
        case rel => exact ⟨k + 1, by rw [HLN2.out], by go_num, rfl, by omega, by omega, HR2.out.drewN _, below_drewN HB2.out _⟩
      · have hln : lng S (k + 1) = bb := by rw [HLN.out, if_neg hc]
        have HLN2 := Lib.hid hln
        clear hln
        go_wp2_with fail
        go_quiet (fail)
        go_wp2_with fail
        go_roundg (n + 2 - (k + 1))
        case measure => have := HK.out; omega
        case rel => exact ⟨k + 1, by rw [HLN2.out], by go_num, rfl, by omega, by omega, HR2.out.drewN _, below_drewN HB2.out _⟩

    · obtain rfl : k = n := by omega
      have d2 := hR.cQ (i := lng S k) (by rw [HN.out]; exact hbl)
      have hbq := HBB.out
      rw [hbq] at d2
      clear hR hbq
      generalize lng S k = bb at *
      go_wp2_with fail
      go_ret2
      first | exact ⟨by first | rfl | simp, HR2.out, HB2.out⟩ | exact ⟨rfl, HR2.out, HB2.out⟩
set_option maxRecDepth 100000 in
set_option maxHeartbeats 8000000 in
theorem rnext_steal (H : RR w a S) (h : Nat) (hlt : h < S.n) (h0 : S.R h = 0) (hq : S.Q h = []) (l : List Int) (t : Int) (hb : S.Q (lng S S.n) = l ++ [t]) (hlen : l.length ≤ 999) : Calls Try.prog 33 #[.pointer (some ⟨a.x, 0, none⟩), .int .i64 (h : Int)] w fun e w' => ∃ a', e = .returned (.tuple #[.int .i64 t, .bool true]) ∧ RR w' a' ((S.setQ (lng S S.n) l).setR h t) ∧ Mr S.n w a w' a' := by
  have HBB := Lib.hid hb
  clear hb
  have HI := Lib.hid (hart_yes H h hlt)
  have HR := Lib.hid H
  have c1 := H.cR hlt
  have c2 := H.cQ hlt
  have n8 := H.n8
  have n1 := H.n1
  have c0 := H.c0
  have hhn := Lib.hid hlt
  rw [h0] at c1
  rw [hq] at c2
  have hcq := H.le hlt
  clear H
  generalize hn : S.n = n at *
  have HN := Lib.hid hn
  clear hn h0 hq
  go_enter Try.func33, Try.ntmps33
  go_wp2_with fail
  refine HI.out.mono ?_
  rintro e w' ⟨rfl, rfl⟩
  go_wp2_with fail
  go_loopg [7, 8] (n + 1) (fun gk b_ k_ wr => ∃ k : Nat, b_ = .int .i64 ((lng S k : Nat) : Int) ∧ k_ = .int .i64 (k : Int) ∧ gk = n + 2 - k ∧ 1 ≤ k ∧ k ≤ n ∧ RR wr a S ∧ Below w.heap.size w wr)
  case atStart => exact ⟨1, by rw [lng_one]; rfl, rfl, by omega, by omega, by omega, HR.out, Below.refl _ _⟩
  case round =>
    obtain ⟨k, rfl, rfl, hgk, hk1, hk, hR, hB⟩ := hrel
    have HK := Lib.hid hgk
    have HR2 := Lib.hid hR
    have HB2 := Lib.hid hB
    clear hgk hB
    have c0 := hR.c0
    rw [HN.out] at c0
    have hbl : lng S k < n := by rcases lng_lt S k with e | e <;> omega
    by_cases hlt2 : k < n
    · have d1 := hR.cQ (i := k) (by rw [HN.out]; exact hlt2)
      have d2 := hR.cQ (i := lng S k) (by rw [HN.out]; exact hbl)
      have HLN := Lib.hid (show lng S (k + 1) = if (S.Q (lng S k)).length < (S.Q k).length then k else lng S k from rfl)
      clear hR
      generalize lng S k = bb at *
      generalize hq1 : (S.Q bb).length = q1 at *
      generalize hq2 : (S.Q k).length = q2 at *
      have HQ := Lib.hid (And.intro hq1 hq2)
      clear hq1 hq2
      by_cases hc : q1 < q2
      · have hln : lng S (k + 1) = k := by rw [HLN.out, if_pos hc]
        have HLN2 := Lib.hid hln
        clear hln
        go_wp2_with fail
        go_quiet (fail)
        go_wp2_with fail
        go_roundg (n + 2 - (k + 1))
        case measure => have := HK.out; omega
        case rel => exact ⟨k + 1, by rw [HLN2.out], by go_num, rfl, by omega, by omega, HR2.out.drewN _, below_drewN HB2.out _⟩
      · have hln : lng S (k + 1) = bb := by rw [HLN.out, if_neg hc]
        have HLN2 := Lib.hid hln
        clear hln
        go_wp2_with fail
        go_quiet (fail)
        go_wp2_with fail
        go_roundg (n + 2 - (k + 1))
        case measure => have := HK.out; omega
        case rel => exact ⟨k + 1, by rw [HLN2.out], by go_num, rfl, by omega, by omega, HR2.out.drewN _, below_drewN HB2.out _⟩

    · obtain rfl : k = n := by omega
      have hQl : (S.Q (lng S k)).length = l.length + 1 := by have := HBB.out; rw [this]; simp
      have d2 := hR.cQ (i := lng S k) (by rw [HN.out]; exact hbl)
      have hrow := hR.q (lng S k) (by rw [HN.out]; exact hbl)
      have hQQ := HBB.out
      rw [hQl] at d2 hrow
      obtain ⟨b, hbA⟩ := hrow.some_ (by omega)
      rw [hbA] at d2 hrow
      have hcc := hrow.le
      obtain ⟨P, hP⟩ := cput_ok hR.drew (h := h) (by rw [HN.out]; exact hlt) t
      have HP := Lib.hid hP
      have H5 := hP.fin.1
      have hQ5 : (S.setR h t).Q (lng S k) = l ++ [t] := hQQ
      have hrow5 := H5.drew.q (lng S k) (by show lng S k < S.n; rw [HN.out]; exact hbl)
      rw [hQ5, show (l ++ [t]).length = l.length + 1 by simp, hbA] at hrow5
      obtain ⟨W, A2, c2', hC⟩ := csteal_ok H5.drew (h := lng S k) (by show lng S k < S.n; rw [HN.out]; exact hbl) l (A' := some ⟨b, 0, none⟩) (c := a.c (lng S k)) (fun w' hb' => by
        have := (hrow5.below hb').take l.length (by omega)
        have := this.rd (fun u hu => iv_cells (l ++ [t]) u (List.mem_of_mem_take hu))
        simpa [iv] using this) (fun e => by cases e) (by omega)
      have hcut := cut_h (P := Try.prog) intT (some ⟨b, 0, none⟩) (l.length + 1) (a.c (lng S k)) l.length (by omega) hcc.2
      have hlast : (iv (l ++ [t]))[l.length]? = some (.int .i64 t) := by simp [iv]
      have hcl : ∀ u, RR u a S → u.cell? ⟨b, l.length, none⟩ = some (.int .i64 t) := fun u hu => by
        have := hu.q (lng S k) (by rw [HN.out]; exact hbl)
        rw [hQl, hbA, hQQ] at this
        rw [this.cell l.length (by omega)]; exact hlast
      have HCL := Lib.hid hcl
      have hm : Mr S.n w a (W 3) (a.setA (lng S k) A2 c2') := ((show Mr S.n w a wr a from ⟨Ch.of_below HB2.out, rfl, rfl, fun _ q => .inl q⟩).trans hP.fin.2.undrew).trans hC.fin.2.undrew
      rw [HN.out] at hm
      have HFIN := Lib.hid (show ∃ a', RR (W 3) a' ((S.setQ (lng S k) l).setR h t) ∧ Mr k w a (W 3) a' from ⟨_, hC.fin.1, hm⟩)
      clear hm
      have HC := Lib.hid hC
      have hd0 := hC.fin.1.c0
      have hd1 := hC.fin.1.cR (i := h) (by show h < S.n; rw [HN.out]; exact hlt)
      rw [show ((S.setR h t).setQ (lng S k) l).R h = t from if_pos rfl] at hd1
      have he0 := H5.c0
      have HHN := Lib.hid (show ∀ u, RR u a S → u.cell? ⟨a.x, 0, none⟩ = some (.slice (some ⟨a.hb, 0, none⟩) k k) from fun u hu => by have := hu.c0; rw [HN.out] at this; exact this)
      have HHN5 := Lib.hid (show ∀ u, RR u a (S.setR h t) → u.cell? ⟨a.x, 0, none⟩ = some (.slice (some ⟨a.hb, 0, none⟩) k k) from fun u hu => by have := hu.c0; rw [show (S.setR h t).n = k from HN.out] at this; exact this)
      change (W 3).cell? ⟨a.x, 0, none⟩ = some (.slice (some ⟨a.hb, 0, none⟩) S.n S.n) at hd0
      change (W 3).cell? ⟨a.hb, h * 2, none⟩ = some (.int .i64 t) at hd1
      rw [HN.out] at hd0
      clear hR hQl hrow hP H5 hQ5 hrow5 hC hQQ hlast he0 hcl hbA
      generalize a.c (lng S k) = c at *
      generalize hbb : lng S k = bb at *
      have HBE := Lib.hid hbb
      clear hbb
      have hx0 : ∀ s : Sub (chK P [13]) [] [13], s.val.cell? ⟨a.x, 0, none⟩ = some (.slice (some ⟨a.hb, 0, none⟩) k k) := chK_load (X := fun u => u.cell? ⟨a.x, 0, none⟩ = some (.slice (some ⟨a.hb, 0, none⟩) k k)) 0 13 rfl (fun j hj => HHN.out _ (HP.out.ld j hj)) (by simp)
      have hx2 : ∀ s : Sub (chK P [13]) [] [13], s.val.cell? ⟨b, l.length, none⟩ = some (.int .i64 t) := chK_load (X := fun u => u.cell? ⟨b, l.length, none⟩ = some (.int .i64 t)) 0 13 rfl (fun j hj => HCL.out _ (HP.out.ld j hj)) (by simp)
      haveI i1 := chK_ne P [13] [13]
      haveI i2 := chK_ne P [13] []
      generalize hw5 : P 1 = w5 at *
      have hy0 : ∀ s : Sub (chK W [5, 11, 14]) [] [14], s.val.cell? ⟨a.x, 0, none⟩ = some (.slice (some ⟨a.hb, 0, none⟩) k k) := chK_load (X := fun u => u.cell? ⟨a.x, 0, none⟩ = some (.slice (some ⟨a.hb, 0, none⟩) k k)) 2 14 rfl (fun j hj => HHN5.out _ (HC.out.ld j hj)) (by simp)
      haveI i3 := chK_ne W [5, 11, 14] [14]
      haveI i4 := chK_ne W [5, 11, 14] []
      have HW5 := Lib.hid hw5
      clear hw5
      go_wp2_with fail
      refine wp_drawX ?_ ?_
      · kernel_rfl
      refine wp_segsX (X := []) [(13, [], [13])] ([], []) (chK P [13]) ?_ ?_ ?_ ?_ ?_ ?_ ?_ ?_ ?_
      · kernel_rfl
      · kernel_rfl
      · kernel_rfl
      · kernel_rfl
      · kernel_rfl
      · kernel_rfl
      · exact chK_start HP.out.w0
      · exact fun jj hj D u hK => chK_out jj (by simp at hj ⊢; omega) D u hK
      · simp only [Segs, List.take_succ_cons, List.take_zero, List.drop_succ_cons, List.drop_zero, Nat.sub_zero, Nat.reduceSub, Nat.reduceAdd, List.drop_nil, List.take_nil]
        repeat (go_big_quiet_step (fail))
        refine wpQuiet_nil ?_
        refine ⟨undef, stepOK_skip (by kernel_rfl) (fun D u hb hb2 hi hK => chK_step 0 13 hb hb2 hi hK (by kernel_rfl) (run_skip_any (s := Instr.storeAt 3 (.pointer (some ⟨a.hb, h * 2, none⟩)) (.int .i64 t)) (by kernel_rfl) HP.out.s1)), ?_⟩
        (try go_frame)
        repeat (go_big_quiet_step (fail))
        refine wpQuiet_nil ?_
        intro u hK
        have hu := chK_end (D := _) (by decide) hK
        change u = P 1 at hu
        obtain rfl := hu
        rw [HW5.out]
        go_wp2_with fail
        refine wp_drawX ?_ ?_
        · kernel_rfl
        refine wp_segsX (X := []) [(5, [], [14]), (11, [], [14]), (14, [], [14])] ([], []) (chK W [5, 11, 14]) ?_ ?_ ?_ ?_ ?_ ?_ ?_ ?_ ?_
        · kernel_rfl
        · kernel_rfl
        · kernel_rfl
        · kernel_rfl
        · kernel_rfl
        · kernel_rfl
        · exact chK_start HC.out.w0
        · exact fun jj hj D u hK => chK_out jj (by simp at hj ⊢; omega) D u hK
        · simp only [Segs, List.take_succ_cons, List.take_zero, List.drop_succ_cons, List.drop_zero, Nat.sub_zero, Nat.reduceSub, Nat.reduceAdd, List.drop_nil, List.take_nil]
          repeat (go_big_quiet_step (fail))
          refine wpQuiet_nil ?_
          refine ⟨(.slice (some ⟨w5.drew.heap.size, 0, none⟩) 0 0), stepOK_run (by kernel_rfl) (fun D u hb hb2 hi hK => chK_step 0 5 hb hb2 hi hK (by kernel_rfl) (run_box_any (s := Instr.buildSlice 31 0 #[]) (by kernel_rfl) HC.out.r0)), ?_⟩
          (try go_frame)
          repeat (go_big_quiet_step (fail))
          refine wpQuiet_nil ?_
          refine ⟨(.slice A2 l.length c2'), stepOK_run (by kernel_rfl) (fun D u hb hb2 hi hK => chK_step 1 11 hb hb2 hi hK (by kernel_rfl) (run_box_any (s := Builtin.append_ #[31, 31] 31 #[.slice (some ⟨w5.drew.heap.size, 0, none⟩) 0 0, .slice (some ⟨b, 0, none⟩) l.length c]) (by kernel_rfl) HC.out.r1)), ?_⟩
          (try go_frame)
          repeat (go_big_quiet_step (fail))
          refine wpQuiet_nil ?_
          refine ⟨undef, stepOK_skip (by kernel_rfl) (fun D u hb hb2 hi hK => chK_step 2 14 hb hb2 hi hK (by kernel_rfl) (run_skip_any (s := Instr.storeAt 31 (.pointer (some ⟨a.hb, bb * 2 + 1, none⟩)) (.slice A2 l.length c2')) (by kernel_rfl) HC.out.s2)), ?_⟩
          (try go_frame)
          repeat (go_big_quiet_step (fail))
          refine wpQuiet_nil ?_
          intro u hK
          have hu := chK_end (D := _) (by decide) hK
          change u = W 3 at hu
          obtain rfl := hu
          obtain ⟨a', HA'⟩ := HFIN.out
          have HAA := Lib.hid HA'
          clear HA'
          go_wp2_with fail
          go_ret2
          have hbe := HBE.out
          subst hbe
          exact ⟨a', by first | rfl | simp, HAA.out.1, HAA.out.2⟩
end
end Go.Proofs.Ytphikmdgdbdaiaa
