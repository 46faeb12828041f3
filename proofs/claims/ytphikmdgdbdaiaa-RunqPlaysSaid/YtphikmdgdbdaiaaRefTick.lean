import Derived.Test.YtphikmdgdbdaiaaRefPut
/- The reference: Tick; Sleep. -/
namespace Go.Proofs.Ytphikmdgdbdaiaa
open Go.RowKit Go.BigFrame
set_option linter.unusedVariables false
set_option linter.unusedSimpArgs false
attribute [local go_sem] szIs_lit row_at row_past row_alloc nf_alloc row_set nf_set row_cell nf_cell row_drew nf_drew row_drewN nf_drewN cell_setRow frozen_setRow nlt1 nlt2 nlt3 nlt4 nne1 nne2 nne3 nen1 nen2 nen3
section
variable {w : World} {a : RA} {S : QS}
theorem rtick_out (H : RR w a S) (h : Int) (hh : ¬ inH S h) : Calls Try.prog 34 #[.pointer (some ⟨a.x, 0, none⟩), .int .i64 h] w fun e w' => e = .returned (.bool false) ∧ w = w' := by
  have HI := Lib.hid (hart_no H h hh)
  clear H hh
  go_enter Try.func34, Try.ntmps34
  go_wp2_with fail
  refine HI.out.mono ?_
  rintro e w' ⟨rfl, rfl⟩
  go_wp2_with fail
  go_ret
  exact ⟨by first | rfl | simp, rfl⟩
theorem rtick_idle (H : RR w a S) (h : Nat) (hh : h < S.n) (h0 : S.R h = 0) : Calls Try.prog 34 #[.pointer (some ⟨a.x, 0, none⟩), .int .i64 (h : Int)] w fun e w' => e = .returned (.bool false) ∧ w = w' := by
  have HI := Lib.hid (hart_yes H h hh)
  have c0 := H.c0
  have c1 := H.cR hh
  have n8 := H.n8
  rw [h0] at c1
  clear H h0
  go_enter Try.func34, Try.ntmps34
  go_wp2_with fail
  refine HI.out.mono ?_
  rintro e w' ⟨rfl, rfl⟩
  go_wp2_with fail
  go_ret
  exact ⟨by first | rfl | simp, rfl⟩
theorem rtick_alone (H : RR w a S) (h : Nat) (hh : h < S.n) (h0 : ¬ S.R h = 0) (hq : S.Q h = []) : Calls Try.prog 34 #[.pointer (some ⟨a.x, 0, none⟩), .int .i64 (h : Int)] w fun e w' => e = .returned (.bool false) ∧ w = w' := by
  have HI := Lib.hid (hart_yes H h hh)
  have c0 := H.c0
  have c1 := H.cR hh
  have c2 := H.cQ hh
  have n8 := H.n8
  rw [hq] at c2
  have k0 : (S.R h == 0) = false := by simpa using h0
  clear H h0 hq
  go_enter Try.func34, Try.ntmps34
  go_wp2_with fail
  refine HI.out.mono ?_
  rintro e w' ⟨rfl, rfl⟩
  go_wp2_with fail
  go_ret
  exact ⟨by first | rfl | simp, rfl⟩
set_option maxRecDepth 100000 in
set_option maxHeartbeats 8000000 in
theorem rtick_in (H : RR w a S) (h : Nat) (hlt : h < S.n) (h0 : ¬ S.R h = 0) (hq : 0 < (S.Q h).length) (hlen : (S.Q h).length ≤ 999) : Calls Try.prog 34 #[.pointer (some ⟨a.x, 0, none⟩), .int .i64 (h : Int)] w fun e w' => ∃ a', e = .returned (.bool true) ∧ RR w' a' ((S.setQ h (S.Q h ++ [S.R h])).setR h 0) ∧ Mr S.n w a w' a' := by
  have HI := Lib.hid (hart_yes H h hlt)
  have c0 := H.c0
  have c1 := H.cR hlt
  have c2 := H.cQ hlt
  have k0 : (S.R h == 0) = false := by simpa using h0
  have k1 : (((S.Q h).length : Int) == 0) = false := by
    have : ¬ ((S.Q h).length : Int) = 0 := by omega
    simpa using this
  obtain ⟨W0, v0, e0, A10, c10, A20, c20, hc0⟩ := cpush_ok H.drew hlt (S.R h) (by omega) 0 (by omega)
  obtain ⟨W1, v1, e1, A11, c11, A21, c21, hc1⟩ := cpush_ok H.drew hlt (S.R h) (by omega) 1 (by omega)
  obtain ⟨W2, v2, e2, A12, c12, A22, c22, hc2⟩ := cpush_ok H.drew hlt (S.R h) (by omega) 2 (by omega)
  have HC0 := Lib.hid hc0
  have HC1 := Lib.hid hc1
  have HC2 := Lib.hid hc2
  have hhn := Lib.hid hlt
  have hqc := H.le hlt
  have n8 := H.n8
  clear H hc0 hc1 hc2 h0
  go_enter Try.func34, Try.ntmps34
  go_wp2_with fail
  refine HI.out.mono ?_
  rintro e w' ⟨rfl, rfl⟩
  go_wp2_with fail
  refine wp_drawX ?_ ?_
  · kernel_rfl
  refine wpX_split 5 23 ?_ ?_ ?_
  · kernel_rfl
  · refine wpX_split 14 23 ?_ ?_ ?_
    · kernel_rfl
    · have hx0 : ∀ s : Sub (chK W0 [5, 14, 23, 24, 27]) [] [27], s.val.cell? ⟨a.x, 0, none⟩ = some (.slice (some ⟨a.hb, 0, none⟩) S.n S.n) := chK_load (X := fun u => u.cell? ⟨a.x, 0, none⟩ = some (.slice (some ⟨a.hb, 0, none⟩) S.n S.n)) 4 27 rfl (fun k hk => (HC0.out.ld k hk).c0) (by simp)
      have hx1 : ∀ s : Sub (chK W0 [5, 14, 23, 24, 27]) [] [27], s.val.cell? ⟨a.hb, h * 2 + 1, none⟩ = some (.slice (a.A h) (S.Q h).length (a.c h)) := chK_load (X := fun u => u.cell? ⟨a.hb, h * 2 + 1, none⟩ = some (.slice (a.A h) (S.Q h).length (a.c h))) 4 27 rfl (fun k hk => (HC0.out.ld k hk).cQ hhn.out) (by simp)
      have hx2 : ∀ s : Sub (chK W0 [5, 14, 23, 24, 27]) [] [27], s.val.cell? ⟨a.hb, h * 2, none⟩ = some (.int .i64 (S.R h)) := chK_load (X := fun u => u.cell? ⟨a.hb, h * 2, none⟩ = some (.int .i64 (S.R h))) 4 27 rfl (fun k hk => (HC0.out.ld k hk).cR hhn.out) (by simp)
      haveI i1 := chK_ne W0 [5, 14, 23, 24, 27] [27]
      haveI i2 := chK_ne W0 [5, 14, 23, 24, 27] []
      refine wp_segsX (X := [(23, 14), (23, 5)]) [(5, [], [27]), (14, [], [27]), (23, [], [27]), (24, [], [27]), (27, [], [27])] ([], []) (chK W0 [5, 14, 23, 24, 27]) ?_ ?_ ?_ ?_ ?_ ?_ ?_ ?_ ?_
      · kernel_rfl
      · kernel_rfl
      · kernel_rfl
      · kernel_rfl
      · kernel_rfl
      · kernel_rfl
      · exact chK_start HC0.out.w0
      · exact fun jj hj D u hK => chK_out jj (by simp at hj ⊢; omega) D u hK
      · simp only [Segs, List.take_succ_cons, List.take_zero, List.drop_succ_cons, List.drop_zero, Nat.sub_zero, Nat.reduceSub, Nat.reduceAdd, List.drop_nil, List.take_nil]
        repeat (go_big_quiet_step (fail))
        refine wpQuiet_nil ?_
        refine ⟨v0, stepOK_run (by kernel_rfl) (fun D u hb hb2 hi hK => chK_step 0 5 hb hb2 hi hK (by kernel_rfl) (run_box_any (s := Instr.buildSlice 31 0 #[]) (by kernel_rfl) HC0.out.r0)), ?_⟩
        (try go_frame)
        repeat (go_big_quiet_step (fail))
        refine wpQuiet_nil ?_
        refine ⟨(.slice A10 (S.Q h).length c10), stepOK_run (by kernel_rfl) (fun D u hb hb2 hi hK => chK_step 1 14 hb hb2 hi hK (by kernel_rfl) (run_box_any (s := Builtin.append_ #[31, 31] 31 #[v0, (.slice (a.A h) (S.Q h).length (a.c h))]) (by kernel_rfl) HC0.out.r1)), ?_⟩
        (try go_frame)
        repeat (go_big_quiet_step (fail))
        refine wpQuiet_nil ?_
        refine ⟨e0, stepOK_run (by kernel_rfl) (fun D u hb hb2 hi hK => chK_step 2 23 hb hb2 hi hK (by kernel_rfl) (run_box_any (s := Instr.buildSlice 31 1 #[(0, .int .i64 (S.R h))]) (by kernel_rfl) HC0.out.re)), ?_⟩
        (try go_frame)
        repeat (go_big_quiet_step (fail))
        refine wpQuiet_nil ?_
        refine ⟨(.slice A20 ((S.Q h).length + 1) c20), stepOK_run (by kernel_rfl) (fun D u hb hb2 hi hK => chK_step 3 24 hb hb2 hi hK (by kernel_rfl) (run_box_any (s := Builtin.append_ #[31, 31] 31 #[(.slice A10 (S.Q h).length c10), e0]) (by kernel_rfl) HC0.out.r2)), ?_⟩
        (try go_frame)
        repeat (go_big_quiet_step (fail))
        refine wpQuiet_nil ?_
        refine ⟨undef, stepOK_skip (by kernel_rfl) (fun D u hb hb2 hi hK => chK_step 4 27 hb hb2 hi hK (by kernel_rfl) (run_skip_any (s := Instr.storeAt 31 (.pointer (some ⟨a.hb, h * 2 + 1, none⟩)) (.slice A20 ((S.Q h).length + 1) c20)) (by kernel_rfl) HC0.out.st)), ?_⟩
        (try go_frame)
        repeat (go_big_quiet_step (fail))
        refine wpQuiet_nil ?_
        intro u hK
        have hu := chK_end (D := _) (by decide) hK
        change u = W0 5 at hu
        obtain rfl := hu
        have d0 := HC0.out.fin.1.c0
        have d1 := HC0.out.fin.1.cR (i := h) hhn.out
        have dz := HC0.out.fin.1.fro (h * 2)
        change (W0 5).cell? ⟨a.x, 0, none⟩ = some (.slice (some ⟨a.hb, 0, none⟩) S.n S.n) at d0
        change (W0 5).cell? ⟨a.hb, h * 2, none⟩ = some (.int .i64 (S.R h)) at d1
        change (W0 5).frozen? ⟨a.hb, h * 2, none⟩ = false at dz
        have HF := Lib.hid (HC0.out.fin.1.putR (h := h) hhn.out 0)
        go_wp2_with fail
        go_ret
        exact ⟨_, by first | rfl | simp, HF.out.1, HC0.out.fin.2.undrew.trans HF.out.2⟩
    · have hx0 : ∀ s : Sub (chK W1 [5, 23, 14, 24, 27]) [] [27], s.val.cell? ⟨a.x, 0, none⟩ = some (.slice (some ⟨a.hb, 0, none⟩) S.n S.n) := chK_load (X := fun u => u.cell? ⟨a.x, 0, none⟩ = some (.slice (some ⟨a.hb, 0, none⟩) S.n S.n)) 4 27 rfl (fun k hk => (HC1.out.ld k hk).c0) (by simp)
      have hx1 : ∀ s : Sub (chK W1 [5, 23, 14, 24, 27]) [] [27], s.val.cell? ⟨a.hb, h * 2 + 1, none⟩ = some (.slice (a.A h) (S.Q h).length (a.c h)) := chK_load (X := fun u => u.cell? ⟨a.hb, h * 2 + 1, none⟩ = some (.slice (a.A h) (S.Q h).length (a.c h))) 4 27 rfl (fun k hk => (HC1.out.ld k hk).cQ hhn.out) (by simp)
      have hx2 : ∀ s : Sub (chK W1 [5, 23, 14, 24, 27]) [] [27], s.val.cell? ⟨a.hb, h * 2, none⟩ = some (.int .i64 (S.R h)) := chK_load (X := fun u => u.cell? ⟨a.hb, h * 2, none⟩ = some (.int .i64 (S.R h))) 4 27 rfl (fun k hk => (HC1.out.ld k hk).cR hhn.out) (by simp)
      haveI i1 := chK_ne W1 [5, 23, 14, 24, 27] [27]
      haveI i2 := chK_ne W1 [5, 23, 14, 24, 27] []
      refine wp_segsX (X := [(14, 23), (23, 5)]) [(5, [], [27]), (14, [], [27]), (23, [], [27]), (24, [], [27]), (27, [], [27])] ([], []) (chK W1 [5, 23, 14, 24, 27]) ?_ ?_ ?_ ?_ ?_ ?_ ?_ ?_ ?_
      · kernel_rfl
      · kernel_rfl
      · kernel_rfl
      · kernel_rfl
      · kernel_rfl
      · kernel_rfl
      · exact chK_start HC1.out.w0
      · exact fun jj hj D u hK => chK_out jj (by simp at hj ⊢; omega) D u hK
      · simp only [Segs, List.take_succ_cons, List.take_zero, List.drop_succ_cons, List.drop_zero, Nat.sub_zero, Nat.reduceSub, Nat.reduceAdd, List.drop_nil, List.take_nil]
        repeat (go_big_quiet_step (fail))
        refine wpQuiet_nil ?_
        refine ⟨v1, stepOK_run (by kernel_rfl) (fun D u hb hb2 hi hK => chK_step 0 5 hb hb2 hi hK (by kernel_rfl) (run_box_any (s := Instr.buildSlice 31 0 #[]) (by kernel_rfl) HC1.out.r0)), ?_⟩
        (try go_frame)
        repeat (go_big_quiet_step (fail))
        refine wpQuiet_nil ?_
        refine ⟨(.slice A11 (S.Q h).length c11), stepOK_run (by kernel_rfl) (fun D u hb hb2 hi hK => chK_step 2 14 hb hb2 hi hK (by kernel_rfl) (run_box_any (s := Builtin.append_ #[31, 31] 31 #[v1, (.slice (a.A h) (S.Q h).length (a.c h))]) (by kernel_rfl) HC1.out.r1)), ?_⟩
        (try go_frame)
        repeat (go_big_quiet_step (fail))
        refine wpQuiet_nil ?_
        refine ⟨e1, stepOK_run (by kernel_rfl) (fun D u hb hb2 hi hK => chK_step 1 23 hb hb2 hi hK (by kernel_rfl) (run_box_any (s := Instr.buildSlice 31 1 #[(0, .int .i64 (S.R h))]) (by kernel_rfl) HC1.out.re)), ?_⟩
        (try go_frame)
        repeat (go_big_quiet_step (fail))
        refine wpQuiet_nil ?_
        refine ⟨(.slice A21 ((S.Q h).length + 1) c21), stepOK_run (by kernel_rfl) (fun D u hb hb2 hi hK => chK_step 3 24 hb hb2 hi hK (by kernel_rfl) (run_box_any (s := Builtin.append_ #[31, 31] 31 #[(.slice A11 (S.Q h).length c11), e1]) (by kernel_rfl) HC1.out.r2)), ?_⟩
        (try go_frame)
        repeat (go_big_quiet_step (fail))
        refine wpQuiet_nil ?_
        refine ⟨undef, stepOK_skip (by kernel_rfl) (fun D u hb hb2 hi hK => chK_step 4 27 hb hb2 hi hK (by kernel_rfl) (run_skip_any (s := Instr.storeAt 31 (.pointer (some ⟨a.hb, h * 2 + 1, none⟩)) (.slice A21 ((S.Q h).length + 1) c21)) (by kernel_rfl) HC1.out.st)), ?_⟩
        (try go_frame)
        repeat (go_big_quiet_step (fail))
        refine wpQuiet_nil ?_
        intro u hK
        have hu := chK_end (D := _) (by decide) hK
        change u = W1 5 at hu
        obtain rfl := hu
        have d0 := HC1.out.fin.1.c0
        have d1 := HC1.out.fin.1.cR (i := h) hhn.out
        have dz := HC1.out.fin.1.fro (h * 2)
        change (W1 5).cell? ⟨a.x, 0, none⟩ = some (.slice (some ⟨a.hb, 0, none⟩) S.n S.n) at d0
        change (W1 5).cell? ⟨a.hb, h * 2, none⟩ = some (.int .i64 (S.R h)) at d1
        change (W1 5).frozen? ⟨a.hb, h * 2, none⟩ = false at dz
        have HF := Lib.hid (HC1.out.fin.1.putR (h := h) hhn.out 0)
        go_wp2_with fail
        go_ret
        exact ⟨_, by first | rfl | simp, HF.out.1, HC1.out.fin.2.undrew.trans HF.out.2⟩
  · have hx0 : ∀ s : Sub (chK W2 [23, 5, 14, 24, 27]) [] [27], s.val.cell? ⟨a.x, 0, none⟩ = some (.slice (some ⟨a.hb, 0, none⟩) S.n S.n) := chK_load (X := fun u => u.cell? ⟨a.x, 0, none⟩ = some (.slice (some ⟨a.hb, 0, none⟩) S.n S.n)) 4 27 rfl (fun k hk => (HC2.out.ld k hk).c0) (by simp)
    have hx1 : ∀ s : Sub (chK W2 [23, 5, 14, 24, 27]) [] [27], s.val.cell? ⟨a.hb, h * 2 + 1, none⟩ = some (.slice (a.A h) (S.Q h).length (a.c h)) := chK_load (X := fun u => u.cell? ⟨a.hb, h * 2 + 1, none⟩ = some (.slice (a.A h) (S.Q h).length (a.c h))) 4 27 rfl (fun k hk => (HC2.out.ld k hk).cQ hhn.out) (by simp)
    have hx2 : ∀ s : Sub (chK W2 [23, 5, 14, 24, 27]) [] [27], s.val.cell? ⟨a.hb, h * 2, none⟩ = some (.int .i64 (S.R h)) := chK_load (X := fun u => u.cell? ⟨a.hb, h * 2, none⟩ = some (.int .i64 (S.R h))) 4 27 rfl (fun k hk => (HC2.out.ld k hk).cR hhn.out) (by simp)
    haveI i1 := chK_ne W2 [23, 5, 14, 24, 27] [27]
    haveI i2 := chK_ne W2 [23, 5, 14, 24, 27] []
    refine wp_segsX (X := [(5, 23)]) [(5, [], [27]), (14, [], [27]), (23, [], [27]), (24, [], [27]), (27, [], [27])] ([], []) (chK W2 [23, 5, 14, 24, 27]) ?_ ?_ ?_ ?_ ?_ ?_ ?_ ?_ ?_
    · kernel_rfl
    · kernel_rfl
    · kernel_rfl
    · kernel_rfl
    · kernel_rfl
    · kernel_rfl
    · exact chK_start HC2.out.w0
    · exact fun jj hj D u hK => chK_out jj (by simp at hj ⊢; omega) D u hK
    · simp only [Segs, List.take_succ_cons, List.take_zero, List.drop_succ_cons, List.drop_zero, Nat.sub_zero, Nat.reduceSub, Nat.reduceAdd, List.drop_nil, List.take_nil]
      repeat (go_big_quiet_step (fail))
      refine wpQuiet_nil ?_
      refine ⟨v2, stepOK_run (by kernel_rfl) (fun D u hb hb2 hi hK => chK_step 1 5 hb hb2 hi hK (by kernel_rfl) (run_box_any (s := Instr.buildSlice 31 0 #[]) (by kernel_rfl) HC2.out.r0)), ?_⟩
      (try go_frame)
      repeat (go_big_quiet_step (fail))
      refine wpQuiet_nil ?_
      refine ⟨(.slice A12 (S.Q h).length c12), stepOK_run (by kernel_rfl) (fun D u hb hb2 hi hK => chK_step 2 14 hb hb2 hi hK (by kernel_rfl) (run_box_any (s := Builtin.append_ #[31, 31] 31 #[v2, (.slice (a.A h) (S.Q h).length (a.c h))]) (by kernel_rfl) HC2.out.r1)), ?_⟩
      (try go_frame)
      repeat (go_big_quiet_step (fail))
      refine wpQuiet_nil ?_
      refine ⟨e2, stepOK_run (by kernel_rfl) (fun D u hb hb2 hi hK => chK_step 0 23 hb hb2 hi hK (by kernel_rfl) (run_box_any (s := Instr.buildSlice 31 1 #[(0, .int .i64 (S.R h))]) (by kernel_rfl) HC2.out.re)), ?_⟩
      (try go_frame)
      repeat (go_big_quiet_step (fail))
      refine wpQuiet_nil ?_
      refine ⟨(.slice A22 ((S.Q h).length + 1) c22), stepOK_run (by kernel_rfl) (fun D u hb hb2 hi hK => chK_step 3 24 hb hb2 hi hK (by kernel_rfl) (run_box_any (s := Builtin.append_ #[31, 31] 31 #[(.slice A12 (S.Q h).length c12), e2]) (by kernel_rfl) HC2.out.r2)), ?_⟩
      (try go_frame)
      repeat (go_big_quiet_step (fail))
      refine wpQuiet_nil ?_
      refine ⟨undef, stepOK_skip (by kernel_rfl) (fun D u hb hb2 hi hK => chK_step 4 27 hb hb2 hi hK (by kernel_rfl) (run_skip_any (s := Instr.storeAt 31 (.pointer (some ⟨a.hb, h * 2 + 1, none⟩)) (.slice A22 ((S.Q h).length + 1) c22)) (by kernel_rfl) HC2.out.st)), ?_⟩
      (try go_frame)
      repeat (go_big_quiet_step (fail))
      refine wpQuiet_nil ?_
      intro u hK
      have hu := chK_end (D := _) (by decide) hK
      change u = W2 5 at hu
      obtain rfl := hu
      have d0 := HC2.out.fin.1.c0
      have d1 := HC2.out.fin.1.cR (i := h) hhn.out
      have dz := HC2.out.fin.1.fro (h * 2)
      change (W2 5).cell? ⟨a.x, 0, none⟩ = some (.slice (some ⟨a.hb, 0, none⟩) S.n S.n) at d0
      change (W2 5).cell? ⟨a.hb, h * 2, none⟩ = some (.int .i64 (S.R h)) at d1
      change (W2 5).frozen? ⟨a.hb, h * 2, none⟩ = false at dz
      have HF := Lib.hid (HC2.out.fin.1.putR (h := h) hhn.out 0)
      go_wp2_with fail
      go_ret
      exact ⟨_, by first | rfl | simp, HF.out.1, HC2.out.fin.2.undrew.trans HF.out.2⟩
theorem rsleep_out (H : RR w a S) (h : Int) (hh : ¬ inH S h) : Calls Try.prog 35 #[.pointer (some ⟨a.x, 0, none⟩), .int .i64 h] w fun e w' => e = .returned (.tuple #[.int .i64 0, .int .i64 4]) ∧ w = w' := by
  have HI := Lib.hid (hart_no H h hh)
  clear H hh
  go_enter Try.func35, Try.ntmps35
  go_wp2_with fail
  refine HI.out.mono ?_
  rintro e w' ⟨rfl, rfl⟩
  go_wp2_with fail
  go_ret2
  exact ⟨by first | rfl | simp, rfl⟩
theorem rsleep_idle (H : RR w a S) (h : Nat) (hh : h < S.n) (h0 : S.R h = 0) : Calls Try.prog 35 #[.pointer (some ⟨a.x, 0, none⟩), .int .i64 (h : Int)] w fun e w' => e = .returned (.tuple #[.int .i64 0, .int .i64 4]) ∧ w = w' := by
  have HI := Lib.hid (hart_yes H h hh)
  have c0 := H.c0
  have c1 := H.cR hh
  have n8 := H.n8
  rw [h0] at c1
  clear H h0
  go_enter Try.func35, Try.ntmps35
  go_wp2_with fail
  refine HI.out.mono ?_
  rintro e w' ⟨rfl, rfl⟩
  go_wp2_with fail
  go_ret2
  exact ⟨by first | rfl | simp, rfl⟩
theorem rsleep_in (H : RR w a S) (h : Nat) (hh : h < S.n) (h0 : ¬ S.R h = 0) : Calls Try.prog 35 #[.pointer (some ⟨a.x, 0, none⟩), .int .i64 (h : Int)] w fun e w' => e = .returned (.tuple #[.int .i64 (S.R h), .int .i64 0]) ∧ RR w' a (S.setR h 0) ∧ Mr S.n w a w' a := by
  have HI := Lib.hid (hart_yes H h hh)
  have c0 := H.c0
  have c1 := H.cR hh
  have n8 := H.n8
  have z1 := H.fro (h * 2)
  have k0 : (S.R h == 0) = false := by simpa using h0
  have HF := Lib.hid (H.putR hh 0)
  clear H h0
  generalize S.R h = r at *
  go_enter Try.func35, Try.ntmps35
  go_wp2_with fail
  refine HI.out.mono ?_
  rintro e w' ⟨rfl, rfl⟩
  go_wp2_with fail
  go_ret2
  exact ⟨by first | rfl | simp, HF.out.1, HF.out.2⟩
end
end Go.Proofs.Ytphikmdgdbdaiaa
