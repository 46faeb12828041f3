import Derived.Test.YtphikmdgdbdaiaaRefW
/- The reference: Put. -/
namespace Go.Proofs.Ytphikmdgdbdaiaa
open Go.RowKit Go.BigFrame
set_option linter.unusedVariables false
set_option linter.unusedSimpArgs false
attribute [local go_sem] szIs_lit row_at row_past row_alloc nf_alloc row_set nf_set row_cell nf_cell row_drew nf_drew row_drewN nf_drewN cell_setRow frozen_setRow nlt1 nlt2 nlt3 nlt4 nne1 nne2 nne3 nen1 nen2 nen3
section
variable {w : World} {a : RA} {S : QS}
theorem rput_arg (H : RR w a S) (i t : Int) (hh : ¬ inH S i ∨ t < 1) : Calls Try.prog 31 #[.pointer (some ⟨a.x, 0, none⟩), .int .i64 i, .int .i64 t] w fun e w' => e = .returned (.int .i64 1) ∧ w = w' := by
  by_cases hi : inH S i
  · have ht : t < 1 := by rcases hh with h | h; exact absurd hi h; exact h
    obtain ⟨h, rfl, hlt⟩ := inH_nat hi
    have HI := Lib.hid (hart_yes H h hlt)
    clear H hh hi
    go_enter Try.func31, Try.ntmps31
    go_wp2_with fail
    refine HI.out.mono ?_
    rintro e w' ⟨rfl, rfl⟩
    go_wp2_with fail
    go_ret
    exact ⟨by first | rfl | simp, rfl⟩
  · have HI := Lib.hid (hart_no H i hi)
    clear H hh hi
    go_enter Try.func31, Try.ntmps31
    go_wp2_with fail
    refine HI.out.mono ?_
    rintro e w' ⟨rfl, rfl⟩
    go_wp2_with fail
    go_ret
    exact ⟨by first | rfl | simp, rfl⟩
theorem rput_busy (H : RR w a S) (W : QW S) (h : Nat) (hlt : h < S.n) (t : Int) (ht : ¬ t < 1) (hw : (whereF S t).2 = true) : Calls Try.prog 31 #[.pointer (some ⟨a.x, 0, none⟩), .int .i64 (h : Int), .int .i64 t] w fun e w' => e = .returned (.int .i64 5) ∧ w = w' := by
  have HI := Lib.hid (hart_yes H h hlt)
  have hwh := rwhere_ok H W t
  rw [hw] at hwh
  have HWH := Lib.hid hwh
  clear H W hwh hw
  go_enter Try.func31, Try.ntmps31
  go_wp2_with fail
  refine HI.out.mono ?_
  rintro e w' ⟨rfl, rfl⟩
  go_wp2_with fail
  refine HWH.out.mono ?_
  rintro e w' ⟨rfl, rfl⟩
  go_wp2_with fail
  go_ret
  exact ⟨by first | rfl | simp, rfl⟩
theorem rput_full (H : RR w a S) (W : QW S) (h : Nat) (hlt : h < S.n) (t : Int) (ht : ¬ t < 1) (hw : (whereF S t).2 = false) (hf : 64 ≤ S.M.length) : Calls Try.prog 31 #[.pointer (some ⟨a.x, 0, none⟩), .int .i64 (h : Int), .int .i64 t] w fun e w' => e = .returned (.int .i64 2) ∧ w = w' := by
  have HI := Lib.hid (hart_yes H h hlt)
  have hwh := rwhere_ok H W t
  rw [hw] at hwh
  have HWH := Lib.hid hwh
  have HA := Lib.hid (all_len H W)
  clear H W hwh hw
  generalize S.M.length = m at *
  go_enter Try.func31, Try.ntmps31
  go_wp2_with fail
  refine HI.out.mono ?_
  rintro e w' ⟨rfl, rfl⟩
  go_wp2_with fail
  refine HWH.out.mono ?_
  rintro e w' ⟨rfl, rfl⟩
  go_wp2_with fail
  refine HA.out.mono ?_
  rintro e w' ⟨rfl, rfl⟩
  go_wp2_with fail
  go_ret
  exact ⟨by first | rfl | simp, rfl⟩
set_option maxRecDepth 100000 in
set_option maxHeartbeats 8000000 in
theorem rput_in (H : RR w a S) (W : QW S) (h : Nat) (hlt : h < S.n) (t : Int) (ht : ¬ t < 1) (hw : (whereF S t).2 = false) (hf : S.M.length < 64) : Calls Try.prog 31 #[.pointer (some ⟨a.x, 0, none⟩), .int .i64 (h : Int), .int .i64 t] w fun e w' => ∃ a', e = .returned (.int .i64 0) ∧ RR w' a' (S.setQ h (S.Q h ++ [t])) ∧ Mr S.n w a w' a' := by
  have HI := Lib.hid (hart_yes H h hlt)
  have hwh := rwhere_ok H W t
  rw [hw] at hwh
  have HWH := Lib.hid hwh
  have HA := Lib.hid (all_len H W)
  have hq := hs_le W h
  obtain ⟨W0, v0, e0, A10, c10, A20, c20, hc0⟩ := cpush_ok H.drew hlt t (by omega) 0 (by omega)
  obtain ⟨W1, v1, e1, A11, c11, A21, c21, hc1⟩ := cpush_ok H.drew hlt t (by omega) 1 (by omega)
  obtain ⟨W2, v2, e2, A12, c12, A22, c22, hc2⟩ := cpush_ok H.drew hlt t (by omega) 2 (by omega)
  have HC0 := Lib.hid hc0
  have HC1 := Lib.hid hc1
  have HC2 := Lib.hid hc2
  have hhn := Lib.hid hlt
  have hqc := H.le hlt
  have n8 := H.n8
  clear H W hwh hw hc0 hc1 hc2
  generalize S.M.length = m at *
  go_enter Try.func31, Try.ntmps31
  go_wp2_with fail
  refine HI.out.mono ?_
  rintro e w' ⟨rfl, rfl⟩
  go_wp2_with fail
  refine HWH.out.mono ?_
  rintro e w' ⟨rfl, rfl⟩
  go_wp2_with fail
  refine HA.out.mono ?_
  rintro e w' ⟨rfl, rfl⟩
  go_wp2_with fail
  refine wp_drawX ?_ ?_
  · kernel_rfl
  refine wpX_split 5 16 ?_ ?_ ?_
  · kernel_rfl
  · refine wpX_split 14 16 ?_ ?_ ?_
    · kernel_rfl
    · have hx0 : ∀ s : Sub (chK W0 [5, 14, 16, 17, 20]) [] [20], s.val.cell? ⟨a.x, 0, none⟩ = some (.slice (some ⟨a.hb, 0, none⟩) S.n S.n) := chK_load (X := fun u => u.cell? ⟨a.x, 0, none⟩ = some (.slice (some ⟨a.hb, 0, none⟩) S.n S.n)) 4 20 rfl (fun k hk => (HC0.out.ld k hk).c0) (by simp)
      have hx1 : ∀ s : Sub (chK W0 [5, 14, 16, 17, 20]) [] [20], s.val.cell? ⟨a.hb, h * 2 + 1, none⟩ = some (.slice (a.A h) (S.Q h).length (a.c h)) := chK_load (X := fun u => u.cell? ⟨a.hb, h * 2 + 1, none⟩ = some (.slice (a.A h) (S.Q h).length (a.c h))) 4 20 rfl (fun k hk => (HC0.out.ld k hk).cQ hhn.out) (by simp)
      have hx2 : ∀ s : Sub (chK W0 [5, 14, 16, 17, 20]) [] [20], s.val.cell? ⟨a.hb, h * 2, none⟩ = some (.int .i64 (S.R h)) := chK_load (X := fun u => u.cell? ⟨a.hb, h * 2, none⟩ = some (.int .i64 (S.R h))) 4 20 rfl (fun k hk => (HC0.out.ld k hk).cR hhn.out) (by simp)
      haveI i1 := chK_ne W0 [5, 14, 16, 17, 20] [20]
      haveI i2 := chK_ne W0 [5, 14, 16, 17, 20] []
      refine wp_segsX (X := [(16, 14), (16, 5)]) [(5, [], [20]), (14, [], [20]), (16, [], [20]), (17, [], [20]), (20, [], [20])] ([], []) (chK W0 [5, 14, 16, 17, 20]) ?_ ?_ ?_ ?_ ?_ ?_ ?_ ?_ ?_
      · kernel_rfl
      · kernel_rfl
      · kernel_rfl
      · kernel_rfl
      · kernel_rfl
      · kernel_rfl
      · exact chK_start HC0.out.w0
      · exact fun jj hj D u hK => chK_out jj (by simp at hj ⊢; omega) D u hK
      · simp only [Segs, List.take_succ_cons, List.take_zero, List.drop_succ_cons, List.drop_zero, Nat.sub_zero, Nat.reduceSub, Nat.reduceAdd, List.drop_nil, List.take_nil]
        repeat (go_big_quiet_step (fail))
        refine wpQuiet_nil ?_
        refine ⟨v0, stepOK_run (by kernel_rfl) (fun D u hb hb2 hi hK => chK_step 0 5 hb hb2 hi hK (by kernel_rfl) (run_box_any (s := Instr.buildSlice 31 0 #[]) (by kernel_rfl) HC0.out.r0)), ?_⟩
        (try go_frame)
        repeat (go_big_quiet_step (fail))
        refine wpQuiet_nil ?_
        refine ⟨(.slice A10 (S.Q h).length c10), stepOK_run (by kernel_rfl) (fun D u hb hb2 hi hK => chK_step 1 14 hb hb2 hi hK (by kernel_rfl) (run_box_any (s := Builtin.append_ #[31, 31] 31 #[v0, (.slice (a.A h) (S.Q h).length (a.c h))]) (by kernel_rfl) HC0.out.r1)), ?_⟩
        (try go_frame)
        repeat (go_big_quiet_step (fail))
        refine wpQuiet_nil ?_
        refine ⟨e0, stepOK_run (by kernel_rfl) (fun D u hb hb2 hi hK => chK_step 2 16 hb hb2 hi hK (by kernel_rfl) (run_box_any (s := Instr.buildSlice 31 1 #[(0, .int .i64 t)]) (by kernel_rfl) HC0.out.re)), ?_⟩
        (try go_frame)
        repeat (go_big_quiet_step (fail))
        refine wpQuiet_nil ?_
        refine ⟨(.slice A20 ((S.Q h).length + 1) c20), stepOK_run (by kernel_rfl) (fun D u hb hb2 hi hK => chK_step 3 17 hb hb2 hi hK (by kernel_rfl) (run_box_any (s := Builtin.append_ #[31, 31] 31 #[(.slice A10 (S.Q h).length c10), e0]) (by kernel_rfl) HC0.out.r2)), ?_⟩
        (try go_frame)
        repeat (go_big_quiet_step (fail))
        refine wpQuiet_nil ?_
        refine ⟨undef, stepOK_skip (by kernel_rfl) (fun D u hb hb2 hi hK => chK_step 4 20 hb hb2 hi hK (by kernel_rfl) (run_skip_any (s := Instr.storeAt 31 (.pointer (some ⟨a.hb, h * 2 + 1, none⟩)) (.slice A20 ((S.Q h).length + 1) c20)) (by kernel_rfl) HC0.out.st)), ?_⟩
        (try go_frame)
        repeat (go_big_quiet_step (fail))
        refine wpQuiet_nil ?_
        intro u hK
        have hu := chK_end (D := _) (by decide) hK
        change u = W0 5 at hu
        obtain rfl := hu
        go_wp2_with fail
        go_ret
        exact ⟨_, by first | rfl | simp, HC0.out.fin.1, HC0.out.fin.2.undrew⟩
    · have hx0 : ∀ s : Sub (chK W1 [5, 16, 14, 17, 20]) [] [20], s.val.cell? ⟨a.x, 0, none⟩ = some (.slice (some ⟨a.hb, 0, none⟩) S.n S.n) := chK_load (X := fun u => u.cell? ⟨a.x, 0, none⟩ = some (.slice (some ⟨a.hb, 0, none⟩) S.n S.n)) 4 20 rfl (fun k hk => (HC1.out.ld k hk).c0) (by simp)
      have hx1 : ∀ s : Sub (chK W1 [5, 16, 14, 17, 20]) [] [20], s.val.cell? ⟨a.hb, h * 2 + 1, none⟩ = some (.slice (a.A h) (S.Q h).length (a.c h)) := chK_load (X := fun u => u.cell? ⟨a.hb, h * 2 + 1, none⟩ = some (.slice (a.A h) (S.Q h).length (a.c h))) 4 20 rfl (fun k hk => (HC1.out.ld k hk).cQ hhn.out) (by simp)
      have hx2 : ∀ s : Sub (chK W1 [5, 16, 14, 17, 20]) [] [20], s.val.cell? ⟨a.hb, h * 2, none⟩ = some (.int .i64 (S.R h)) := chK_load (X := fun u => u.cell? ⟨a.hb, h * 2, none⟩ = some (.int .i64 (S.R h))) 4 20 rfl (fun k hk => (HC1.out.ld k hk).cR hhn.out) (by simp)
      haveI i1 := chK_ne W1 [5, 16, 14, 17, 20] [20]
      haveI i2 := chK_ne W1 [5, 16, 14, 17, 20] []
      refine wp_segsX (X := [(14, 16), (16, 5)]) [(5, [], [20]), (14, [], [20]), (16, [], [20]), (17, [], [20]), (20, [], [20])] ([], []) (chK W1 [5, 16, 14, 17, 20]) ?_ ?_ ?_ ?_ ?_ ?_ ?_ ?_ ?_
      · kernel_rfl
      · kernel_rfl
      · kernel_rfl
      · kernel_rfl
      · kernel_rfl
      · kernel_rfl
      · exact chK_start HC1.out.w0
      · exact fun jj hj D u hK => chK_out jj (by simp at hj ⊢; omega) D u hK
      · simp only [Segs, List.take_succ_cons, List.take_zero, List.drop_succ_cons, List.drop_zero, Nat.sub_zero, Nat.reduceSub, Nat.reduceAdd, List.drop_nil, List.take_nil]
        repeat (go_big_quiet_step (fail))
        refine wpQuiet_nil ?_
        refine ⟨v1, stepOK_run (by kernel_rfl) (fun D u hb hb2 hi hK => chK_step 0 5 hb hb2 hi hK (by kernel_rfl) (run_box_any (s := Instr.buildSlice 31 0 #[]) (by kernel_rfl) HC1.out.r0)), ?_⟩
        (try go_frame)
        repeat (go_big_quiet_step (fail))
        refine wpQuiet_nil ?_
        refine ⟨(.slice A11 (S.Q h).length c11), stepOK_run (by kernel_rfl) (fun D u hb hb2 hi hK => chK_step 2 14 hb hb2 hi hK (by kernel_rfl) (run_box_any (s := Builtin.append_ #[31, 31] 31 #[v1, (.slice (a.A h) (S.Q h).length (a.c h))]) (by kernel_rfl) HC1.out.r1)), ?_⟩
        (try go_frame)
        repeat (go_big_quiet_step (fail))
        refine wpQuiet_nil ?_
        refine ⟨e1, stepOK_run (by kernel_rfl) (fun D u hb hb2 hi hK => chK_step 1 16 hb hb2 hi hK (by kernel_rfl) (run_box_any (s := Instr.buildSlice 31 1 #[(0, .int .i64 t)]) (by kernel_rfl) HC1.out.re)), ?_⟩
        (try go_frame)
        repeat (go_big_quiet_step (fail))
        refine wpQuiet_nil ?_
        refine ⟨(.slice A21 ((S.Q h).length + 1) c21), stepOK_run (by kernel_rfl) (fun D u hb hb2 hi hK => chK_step 3 17 hb hb2 hi hK (by kernel_rfl) (run_box_any (s := Builtin.append_ #[31, 31] 31 #[(.slice A11 (S.Q h).length c11), e1]) (by kernel_rfl) HC1.out.r2)), ?_⟩
        (try go_frame)
        repeat (go_big_quiet_step (fail))
        refine wpQuiet_nil ?_
        refine ⟨undef, stepOK_skip (by kernel_rfl) (fun D u hb hb2 hi hK => chK_step 4 20 hb hb2 hi hK (by kernel_rfl) (run_skip_any (s := Instr.storeAt 31 (.pointer (some ⟨a.hb, h * 2 + 1, none⟩)) (.slice A21 ((S.Q h).length + 1) c21)) (by kernel_rfl) HC1.out.st)), ?_⟩
        (try go_frame)
        repeat (go_big_quiet_step (fail))
        refine wpQuiet_nil ?_
        intro u hK
        have hu := chK_end (D := _) (by decide) hK
        change u = W1 5 at hu
        obtain rfl := hu
        go_wp2_with fail
        go_ret
        exact ⟨_, by first | rfl | simp, HC1.out.fin.1, HC1.out.fin.2.undrew⟩
  · have hx0 : ∀ s : Sub (chK W2 [16, 5, 14, 17, 20]) [] [20], s.val.cell? ⟨a.x, 0, none⟩ = some (.slice (some ⟨a.hb, 0, none⟩) S.n S.n) := chK_load (X := fun u => u.cell? ⟨a.x, 0, none⟩ = some (.slice (some ⟨a.hb, 0, none⟩) S.n S.n)) 4 20 rfl (fun k hk => (HC2.out.ld k hk).c0) (by simp)
    have hx1 : ∀ s : Sub (chK W2 [16, 5, 14, 17, 20]) [] [20], s.val.cell? ⟨a.hb, h * 2 + 1, none⟩ = some (.slice (a.A h) (S.Q h).length (a.c h)) := chK_load (X := fun u => u.cell? ⟨a.hb, h * 2 + 1, none⟩ = some (.slice (a.A h) (S.Q h).length (a.c h))) 4 20 rfl (fun k hk => (HC2.out.ld k hk).cQ hhn.out) (by simp)
    have hx2 : ∀ s : Sub (chK W2 [16, 5, 14, 17, 20]) [] [20], s.val.cell? ⟨a.hb, h * 2, none⟩ = some (.int .i64 (S.R h)) := chK_load (X := fun u => u.cell? ⟨a.hb, h * 2, none⟩ = some (.int .i64 (S.R h))) 4 20 rfl (fun k hk => (HC2.out.ld k hk).cR hhn.out) (by simp)
    haveI i1 := chK_ne W2 [16, 5, 14, 17, 20] [20]
    haveI i2 := chK_ne W2 [16, 5, 14, 17, 20] []
    refine wp_segsX (X := [(5, 16)]) [(5, [], [20]), (14, [], [20]), (16, [], [20]), (17, [], [20]), (20, [], [20])] ([], []) (chK W2 [16, 5, 14, 17, 20]) ?_ ?_ ?_ ?_ ?_ ?_ ?_ ?_ ?_
    · kernel_rfl
    · kernel_rfl
    · kernel_rfl
    · kernel_rfl
    · kernel_rfl
    · kernel_rfl
    · exact chK_start HC2.out.w0
    · exact fun jj hj D u hK => chK_out jj (by simp at hj ⊢; omega) D u hK
    · simp only [Segs, List.take_succ_cons, List.take_zero, List.drop_succ_cons, List.drop_zero, Nat.sub_zero, Nat.reduceSub, Nat.reduceAdd, List.drop_nil, List.take_nil]
      repeat (go_big_quiet_step (fail))
      refine wpQuiet_nil ?_
      refine ⟨v2, stepOK_run (by kernel_rfl) (fun D u hb hb2 hi hK => chK_step 1 5 hb hb2 hi hK (by kernel_rfl) (run_box_any (s := Instr.buildSlice 31 0 #[]) (by kernel_rfl) HC2.out.r0)), ?_⟩
      (try go_frame)
      repeat (go_big_quiet_step (fail))
      refine wpQuiet_nil ?_
      refine ⟨(.slice A12 (S.Q h).length c12), stepOK_run (by kernel_rfl) (fun D u hb hb2 hi hK => chK_step 2 14 hb hb2 hi hK (by kernel_rfl) (run_box_any (s := Builtin.append_ #[31, 31] 31 #[v2, (.slice (a.A h) (S.Q h).length (a.c h))]) (by kernel_rfl) HC2.out.r1)), ?_⟩
      (try go_frame)
      repeat (go_big_quiet_step (fail))
      refine wpQuiet_nil ?_
      refine ⟨e2, stepOK_run (by kernel_rfl) (fun D u hb hb2 hi hK => chK_step 0 16 hb hb2 hi hK (by kernel_rfl) (run_box_any (s := Instr.buildSlice 31 1 #[(0, .int .i64 t)]) (by kernel_rfl) HC2.out.re)), ?_⟩
      (try go_frame)
      repeat (go_big_quiet_step (fail))
      refine wpQuiet_nil ?_
      refine ⟨(.slice A22 ((S.Q h).length + 1) c22), stepOK_run (by kernel_rfl) (fun D u hb hb2 hi hK => chK_step 3 17 hb hb2 hi hK (by kernel_rfl) (run_box_any (s := Builtin.append_ #[31, 31] 31 #[(.slice A12 (S.Q h).length c12), e2]) (by kernel_rfl) HC2.out.r2)), ?_⟩
      (try go_frame)
      repeat (go_big_quiet_step (fail))
      refine wpQuiet_nil ?_
      refine ⟨undef, stepOK_skip (by kernel_rfl) (fun D u hb hb2 hi hK => chK_step 4 20 hb hb2 hi hK (by kernel_rfl) (run_skip_any (s := Instr.storeAt 31 (.pointer (some ⟨a.hb, h * 2 + 1, none⟩)) (.slice A22 ((S.Q h).length + 1) c22)) (by kernel_rfl) HC2.out.st)), ?_⟩
      (try go_frame)
      repeat (go_big_quiet_step (fail))
      refine wpQuiet_nil ?_
      intro u hK
      have hu := chK_end (D := _) (by decide) hK
      change u = W2 5 at hu
      obtain rfl := hu
      go_wp2_with fail
      go_ret
      exact ⟨_, by first | rfl | simp, HC2.out.fin.1, HC2.out.fin.2.undrew⟩
end
end Go.Proofs.Ytphikmdgdbdaiaa
