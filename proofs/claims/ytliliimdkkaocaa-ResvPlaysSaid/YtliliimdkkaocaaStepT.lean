import Derived.Test.YtliliimdkkaocaaLooks
import Derived.Test.YtliliimdkkaocaaFree
/- step at Take: two calls whose order is drawn. -/
namespace Go.Proofs.Ytliliimdkkaocaa
open Go.RowKit Go.BigFrame
set_option linter.unusedVariables false
set_option linter.unusedSimpArgs false
attribute [local go_sem] szIs_lit row_at row_past row_alloc nf_alloc row_set nf_set row_cell nf_cell row_drew nf_drew row_drewN nf_drewN cell_setRow frozen_setRow nlt1 nlt2 nlt3 nlt4 nne1 nne2 nne3 nen1 nen2 nen3
def tkK (w0 : World) (g x q : Nat) (n live : Int) (L : List Seat) (R : Int × Int × List Seat) (y z : Int) (D : Nat → Bool) (w : World) : Prop :=
  ∃ A B c d, Duo w0 w g x A B c d n (if D 5 then R.2.1 else live) (if D 5 then R.2.2 else L) (if D 11 then R.2.1 else live) (if D 11 then R.2.2 else L) ∧ Blk w q #[.int .i64 2, .int .i64 y, .int .i64 z] ∧ ¬ foot g A q ∧ ¬ foot x B q
set_option maxRecDepth 100000 in
set_option maxHeartbeats 4000000 in
theorem step_take (w0 wr : World) (g x c d : Nat) (A B : Option Addr) (n live : Int) (L : List Seat) (h : Duo w0 wr g x A B c d n live L live L) (k y z : Int) (hk : k = 2) : Calls Try.prog 21 #[.pointer (some ⟨g, 0, none⟩), .pointer (some ⟨x, 0, none⟩), .agg #[.int .i64 k, .int .i64 y, .int .i64 z]] wr fun e w' => ∃ A' B' c' d' live' L', e = .returned (.bool true) ∧ Duo w0 w' g x A' B' c' d' n live' L' live' L' ∧ (Nd L → Nd L') := by
  have h1 := h.alloc (.cells #[.int .i64 k, .int .i64 y, .int .i64 z] 48)
  subst hk
  have hsz : ¬ wr.heap.size = g := by have := h.ga.blk.lt; omega
  have H0 := Lib.hid (show tkK w0 g x wr.heap.size n live L (tak live L y z) y z (fun _ => false) (wr.alloc (.cells #[.int .i64 2, .int .i64 y, .int .i64 z] 48)) from
    ⟨A, B, c, d, h1, Blk.of_heap (heap_alloc_new wr _), fun hq => by have := (h.ga.foot_lt hq).2; omega, fun hq => by have := (h.gx.foot_lt hq).2; omega⟩)
  clear h h1
  go_enter Try.func21, Try.ntmps21
  go_wp2_with fail
  have HND := Lib.hid (show Nd L → Nd (tak live L y z).2.2 from fun q => q.tak _ _ _)
  generalize hR : tak live L y z = R at *
  have HR := Lib.hid hR
  clear hR
  have HC : ∀ s : Sub (tkK w0 g x wr.heap.size n live L R y z), s.val.cell? ⟨wr.heap.size, 1, none⟩ = some (.int .i64 y) ∧ s.val.cell? ⟨wr.heap.size, 2, none⟩ = some (.int .i64 z) := fun s => by
    obtain ⟨w, D, A, B, c, d, _, hb, _⟩ := s
    exact ⟨(hb.all.2.2.1 1).trans rfl, (hb.all.2.2.1 2).trans rfl⟩
  have hc1 := fun s => (HC s).1
  have hc2 := fun s => (HC s).2
  clear HC
  refine wp_segs [5, 11] (tkK w0 g x wr.heap.size n live L R y z) ?_ ?_ ?_ ?_ ?_ ?_ ?_ ?_ ?_
  · kernel_rfl
  · kernel_rfl
  · kernel_rfl
  · kernel_rfl
  · kernel_rfl
  · kernel_rfl
  · obtain ⟨A, B, c, d, hD, hb, q1, q2⟩ := H0.out
    exact ⟨A, B, c, d, hD.drew, hb, q1, q2⟩
  · intro j hj D w hK
    have e5 : upd D j 5 = D 5 := by unfold upd; simp at hj; simp; omega
    have e11 : upd D j 11 = D 11 := by unfold upd; simp at hj; simp; omega
    unfold tkK at hK ⊢
    rw [e5, e11]; exact hK
  · intro inst
    simp only [Segs, List.take_succ_cons, List.take_zero, List.drop_succ_cons, List.drop_zero, Nat.sub_zero, Nat.reduceSub, Nat.reduceAdd, List.drop_nil, List.take_nil]
    repeat (go_big_quiet_step (fail))
    refine wpQuiet_nil ?_
    refine ⟨.int .i64 R.1, stepOK_call 18 _ _ rfl rfl (by kernel_rfl) #[.pointer (some ⟨g, 0, none⟩), .int .i64 y, .int .i64 z] (by kernel_rfl) ?_, ?_⟩
    · intro D w hb hi hK
      obtain ⟨A, B, c, d, hD, hb, q1, q2⟩ := hK
      have e5 : upd D 5 5 = true := by simp [upd]
      have e11 : upd D 5 11 = D 11 := by simp [upd]
      rw [hi, if_neg (by decide), if_neg (by decide)] at hD
      refine (take_ok _ _ _ _ _ _ _ _ hD.ga hD.wf hD.bl.size y z).mono ?_
      rintro e w2 ⟨A2, c2, rfl, hG, hF⟩
      refine ⟨by rw [HR.out], A2, B, c2, d, ?_, ?_⟩
      · rw [e5, e11, if_pos rfl, if_pos rfl]
        have := hD.left (hD.wf.tak y z) hG hF
        rw [HR.out] at this; exact this
      · exact ⟨(hb.frg hF q1).1, (hb.frg hF q1).2, q2⟩
    · simp only [Act.put, List.setIfInBounds_toArray, List.set_cons_succ, List.set_cons_zero]
      repeat (go_big_quiet_step (fail))
      refine wpQuiet_nil ?_
      refine ⟨.int .i64 R.1, stepOK_call 30 _ _ rfl rfl (by kernel_rfl) #[.pointer (some ⟨x, 0, none⟩), .int .i64 y, .int .i64 z] (by kernel_rfl) ?_, ?_⟩
      · intro D w hb hi hK
        obtain ⟨A, B, c, d, hD, hb2, q1, q2⟩ := hK
        have e5 : upd D 11 5 = D 5 := by simp [upd]
        have e11 : upd D 11 11 = true := by simp [upd]
        have h5 : D 5 = true := hb 5 (by decide) (by kernel_rfl)
        rw [hi, h5, if_pos rfl, if_pos rfl, if_neg (by decide), if_neg (by decide)] at hD
        refine (rtake_ok _ _ _ _ _ _ _ _ hD.gx hD.wf2 hD.bl.size y z).mono ?_
        rintro e w2 ⟨B2, d2, rfl, hG, hF⟩
        refine ⟨by rw [HR.out], A, B2, c, d2, ?_, ?_⟩
        · rw [e5, e11, h5, if_pos rfl, if_pos rfl]
          have := hD.right (hD.wf2.tak y z) hG hF
          rw [HR.out] at this; exact this
        · exact ⟨(hb2.frg hF q2).1, q1, (hb2.frg hF q2).2⟩
      · simp only [Act.put, List.setIfInBounds_toArray, List.set_cons_succ, List.set_cons_zero]
        repeat (go_big_quiet_step (fail))
        refine wpQuiet_nil ?_
        intro w' hK
        obtain ⟨A, B, c, d, hD, hb2, q1, q2⟩ := hK
        rw [if_pos (by kernel_rfl), if_pos (by kernel_rfl), if_pos (by kernel_rfl), if_pos (by kernel_rfl)] at hD
        have HD := Lib.hid hD
        clear hD hb2 q1 q2 hc1 hc2
        go_wp2
        go_ret
        exact ⟨A, B, c, d, R.2.1, R.2.2, by first | rfl | simp, HD.out, HND.out⟩
end Go.Proofs.Ytliliimdkkaocaa
