import Derived.Test.YtphikmdgdbdaiaaBoth
/- A step: the same call of both. -/
namespace Go.Proofs.Ytphikmdgdbdaiaa
open Go.RowKit Go.BigFrame
set_option linter.unusedVariables false
set_option linter.unusedSimpArgs false
attribute [local go_sem] szIs_lit row_at row_past row_alloc nf_alloc row_set nf_set row_cell nf_cell row_drew nf_drew row_drewN nf_drewN cell_setRow frozen_setRow nlt1 nlt2 nlt3 nlt4 nne1 nne2 nne3 nen1 nen2 nen3
theorem Kp.cell {B : Nat → Prop} {w w' : World} (h : Kp B w w') {b i : Nat} (hb : B b) : w'.cell? ⟨b, i, none⟩ = w.cell? ⟨b, i, none⟩ := by
  have := h b hb
  simp [World.cell?, this]
/-- On the way through a region with two calls. -/
def stK (w0 : World) (g x ob : Nat) (S S' : QS) (y z : Int) (i j : Nat) (D : Nat → Bool) (w : World) : Prop :=
  DU (· = ob) w0 w g x (if D i then S' else S) (if D j then S' else S) ∧ w.cell? ⟨ob, 1, none⟩ = some (.int .i64 y) ∧ w.cell? ⟨ob, 2, none⟩ = some (.int .i64 z)
theorem stK.drew {w0 : World} {g x ob : Nat} {S S' : QS} {y z : Int} {i j : Nat} {D : Nat → Bool} {w : World} (h : stK w0 g x ob S S' y z i j D w) : stK w0 g x ob S S' y z i j D w.drew := ⟨h.1.drew, h.2.1, h.2.2⟩
theorem stK.out {w0 : World} {g x ob : Nat} {S S' : QS} {y z : Int} {i j : Nat} {D : Nat → Bool} {w : World} (h : stK w0 g x ob S S' y z i j D w) {k : Nat} (h1 : k ≠ i) (h2 : k ≠ j) : stK w0 g x ob S S' y z i j (upd D k) w := by
  have e1 : upd D k i = D i := by unfold upd; simp; omega
  have e2 : upd D k j = D j := by unfold upd; simp; omega
  unfold stK at h ⊢
  rw [e1, e2]; exact h
set_option maxRecDepth 100000 in
set_option maxHeartbeats 8000000 in
theorem step_put (w0 wr : World) (g x : Nat) (S : QS) (h : DU (fun _ => False) w0 wr g x S S) (k y z : Int) (hk : k = 1) : Calls Try.prog 21 #[.pointer (some ⟨g, 0, none⟩), .pointer (some ⟨x, 0, none⟩), .agg #[.int .i64 k, .int .i64 y, .int .i64 z]] wr fun e w' => e = .returned (.bool true) ∧ ∃ S', DU (fun _ => False) w0 w' g x S' S' := by
  have h1 : DU (· = wr.heap.size) w0 (wr.alloc (.cells #[.int .i64 k, .int .i64 y, .int .i64 z] 36)) g x S S := h.aside (N := 0) ((Below.refl _ _).alloc (Nat.le_refl _) _) (fun q hq => by rw [hq]; simp)
  subst hk
  have e1 : (wr.alloc (.cells #[.int .i64 1, .int .i64 y, .int .i64 z] 36)).cell? ⟨wr.heap.size, 1, none⟩ = some (.int .i64 y) := by simp [go_sem]
  have e2 : (wr.alloc (.cells #[.int .i64 1, .int .i64 y, .int .i64 z] 36)).cell? ⟨wr.heap.size, 2, none⟩ = some (.int .i64 z) := by simp [go_sem]
  have e0 : (wr.alloc (.cells #[.int .i64 1, .int .i64 y, .int .i64 z] 36)).cell? ⟨wr.heap.size, 0, none⟩ = some (.int .i64 1) := by simp [go_sem]
  obtain ⟨c, S', hF⟩ : ∃ c s, putF S y z = (c, s) := ⟨_, _, rfl⟩
  have HF := Lib.hid hF
  clear h hF
  generalize hv0 : wr.alloc (.cells #[.int .i64 1, .int .i64 y, .int .i64 z] 36) = v0 at *
  generalize hob : wr.heap.size = ob at *
  have HST := Lib.hid (show stK w0 g x ob S S' y z 5 11 (fun _ => false) v0 from ⟨by simpa using h1, e1, e2⟩)
  clear h1
  go_enter Try.func21, Try.ntmps21
  go_wp2_with fail
  clear hv0 hob
  have HC : ∀ {p q : List Nat} (s : Sub (stK w0 g x ob S S' y z 5 11) p q), s.val.cell? ⟨ob, 1, none⟩ = some (.int .i64 y) ∧ s.val.cell? ⟨ob, 2, none⟩ = some (.int .i64 z) := fun s => by
    obtain ⟨w, ⟨D, hK, _⟩⟩ := s
    exact ⟨hK.2.1, hK.2.2⟩
  have hc1 : ∀ s : Sub (stK w0 g x ob S S' y z 5 11) [] [], s.val.cell? ⟨ob, 1, none⟩ = some (.int .i64 y) := fun s => (HC s).1
  have hc2 : ∀ s : Sub (stK w0 g x ob S S' y z 5 11) [] [], s.val.cell? ⟨ob, 2, none⟩ = some (.int .i64 z) := fun s => (HC s).2
  clear HC
  haveI i1 : Nonempty (Sub (stK w0 g x ob S S' y z 5 11) [] []) := ⟨⟨v0, fun _ => false, HST.out, by simp, by simp⟩⟩
  refine wp_segs [(5, [], []), (11, [], [])] ([], []) (stK w0 g x ob S S' y z 5 11) ?_ ?_ ?_ ?_ ?_ ?_ ?_ ?_ ?_
  · kernel_rfl
  · kernel_rfl
  · kernel_rfl
  · kernel_rfl
  · kernel_rfl
  · kernel_rfl
  · exact HST.out.drew
  · exact fun jj hj D u hK => hK.out (by simp at hj; omega) (by simp at hj; omega)
  · simp only [Segs, List.take_succ_cons, List.take_zero, List.drop_succ_cons, List.drop_zero, Nat.sub_zero, Nat.reduceSub, Nat.reduceAdd, List.drop_nil, List.take_nil]
    repeat (go_big_quiet_step (fail))
    refine wpQuiet_nil ?_
    refine ⟨.int .i64 c, stepOK_call 11 _ _ (by kernel_rfl) rfl (by kernel_rfl) #[.pointer (some ⟨g, 0, none⟩), .int .i64 y, .int .i64 z] (by kernel_rfl) ?_, ?_⟩
    · intro D u hb hb2 hi hK
      obtain ⟨hD, q1, q2⟩ := hK
      have hp2 : D 11 = false := hb2 11 (by decide) (by kernel_rfl)
      rw [hi, hp2] at hD
      have hD : DU (· = ob) w0 u g x S S := by simpa using hD
      refine (putD hD y z).mono ?_
      rintro e w2 ⟨rfl, hD2, hk⟩
      have e1 : upd D 5 5 = true := by simp [upd]
      have e2 : upd D 5 11 = false := by simp [upd]; exact hb2 11 (by decide) (by kernel_rfl)
      refine ⟨by rw [HF.out], ?_, by rw [hk.cell rfl]; exact q1, by rw [hk.cell rfl]; exact q2⟩
      rw [e1, if_pos rfl, e2, if_neg (by decide)]
      rw [HF.out] at hD2; exact hD2
    · go_frame
      repeat (go_big_quiet_step (fail))
      refine wpQuiet_nil ?_
      refine ⟨.int .i64 c, stepOK_call 31 _ _ (by kernel_rfl) rfl (by kernel_rfl) #[.pointer (some ⟨x, 0, none⟩), .int .i64 y, .int .i64 z] (by kernel_rfl) ?_, ?_⟩
      · intro D u hb hb2 hi hK
        obtain ⟨hD, q1, q2⟩ := hK
        have hp1 : D 5 = true := hb 5 (by decide) (by kernel_rfl)
        rw [hi, hp1] at hD
        have hD : DU (· = ob) w0 u g x S' S := by simpa using hD
        refine (rputD hD y z (by rw [HF.out]; exact hD.qw)).mono ?_
        rintro e w2 ⟨rfl, hD2, hk⟩
        have e1 : upd D 11 5 = true := by simp [upd]; exact hb 5 (by decide) (by kernel_rfl)
        have e2 : upd D 11 11 = true := by simp [upd]
        refine ⟨by rw [HF.out], ?_, by rw [hk.cell rfl]; exact q1, by rw [hk.cell rfl]; exact q2⟩
        rw [e1, if_pos rfl, e2, if_pos rfl]
        rw [HF.out] at hD2; exact hD2
      · go_frame
        repeat (go_big_quiet_step (fail))
        refine wpQuiet_nil ?_
        intro u hK
        have HFIN := Lib.hid (show DU (· = ob) w0 u g x S' S' from by have := hK.1; simpa using this)
        clear hK
        go_wp2_with fail
        go_ret
        first | exact ⟨by first | rfl | simp, S', HFIN.out.weak fun _ h => h.elim⟩ | exact ⟨S', by first | rfl | simp, HFIN.out.weak fun _ h => h.elim⟩
set_option maxRecDepth 100000 in
set_option maxHeartbeats 8000000 in
theorem step_tick (w0 wr : World) (g x : Nat) (S : QS) (h : DU (fun _ => False) w0 wr g x S S) (k y z : Int) (hk : k = 4) : Calls Try.prog 21 #[.pointer (some ⟨g, 0, none⟩), .pointer (some ⟨x, 0, none⟩), .agg #[.int .i64 k, .int .i64 y, .int .i64 z]] wr fun e w' => e = .returned (.bool true) ∧ ∃ S', DU (fun _ => False) w0 w' g x S' S' := by
  have h1 : DU (· = wr.heap.size) w0 (wr.alloc (.cells #[.int .i64 k, .int .i64 y, .int .i64 z] 36)) g x S S := h.aside (N := 0) ((Below.refl _ _).alloc (Nat.le_refl _) _) (fun q hq => by rw [hq]; simp)
  subst hk
  have e1 : (wr.alloc (.cells #[.int .i64 4, .int .i64 y, .int .i64 z] 36)).cell? ⟨wr.heap.size, 1, none⟩ = some (.int .i64 y) := by simp [go_sem]
  have e2 : (wr.alloc (.cells #[.int .i64 4, .int .i64 y, .int .i64 z] 36)).cell? ⟨wr.heap.size, 2, none⟩ = some (.int .i64 z) := by simp [go_sem]
  have e0 : (wr.alloc (.cells #[.int .i64 4, .int .i64 y, .int .i64 z] 36)).cell? ⟨wr.heap.size, 0, none⟩ = some (.int .i64 4) := by simp [go_sem]
  obtain ⟨c, S', hF⟩ : ∃ c s, tickF S y = (c, s) := ⟨_, _, rfl⟩
  have HF := Lib.hid hF
  clear h hF
  generalize hv0 : wr.alloc (.cells #[.int .i64 4, .int .i64 y, .int .i64 z] 36) = v0 at *
  generalize hob : wr.heap.size = ob at *
  have HST := Lib.hid (show stK w0 g x ob S S' y z 3 7 (fun _ => false) v0 from ⟨by simpa using h1, e1, e2⟩)
  clear h1
  go_enter Try.func21, Try.ntmps21
  go_wp2_with fail
  clear hv0 hob
  have HC : ∀ {p q : List Nat} (s : Sub (stK w0 g x ob S S' y z 3 7) p q), s.val.cell? ⟨ob, 1, none⟩ = some (.int .i64 y) ∧ s.val.cell? ⟨ob, 2, none⟩ = some (.int .i64 z) := fun s => by
    obtain ⟨w, ⟨D, hK, _⟩⟩ := s
    exact ⟨hK.2.1, hK.2.2⟩
  have hc1 : ∀ s : Sub (stK w0 g x ob S S' y z 3 7) [] [], s.val.cell? ⟨ob, 1, none⟩ = some (.int .i64 y) := fun s => (HC s).1
  have hc2 : ∀ s : Sub (stK w0 g x ob S S' y z 3 7) [] [], s.val.cell? ⟨ob, 2, none⟩ = some (.int .i64 z) := fun s => (HC s).2
  clear HC
  haveI i1 : Nonempty (Sub (stK w0 g x ob S S' y z 3 7) [] []) := ⟨⟨v0, fun _ => false, HST.out, by simp, by simp⟩⟩
  refine wp_segs [(3, [], []), (7, [], [])] ([], []) (stK w0 g x ob S S' y z 3 7) ?_ ?_ ?_ ?_ ?_ ?_ ?_ ?_ ?_
  · kernel_rfl
  · kernel_rfl
  · kernel_rfl
  · kernel_rfl
  · kernel_rfl
  · kernel_rfl
  · exact HST.out.drew
  · exact fun jj hj D u hK => hK.out (by simp at hj; omega) (by simp at hj; omega)
  · simp only [Segs, List.take_succ_cons, List.take_zero, List.drop_succ_cons, List.drop_zero, Nat.sub_zero, Nat.reduceSub, Nat.reduceAdd, List.drop_nil, List.take_nil]
    repeat (go_big_quiet_step (fail))
    refine wpQuiet_nil ?_
    refine ⟨.bool c, stepOK_call 13 _ _ (by kernel_rfl) rfl (by kernel_rfl) #[.pointer (some ⟨g, 0, none⟩), .int .i64 y] (by kernel_rfl) ?_, ?_⟩
    · intro D u hb hb2 hi hK
      obtain ⟨hD, q1, q2⟩ := hK
      have hp2 : D 7 = false := hb2 7 (by decide) (by kernel_rfl)
      rw [hi, hp2] at hD
      have hD : DU (· = ob) w0 u g x S S := by simpa using hD
      refine (tickD hD y).mono ?_
      rintro e w2 ⟨rfl, hD2, hk⟩
      have e1 : upd D 3 3 = true := by simp [upd]
      have e2 : upd D 3 7 = false := by simp [upd]; exact hb2 7 (by decide) (by kernel_rfl)
      refine ⟨by rw [HF.out], ?_, by rw [hk.cell rfl]; exact q1, by rw [hk.cell rfl]; exact q2⟩
      rw [e1, if_pos rfl, e2, if_neg (by decide)]
      rw [HF.out] at hD2; exact hD2
    · go_frame
      repeat (go_big_quiet_step (fail))
      refine wpQuiet_nil ?_
      refine ⟨.bool c, stepOK_call 34 _ _ (by kernel_rfl) rfl (by kernel_rfl) #[.pointer (some ⟨x, 0, none⟩), .int .i64 y] (by kernel_rfl) ?_, ?_⟩
      · intro D u hb hb2 hi hK
        obtain ⟨hD, q1, q2⟩ := hK
        have hp1 : D 3 = true := hb 3 (by decide) (by kernel_rfl)
        rw [hi, hp1] at hD
        have hD : DU (· = ob) w0 u g x S' S := by simpa using hD
        refine (rtickD hD y (by rw [HF.out]; exact hD.qw)).mono ?_
        rintro e w2 ⟨rfl, hD2, hk⟩
        have e1 : upd D 7 3 = true := by simp [upd]; exact hb 3 (by decide) (by kernel_rfl)
        have e2 : upd D 7 7 = true := by simp [upd]
        refine ⟨by rw [HF.out], ?_, by rw [hk.cell rfl]; exact q1, by rw [hk.cell rfl]; exact q2⟩
        rw [e1, if_pos rfl, e2, if_pos rfl]
        rw [HF.out] at hD2; exact hD2
      · go_frame
        repeat (go_big_quiet_step (fail))
        refine wpQuiet_nil ?_
        intro u hK
        have HFIN := Lib.hid (show DU (· = ob) w0 u g x S' S' from by have := hK.1; simpa using this)
        clear hK
        go_wp2_with fail
        go_ret
        first | exact ⟨by first | rfl | simp, S', HFIN.out.weak fun _ h => h.elim⟩ | exact ⟨S', by first | rfl | simp, HFIN.out.weak fun _ h => h.elim⟩
set_option maxRecDepth 100000 in
set_option maxHeartbeats 8000000 in
theorem step_remove (w0 wr : World) (g x : Nat) (S : QS) (h : DU (fun _ => False) w0 wr g x S S) (k y z : Int) (hk : k = 6) : Calls Try.prog 21 #[.pointer (some ⟨g, 0, none⟩), .pointer (some ⟨x, 0, none⟩), .agg #[.int .i64 k, .int .i64 y, .int .i64 z]] wr fun e w' => e = .returned (.bool true) ∧ ∃ S', DU (fun _ => False) w0 w' g x S' S' := by
  have h1 : DU (· = wr.heap.size) w0 (wr.alloc (.cells #[.int .i64 k, .int .i64 y, .int .i64 z] 36)) g x S S := h.aside (N := 0) ((Below.refl _ _).alloc (Nat.le_refl _) _) (fun q hq => by rw [hq]; simp)
  subst hk
  have e1 : (wr.alloc (.cells #[.int .i64 6, .int .i64 y, .int .i64 z] 36)).cell? ⟨wr.heap.size, 1, none⟩ = some (.int .i64 y) := by simp [go_sem]
  have e2 : (wr.alloc (.cells #[.int .i64 6, .int .i64 y, .int .i64 z] 36)).cell? ⟨wr.heap.size, 2, none⟩ = some (.int .i64 z) := by simp [go_sem]
  have e0 : (wr.alloc (.cells #[.int .i64 6, .int .i64 y, .int .i64 z] 36)).cell? ⟨wr.heap.size, 0, none⟩ = some (.int .i64 6) := by simp [go_sem]
  obtain ⟨c, S', hF⟩ : ∃ c s, removeF S z = (c, s) := ⟨_, _, rfl⟩
  have HF := Lib.hid hF
  clear h hF
  generalize hv0 : wr.alloc (.cells #[.int .i64 6, .int .i64 y, .int .i64 z] 36) = v0 at *
  generalize hob : wr.heap.size = ob at *
  have HST := Lib.hid (show stK w0 g x ob S S' y z 3 7 (fun _ => false) v0 from ⟨by simpa using h1, e1, e2⟩)
  clear h1
  go_enter Try.func21, Try.ntmps21
  go_wp2_with fail
  clear hv0 hob
  have HC : ∀ {p q : List Nat} (s : Sub (stK w0 g x ob S S' y z 3 7) p q), s.val.cell? ⟨ob, 1, none⟩ = some (.int .i64 y) ∧ s.val.cell? ⟨ob, 2, none⟩ = some (.int .i64 z) := fun s => by
    obtain ⟨w, ⟨D, hK, _⟩⟩ := s
    exact ⟨hK.2.1, hK.2.2⟩
  have hc1 : ∀ s : Sub (stK w0 g x ob S S' y z 3 7) [] [], s.val.cell? ⟨ob, 1, none⟩ = some (.int .i64 y) := fun s => (HC s).1
  have hc2 : ∀ s : Sub (stK w0 g x ob S S' y z 3 7) [] [], s.val.cell? ⟨ob, 2, none⟩ = some (.int .i64 z) := fun s => (HC s).2
  clear HC
  haveI i1 : Nonempty (Sub (stK w0 g x ob S S' y z 3 7) [] []) := ⟨⟨v0, fun _ => false, HST.out, by simp, by simp⟩⟩
  refine wp_segs [(3, [], []), (7, [], [])] ([], []) (stK w0 g x ob S S' y z 3 7) ?_ ?_ ?_ ?_ ?_ ?_ ?_ ?_ ?_
  · kernel_rfl
  · kernel_rfl
  · kernel_rfl
  · kernel_rfl
  · kernel_rfl
  · kernel_rfl
  · exact HST.out.drew
  · exact fun jj hj D u hK => hK.out (by simp at hj; omega) (by simp at hj; omega)
  · simp only [Segs, List.take_succ_cons, List.take_zero, List.drop_succ_cons, List.drop_zero, Nat.sub_zero, Nat.reduceSub, Nat.reduceAdd, List.drop_nil, List.take_nil]
    repeat (go_big_quiet_step (fail))
    refine wpQuiet_nil ?_
    refine ⟨.bool c, stepOK_call 19 _ _ (by kernel_rfl) rfl (by kernel_rfl) #[.pointer (some ⟨g, 0, none⟩), .int .i64 z] (by kernel_rfl) ?_, ?_⟩
    · intro D u hb hb2 hi hK
      obtain ⟨hD, q1, q2⟩ := hK
      have hp2 : D 7 = false := hb2 7 (by decide) (by kernel_rfl)
      rw [hi, hp2] at hD
      have hD : DU (· = ob) w0 u g x S S := by simpa using hD
      refine (removeD hD z).mono ?_
      rintro e w2 ⟨rfl, hD2, hk⟩
      have e1 : upd D 3 3 = true := by simp [upd]
      have e2 : upd D 3 7 = false := by simp [upd]; exact hb2 7 (by decide) (by kernel_rfl)
      refine ⟨by rw [HF.out], ?_, by rw [hk.cell rfl]; exact q1, by rw [hk.cell rfl]; exact q2⟩
      rw [e1, if_pos rfl, e2, if_neg (by decide)]
      rw [HF.out] at hD2; exact hD2
    · go_frame
      repeat (go_big_quiet_step (fail))
      refine wpQuiet_nil ?_
      refine ⟨.bool c, stepOK_call 36 _ _ (by kernel_rfl) rfl (by kernel_rfl) #[.pointer (some ⟨x, 0, none⟩), .int .i64 z] (by kernel_rfl) ?_, ?_⟩
      · intro D u hb hb2 hi hK
        obtain ⟨hD, q1, q2⟩ := hK
        have hp1 : D 3 = true := hb 3 (by decide) (by kernel_rfl)
        rw [hi, hp1] at hD
        have hD : DU (· = ob) w0 u g x S' S := by simpa using hD
        refine (rremoveD hD z (by rw [HF.out]; exact hD.qw)).mono ?_
        rintro e w2 ⟨rfl, hD2, hk⟩
        have e1 : upd D 7 3 = true := by simp [upd]; exact hb 3 (by decide) (by kernel_rfl)
        have e2 : upd D 7 7 = true := by simp [upd]
        refine ⟨by rw [HF.out], ?_, by rw [hk.cell rfl]; exact q1, by rw [hk.cell rfl]; exact q2⟩
        rw [e1, if_pos rfl, e2, if_pos rfl]
        rw [HF.out] at hD2; exact hD2
      · go_frame
        repeat (go_big_quiet_step (fail))
        refine wpQuiet_nil ?_
        intro u hK
        have HFIN := Lib.hid (show DU (· = ob) w0 u g x S' S' from by have := hK.1; simpa using this)
        clear hK
        go_wp2_with fail
        go_ret
        first | exact ⟨by first | rfl | simp, S', HFIN.out.weak fun _ h => h.elim⟩ | exact ⟨S', by first | rfl | simp, HFIN.out.weak fun _ h => h.elim⟩
set_option maxRecDepth 100000 in
set_option maxHeartbeats 8000000 in
theorem step_wake (w0 wr : World) (g x : Nat) (S : QS) (h : DU (fun _ => False) w0 wr g x S S) (k y z : Int) (hk : k = 2) : Calls Try.prog 21 #[.pointer (some ⟨g, 0, none⟩), .pointer (some ⟨x, 0, none⟩), .agg #[.int .i64 k, .int .i64 y, .int .i64 z]] wr fun e w' => e = .returned (.bool true) ∧ ∃ S', DU (fun _ => False) w0 w' g x S' S' := by
  have h1 : DU (· = wr.heap.size) w0 (wr.alloc (.cells #[.int .i64 k, .int .i64 y, .int .i64 z] 36)) g x S S := h.aside (N := 0) ((Below.refl _ _).alloc (Nat.le_refl _) _) (fun q hq => by rw [hq]; simp)
  subst hk
  have e1 : (wr.alloc (.cells #[.int .i64 2, .int .i64 y, .int .i64 z] 36)).cell? ⟨wr.heap.size, 1, none⟩ = some (.int .i64 y) := by simp [go_sem]
  have e2 : (wr.alloc (.cells #[.int .i64 2, .int .i64 y, .int .i64 z] 36)).cell? ⟨wr.heap.size, 2, none⟩ = some (.int .i64 z) := by simp [go_sem]
  have e0 : (wr.alloc (.cells #[.int .i64 2, .int .i64 y, .int .i64 z] 36)).cell? ⟨wr.heap.size, 0, none⟩ = some (.int .i64 2) := by simp [go_sem]
  obtain ⟨c1, c2, S', hF⟩ : ∃ c1 c2 s, wakeF S z = ((c1, c2), s) := ⟨_, _, _, rfl⟩
  have HF := Lib.hid hF
  clear h hF
  generalize hv0 : wr.alloc (.cells #[.int .i64 2, .int .i64 y, .int .i64 z] 36) = v0 at *
  generalize hob : wr.heap.size = ob at *
  have HD := Lib.hid h1
  clear h1
  go_enter Try.func21, Try.ntmps21
  go_wp2_with fail
  clear hv0 hob
  refine (wakeD HD.out z).mono ?_
  rintro e w2 ⟨rfl, hD2, hk2⟩
  rw [HF.out] at hD2 ⊢
  have f0 : w2.cell? ⟨ob, 0, none⟩ = some (.int .i64 2) := by rw [hk2.cell rfl]; exact e0
  have f1 : w2.cell? ⟨ob, 1, none⟩ = some (.int .i64 y) := by rw [hk2.cell rfl]; exact e1
  have f2 : w2.cell? ⟨ob, 2, none⟩ = some (.int .i64 z) := by rw [hk2.cell rfl]; exact e2
  have HD2 := Lib.hid hD2
  clear hD2 hk2
  go_wp2_with fail
  refine (rwakeD HD2.out z (by rw [HF.out]; exact HD2.out.qw)).mono ?_
  rintro e w3 ⟨rfl, hD3, hk3⟩
  rw [HF.out] at hD3 ⊢
  have HD3 := Lib.hid hD3
  clear hD3 hk3
  go_wp2_with fail
  go_ret
  first | exact ⟨by first | rfl | simp, S', HD3.out.weak fun _ h => h.elim⟩ | exact ⟨S', by first | rfl | simp, HD3.out.weak fun _ h => h.elim⟩
set_option maxRecDepth 100000 in
set_option maxHeartbeats 8000000 in
theorem step_next (w0 wr : World) (g x : Nat) (S : QS) (h : DU (fun _ => False) w0 wr g x S S) (k y z : Int) (hk : k = 3) : Calls Try.prog 21 #[.pointer (some ⟨g, 0, none⟩), .pointer (some ⟨x, 0, none⟩), .agg #[.int .i64 k, .int .i64 y, .int .i64 z]] wr fun e w' => e = .returned (.bool true) ∧ ∃ S', DU (fun _ => False) w0 w' g x S' S' := by
  have h1 : DU (· = wr.heap.size) w0 (wr.alloc (.cells #[.int .i64 k, .int .i64 y, .int .i64 z] 36)) g x S S := h.aside (N := 0) ((Below.refl _ _).alloc (Nat.le_refl _) _) (fun q hq => by rw [hq]; simp)
  subst hk
  have e1 : (wr.alloc (.cells #[.int .i64 3, .int .i64 y, .int .i64 z] 36)).cell? ⟨wr.heap.size, 1, none⟩ = some (.int .i64 y) := by simp [go_sem]
  have e2 : (wr.alloc (.cells #[.int .i64 3, .int .i64 y, .int .i64 z] 36)).cell? ⟨wr.heap.size, 2, none⟩ = some (.int .i64 z) := by simp [go_sem]
  have e0 : (wr.alloc (.cells #[.int .i64 3, .int .i64 y, .int .i64 z] 36)).cell? ⟨wr.heap.size, 0, none⟩ = some (.int .i64 3) := by simp [go_sem]
  obtain ⟨c1, c2, S', hF⟩ : ∃ c1 c2 s, nextF S y = ((c1, c2), s) := ⟨_, _, _, rfl⟩
  have HF := Lib.hid hF
  clear h hF
  generalize hv0 : wr.alloc (.cells #[.int .i64 3, .int .i64 y, .int .i64 z] 36) = v0 at *
  generalize hob : wr.heap.size = ob at *
  have HD := Lib.hid h1
  clear h1
  go_enter Try.func21, Try.ntmps21
  go_wp2_with fail
  clear hv0 hob
  refine (nextD HD.out y).mono ?_
  rintro e w2 ⟨rfl, hD2, hk2⟩
  rw [HF.out] at hD2 ⊢
  have f0 : w2.cell? ⟨ob, 0, none⟩ = some (.int .i64 3) := by rw [hk2.cell rfl]; exact e0
  have f1 : w2.cell? ⟨ob, 1, none⟩ = some (.int .i64 y) := by rw [hk2.cell rfl]; exact e1
  have f2 : w2.cell? ⟨ob, 2, none⟩ = some (.int .i64 z) := by rw [hk2.cell rfl]; exact e2
  have HD2 := Lib.hid hD2
  clear hD2 hk2
  go_wp2_with fail
  refine (rnextD HD2.out y (by rw [HF.out]; exact HD2.out.qw)).mono ?_
  rintro e w3 ⟨rfl, hD3, hk3⟩
  rw [HF.out] at hD3 ⊢
  have HD3 := Lib.hid hD3
  clear hD3 hk3
  go_wp2_with fail
  go_ret
  first | exact ⟨by first | rfl | simp, S', HD3.out.weak fun _ h => h.elim⟩ | exact ⟨S', by first | rfl | simp, HD3.out.weak fun _ h => h.elim⟩
set_option maxRecDepth 100000 in
set_option maxHeartbeats 8000000 in
theorem step_sleep (w0 wr : World) (g x : Nat) (S : QS) (h : DU (fun _ => False) w0 wr g x S S) (k y z : Int) (hk : k = 5) : Calls Try.prog 21 #[.pointer (some ⟨g, 0, none⟩), .pointer (some ⟨x, 0, none⟩), .agg #[.int .i64 k, .int .i64 y, .int .i64 z]] wr fun e w' => e = .returned (.bool true) ∧ ∃ S', DU (fun _ => False) w0 w' g x S' S' := by
  have h1 : DU (· = wr.heap.size) w0 (wr.alloc (.cells #[.int .i64 k, .int .i64 y, .int .i64 z] 36)) g x S S := h.aside (N := 0) ((Below.refl _ _).alloc (Nat.le_refl _) _) (fun q hq => by rw [hq]; simp)
  subst hk
  have e1 : (wr.alloc (.cells #[.int .i64 5, .int .i64 y, .int .i64 z] 36)).cell? ⟨wr.heap.size, 1, none⟩ = some (.int .i64 y) := by simp [go_sem]
  have e2 : (wr.alloc (.cells #[.int .i64 5, .int .i64 y, .int .i64 z] 36)).cell? ⟨wr.heap.size, 2, none⟩ = some (.int .i64 z) := by simp [go_sem]
  have e0 : (wr.alloc (.cells #[.int .i64 5, .int .i64 y, .int .i64 z] 36)).cell? ⟨wr.heap.size, 0, none⟩ = some (.int .i64 5) := by simp [go_sem]
  obtain ⟨c1, c2, S', hF⟩ : ∃ c1 c2 s, sleepF S y = ((c1, c2), s) := ⟨_, _, _, rfl⟩
  have HF := Lib.hid hF
  clear h hF
  generalize hv0 : wr.alloc (.cells #[.int .i64 5, .int .i64 y, .int .i64 z] 36) = v0 at *
  generalize hob : wr.heap.size = ob at *
  have HD := Lib.hid h1
  clear h1
  go_enter Try.func21, Try.ntmps21
  go_wp2_with fail
  clear hv0 hob
  refine (sleepD HD.out y).mono ?_
  rintro e w2 ⟨rfl, hD2, hk2⟩
  rw [HF.out] at hD2 ⊢
  have f0 : w2.cell? ⟨ob, 0, none⟩ = some (.int .i64 5) := by rw [hk2.cell rfl]; exact e0
  have f1 : w2.cell? ⟨ob, 1, none⟩ = some (.int .i64 y) := by rw [hk2.cell rfl]; exact e1
  have f2 : w2.cell? ⟨ob, 2, none⟩ = some (.int .i64 z) := by rw [hk2.cell rfl]; exact e2
  have HD2 := Lib.hid hD2
  clear hD2 hk2
  go_wp2_with fail
  refine (rsleepD HD2.out y (by rw [HF.out]; exact HD2.out.qw)).mono ?_
  rintro e w3 ⟨rfl, hD3, hk3⟩
  rw [HF.out] at hD3 ⊢
  have HD3 := Lib.hid hD3
  clear hD3 hk3
  go_wp2_with fail
  go_ret
  first | exact ⟨by first | rfl | simp, S', HD3.out.weak fun _ h => h.elim⟩ | exact ⟨S', by first | rfl | simp, HD3.out.weak fun _ h => h.elim⟩
end Go.Proofs.Ytphikmdgdbdaiaa
