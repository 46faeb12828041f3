import Derived.Test.YtphikmdgdbdaiaaPut
/- Tick; Sleep. -/
namespace Go.Proofs.Ytphikmdgdbdaiaa
open Go.RowKit Go.BigFrame
set_option linter.unusedVariables false
set_option linter.unusedSimpArgs false
attribute [local go_sem] szIs_lit row_at row_past row_alloc nf_alloc row_set nf_set row_cell nf_cell row_drew nf_drew row_drewN nf_drewN cell_setRow frozen_setRow nlt1 nlt2 nlt3 nlt4 nne1 nne2 nne3 nen1 nen2 nen3
/-- What a call leaves: it has changed the queues' own blocks alone; where they lie now. -/
structure Mv (w : World) (a : QA) (w' : World) (a' : QA) : Prop where
  ch : Ch a.foot w w'
  g : a'.g = a.g
  new : ∀ k, a'.foot k → a.foot k ∨ w.heap.size ≤ k
theorem Mv.refl (w : World) (a : QA) : Mv w a w a := ⟨Ch.refl _ _, rfl, fun _ h => .inl h⟩
theorem Mv.of_below {w w' : World} (a : QA) (h : Below w.heap.size w w') : Mv w a w' a := ⟨Ch.of_below h, rfl, fun _ h => .inl h⟩
theorem Mv.trans {w w1 w2 : World} {a a1 a2 : QA} (h : Mv w a w1 a1) (h2 : Mv w1 a1 w2 a2) : Mv w a w2 a2 :=
  ⟨h.ch.trans h2.ch fun k hk q => (h.new k q).elim id fun q => by omega, h2.g.trans h.g, fun k q => (h2.new k q).elim (h.new k) fun q => .inr (Nat.le_trans h.ch.size q)⟩
section
variable {w : World} {a : QA} {S : QS}
theorem tick_nil (h : Int) (w : World) : Calls Try.prog 13 #[.pointer none, .int .i64 h] w fun e w' => e = .returned (.bool false) ∧ w = w' := by
  go_enter Try.func13, Try.ntmps13
  go_wp2_with fail
  refine (is_nil h w).mono ?_
  rintro e w' ⟨rfl, rfl⟩
  go_wp2
  go_ret
  exact ⟨by first | rfl | simp, rfl⟩
theorem tick_out (H : QR w a S) (h : Int) (hh : ¬ (0 ≤ h ∧ h < S.n)) : Calls Try.prog 13 #[.pointer (some ⟨a.g, 0, none⟩), .int .i64 h] w fun e w' => e = .returned (.bool false) ∧ w = w' := by
  have HI := Lib.hid (is_no H h hh)
  clear H hh
  go_enter Try.func13, Try.ntmps13
  go_wp2_with fail
  refine HI.out.mono ?_
  rintro e w' ⟨rfl, rfl⟩
  go_wp2
  go_ret
  exact ⟨by first | rfl | simp, rfl⟩
theorem tick_idle (H : QR w a S) (h : Nat) (hh : h < S.n) (h0 : S.R h = 0) : Calls Try.prog 13 #[.pointer (some ⟨a.g, 0, none⟩), .int .i64 (h : Int)] w fun e w' => e = .returned (.bool false) ∧ w = w' := by
  have h8 : h < 8 := Nat.lt_of_lt_of_le hh H.n8
  have HI := Lib.hid (is_yes H h hh)
  have c1 := H.runs h8
  rw [h0] at c1
  clear H hh h0
  go_enter Try.func13, Try.ntmps13
  go_wp2_with fail
  refine HI.out.mono ?_
  rintro e w' ⟨rfl, rfl⟩
  go_wp2
  go_ret
  exact ⟨by first | rfl | simp, rfl⟩
theorem tick_alone (H : QR w a S) (h : Nat) (hh : h < S.n) (h0 : ¬ S.R h = 0) (hq : S.Q h = []) : Calls Try.prog 13 #[.pointer (some ⟨a.g, 0, none⟩), .int .i64 (h : Int)] w fun e w' => e = .returned (.bool false) ∧ w = w' := by
  have h8 : h < 8 := Nat.lt_of_lt_of_le hh H.n8
  have HI := Lib.hid (is_yes H h hh)
  have c1 := H.runs h8
  have c2 := H.queue h8
  rw [hq] at c2
  have k0 : (S.R h == 0) = false := by simpa using h0
  clear H hh h0 hq
  go_enter Try.func13, Try.ntmps13
  go_wp2_with fail
  refine HI.out.mono ?_
  rintro e w' ⟨rfl, rfl⟩
  go_wp2
  go_ret
  exact ⟨by first | rfl | simp, rfl⟩
set_option maxRecDepth 100000 in
set_option maxHeartbeats 4000000 in
theorem tick_in (H : QR w a S) (h : Nat) (hh : h < S.n) (h0 : ¬ S.R h = 0) (hq : 0 < (S.Q h).length) (hlen : (S.Q h).length ≤ 1000) : Calls Try.prog 13 #[.pointer (some ⟨a.g, 0, none⟩), .int .i64 (h : Int)] w fun e w' => ∃ a', e = .returned (.bool true) ∧ QR w' a' ((S.setQ h (S.Q h ++ [S.R h])).setR h 0) ∧ Mv w a w' a' := by
  have h8 : h < 8 := Nat.lt_of_lt_of_le hh H.n8
  have HI := Lib.hid (is_yes H h hh)
  have c1 := H.runs h8
  have c2 := H.queue h8
  have k0 : (S.R h == 0) = false := by simpa using h0
  have k1 : (((S.Q h).length : Int) == 0) = false := by
    have : ¬ ((S.Q h).length : Int) = 0 := by omega
    simpa using this
  obtain ⟨A2, c2', w2, e1, e2, e3, e4, e5, e6⟩ := push_ok H.drew h8 (S.R h) hlen
  have hfin := e3.putR h8 0
  have HF := Lib.hid hfin
  have HE1 := Lib.hid e1
  have HE2 := Lib.hid e2
  have HE4 := Lib.hid (And.intro e4 e5)
  have HR3 := Lib.hid (e3.runs h8)
  have HZ3 := Lib.hid e3.cells.2.2
  have HCQ := Lib.hid (pu_load H h8 (S.R h) e6)
  have HCR := Lib.hid (pu_loadR H h8 (S.R h) e6)
  have hxl : (S.Q h).length ≤ a.c h ∧ a.c h ≤ maxLen := (H.row h h8).le
  clear e1 e2 e3 e4 e5 e6 hfin H hh h0 hq
  go_enter Try.func13, Try.ntmps13
  go_wp2_with fail
  refine HI.out.mono ?_
  rintro e w' ⟨rfl, rfl⟩
  go_wp2_with fail
  generalize hW3 : w2.setCell ⟨a.g, 1 + h * 2 + 1, none⟩ (.slice A2 ((S.Q h).length + 1) c2') = w3 at *
  have HBS := Lib.hid (bs31 (S.R h) w.drew)
  generalize hW1 : w.drew.alloc (.cells #[.int .i64 (S.R h)] 3) = w1 at *
  have HW1 := Lib.hid hW1
  have HW3 := Lib.hid hW3
  clear hW1 hW3
  have hld : ∀ s : Sub (puK w.drew w1 w2 w3 9 10 13) [] [13], s.val.cell? ⟨a.g, 1 + h * 2 + 1, none⟩ = some (.slice (a.A h) (S.Q h).length (a.c h)) :=
    puK_load (X := fun u => u.cell? ⟨a.g, 1 + h * 2 + 1, none⟩ = some (.slice (a.A h) (S.Q h).length (a.c h))) (HCQ.out false false) (HCQ.out false true) (HCQ.out true true)
  have hlr : ∀ s : Sub (puK w.drew w1 w2 w3 9 10 13) [] [13], s.val.cell? ⟨a.g, 1 + h * 2, none⟩ = some (.int .i64 (S.R h)) :=
    puK_load (X := fun u => u.cell? ⟨a.g, 1 + h * 2, none⟩ = some (.int .i64 (S.R h))) (HCR.out false false) (HCR.out false true) (HCR.out true true)
  have i1 : Nonempty (Sub (puK w.drew w1 w2 w3 9 10 13) [] [13]) := ⟨⟨w.drew, fun _ => false, rfl, by simp, by simp⟩⟩
  refine wp_segs [(9, [], [13]), (10, [], [13]), (13, [], [13])] ([], []) (puK w.drew w1 w2 w3 9 10 13) ?_ ?_ ?_ ?_ ?_ ?_ ?_ ?_ ?_
  · kernel_rfl
  · kernel_rfl
  · kernel_rfl
  · kernel_rfl
  · kernel_rfl
  · kernel_rfl
  · rfl
  · exact fun jj hj D u hK => puK_out w.drew w1 w2 w3 9 10 13 jj (by simpa using hj) D u hK
  · simp only [Segs, List.take_succ_cons, List.take_zero, List.drop_succ_cons, List.drop_zero, Nat.sub_zero, Nat.reduceSub, Nat.reduceAdd, List.drop_nil, List.take_nil]
    repeat (go_big_quiet_step (fail))
    refine wpQuiet_nil ?_
    refine ⟨.slice (some ⟨w.heap.size, 0, none⟩) 1 1, stepOK_run (by kernel_rfl) (fun D u hb hb2 hi hK => puK_1 hi (hb2 10 (by decide) (by kernel_rfl)) (hb2 13 (by decide) (by kernel_rfl)) hK (by decide) (by decide) (run_box_any (s := Instr.buildSlice 31 1 #[(0, .int .i64 (S.R h))]) (by kernel_rfl) HBS.out)), ?_⟩
    go_frame
    repeat (go_big_quiet_step (fail))
    refine wpQuiet_nil ?_
    refine ⟨.slice A2 ((S.Q h).length + 1) c2', stepOK_run (by kernel_rfl) (fun D u hb hb2 hi hK => puK_2 (hb 9 (by decide) (by kernel_rfl)) hi (hb2 13 (by decide) (by kernel_rfl)) hK (by decide) (run_box_any (s := Builtin.append_ #[31, 31] 31 #[.slice (a.A h) (S.Q h).length (a.c h), .slice (some ⟨w.heap.size, 0, none⟩) 1 1]) (by kernel_rfl) HE1.out)), ?_⟩
    go_frame
    repeat (go_big_quiet_step (fail))
    refine wpQuiet_nil ?_
    refine ⟨undef, stepOK_skip (by kernel_rfl) (fun D u hb hb2 hi hK => puK_3 (hb 10 (by decide) (by kernel_rfl)) hi hK (run_skip_any (s := Instr.storeAt 31 (.pointer (some ⟨a.g, 1 + h * 2 + 1, none⟩)) (.slice A2 ((S.Q h).length + 1) c2')) (by kernel_rfl) HE2.out)), ?_⟩
    refine wpQuiet_nil ?_
    intro u hK
    obtain rfl := puK_end (D := _) (by decide) hK
    have d1 := HR3.out
    have dz := HZ3.out (1 + h * 2)
    change u.cell? ⟨a.g, 1 + h * 2, none⟩ = some (.int .i64 (S.R h)) at d1
    change u.frozen? ⟨a.g, 1 + h * 2, none⟩ = false at dz
    go_wp2
    go_ret
    exact ⟨a.setA h A2 c2', by first | rfl | simp, HF.out.1, ⟨HE4.out.1.undrew.trans HF.out.2 (fun k _ q => (QA.foot_setA h8 HE4.out.2 q).elim id fun q => by simp at q; omega), rfl, fun k q => QA.foot_setA h8 HE4.out.2 q⟩⟩
theorem sleep_nil (h : Int) (w : World) : Calls Try.prog 16 #[.pointer none, .int .i64 h] w fun e w' => e = .returned (.tuple #[.int .i64 0, .int .i64 6]) ∧ w = w' := by
  go_enter Try.func16, Try.ntmps16
  go_wp2
  go_ret2
  exact ⟨by first | rfl | simp, rfl⟩
theorem sleep_out (H : QR w a S) (h : Int) (hh : ¬ (0 ≤ h ∧ h < S.n)) : Calls Try.prog 16 #[.pointer (some ⟨a.g, 0, none⟩), .int .i64 h] w fun e w' => e = .returned (.tuple #[.int .i64 0, .int .i64 4]) ∧ w = w' := by
  have HI := Lib.hid (running_no H h hh)
  clear H hh
  go_enter Try.func16, Try.ntmps16
  go_wp2_with fail
  refine HI.out.mono ?_
  rintro e w' ⟨rfl, rfl⟩
  go_wp2
  go_ret2
  exact ⟨by first | rfl | simp, rfl⟩
theorem sleep_idle (H : QR w a S) (h : Nat) (hh : h < S.n) (h0 : S.R h = 0) : Calls Try.prog 16 #[.pointer (some ⟨a.g, 0, none⟩), .int .i64 (h : Int)] w fun e w' => e = .returned (.tuple #[.int .i64 0, .int .i64 4]) ∧ w = w' := by
  have HI := running_yes H h hh
  rw [h0] at HI
  have HI := Lib.hid HI
  clear H hh h0
  go_enter Try.func16, Try.ntmps16
  go_wp2_with fail
  refine HI.out.mono ?_
  rintro e w' ⟨rfl, rfl⟩
  go_wp2
  go_ret2
  exact ⟨by first | rfl | simp, rfl⟩
set_option maxHeartbeats 1000000 in
theorem sleep_in (H : QR w a S) (h : Nat) (hh : h < S.n) (h0 : ¬ S.R h = 0) : Calls Try.prog 16 #[.pointer (some ⟨a.g, 0, none⟩), .int .i64 (h : Int)] w fun e w' => e = .returned (.tuple #[.int .i64 (S.R h), .int .i64 0]) ∧ QR w' a ((S.setR h 0).setM (S.M.del (S.R h))) ∧ Mv w a w' a := by
  have h8 : h < 8 := Nat.lt_of_lt_of_le hh H.n8
  have HI := Lib.hid (running_yes H h hh)
  have c1 := H.runs h8
  have z1 := H.cells.2.2 (1 + h * 2)
  have k0 : (S.R h == 0) = false := by simpa using h0
  obtain ⟨p1, p2⟩ := H.putR h8 0
  have d17 := p1.cells.2.1
  obtain ⟨w4, m1, m2, m3, _⟩ := imap_delete (P := Try.prog) p1.map ty48 ty3 (S.R h) 0
  have hfin := p1.putM m2 m3
  have HF := Lib.hid (And.intro hfin.1 (p2.trans hfin.2 (fun k _ q => q)))
  clear H hh h0 p1 p2 m2 m3 hfin
  generalize hr : S.R h = r at *
  generalize hW : w.setCell ⟨a.g, 1 + h * 2, none⟩ (.int .i64 0) = w1 at *
  have HR := Lib.hid hr
  clear hr
  go_enter Try.func16, Try.ntmps16
  go_wp2_with fail
  refine HI.out.mono ?_
  rintro e w' ⟨rfl, rfl⟩
  go_wp2_with fail
  go_ret2
  exact ⟨by first | rfl | simp, HF.out.1, ⟨HF.out.2, rfl, fun _ q => .inl q⟩⟩
end
end Go.Proofs.Ytphikmdgdbdaiaa
