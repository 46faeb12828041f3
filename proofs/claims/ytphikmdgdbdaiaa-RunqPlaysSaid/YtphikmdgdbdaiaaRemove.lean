import Derived.Test.YtphikmdgdbdaiaaNext
/- Remove. -/
namespace Go.Proofs.Ytphikmdgdbdaiaa
open Go.RowKit Go.BigFrame
set_option linter.unusedVariables false
set_option linter.unusedSimpArgs false
attribute [local go_sem] szIs_lit row_at row_past row_alloc nf_alloc row_set nf_set row_cell nf_cell row_drew nf_drew row_drewN nf_drewN cell_setRow frozen_setRow nlt1 nlt2 nlt3 nlt4 nne1 nne2 nne3 nen1 nen2 nen3
section
variable {w : World} {a : QA} {S : QS}
set_option maxRecDepth 100000 in
set_option maxHeartbeats 4000000 in
theorem remove_run (H : QR w a S) (h : Nat) (h8 : h < 8) (t : Int) (ht : S.M.get t = some (.int .i64 h)) (hr : S.R h = t) (hlen : (S.Q h).length ≤ 1000) : Calls Try.prog 19 #[.pointer (some ⟨a.g, 0, none⟩), .int .i64 t] w fun e w' => ∃ a', e = .returned (.bool true) ∧ QR w' a' (((S.setR h 0).setQ h (fl t (S.Q h))).setM (S.M.del t)) ∧ Mv w a w' a' := by
  have H1 := H.alloc (.cells #[.int .i64 t] 3)
  have HI := Lib.hid (where_some H1 t _ ht)
  have HH := Lib.hid H1
  have HP := Lib.hid (show (w.alloc (.cells #[.int .i64 t] 3)).cell? ⟨w.heap.size, 0, none⟩ = some (.int .i64 t) from (Blk.of_heap (heap_alloc_new w _)).all.2.2.1 0)
  have hp := HP.out
  have c1 := H1.runs h8
  have HMV := Lib.hid (show Mv w a (w.alloc (.cells #[.int .i64 t] 3)) a from Mv.of_below a ((Below.refl _ _).alloc (Nat.le_refl _) _))
  have hg : ¬ a.g = w.heap.size := by have := H.blk.lt; omega
  have hA : ∀ k, blkOf (a.A h) = some k → k < w.heap.size := (H.row h h8).lt
  have HA := Lib.hid hA
  have HL := Lib.hid hlen
  have k0 : (S.R h == t) = true := by simpa using hr
  have HR := Lib.hid hr
  rw [hr] at c1
  clear H H1 ht hA hlen hr
  go_enter Try.func19, Try.ntmps19
  go_wp2_with fail
  refine HI.out.mono ?_
  rintro e w' ⟨rfl, rfl⟩
  go_wp2_with fail
  go_quiet (fail)
  have HH2 := Lib.hid (HH.out.drewN nq)
  have HM2 := Lib.hid (HMV.out.trans (Mv.of_below a (below_drewN (Below.refl _ _) nq)))
  have HP2 := Lib.hid (show ((w.alloc (.cells #[.int .i64 t] 3)).drewN nq).cell? ⟨w.heap.size, 0, none⟩ = some (.int .i64 t) from HP.out)
  clear hp c1
  generalize (w.alloc (.cells #[.int .i64 t] 3)).drewN nq = v0 at *
  have c1 := HH2.out.runs h8
  have z1 := HH2.out.cells.2.2 (1 + h * 2)
  obtain ⟨p1, p2⟩ := HH2.out.putR h8 0
  have cq : (v0.setCell ⟨a.g, 1 + h * 2, none⟩ (.int .i64 0)).cell? ⟨a.g, 1 + h * 2 + 1, none⟩ = some (.slice (a.A h) (S.Q h).length (a.c h)) := p1.queue h8
  have hps : (v0.setCell ⟨a.g, 1 + h * 2, none⟩ (.int .i64 0)).cell? ⟨w.heap.size, 0, none⟩ = some (.int .i64 t) := by
    rw [World.cell?_setCell_other _ _ _ _ (by simp [hg])]; exact HP2.out
  have HPS := Lib.hid hps
  have HD := Lib.hid (delf_ok _ _ _ (S.Q h) (p1.row h h8) HL.out t ⟨w.heap.size, 0, none⟩ hps (fun e => by have := HA.out _ e; simp at this))
  have HX := Lib.hid p1
  have HMX := Lib.hid (HM2.out.trans ⟨p2, rfl, fun _ q => .inl q⟩)
  clear p1 p2 hps
  generalize hV : v0.setCell ⟨a.g, 1 + h * 2, none⟩ (.int .i64 0) = v1 at *
  go_wp2_with fail
  refine HD.out.mono ?_
  rintro e w1 ⟨rfl, hr, hc⟩
  have hp := HX.out.putQ h8 (l := fl t (S.Q h)) hr hc (.inl rfl)
  have hB := (HX.out.blk.ch hc (HX.out.ag h h8).1).all
  have hu : w1.cell? ⟨a.g, 1 + h * 2 + 1, none⟩ = some (.slice (a.A h) (S.Q h).length (a.c h)) := (hB.2.2.1 _).trans (qcells_Q a (S.setR h 0) h8)
  have hz := hB.2.2.2 (1 + h * 2 + 1)
  have hpw : w1.cell? ⟨w.heap.size, 0, none⟩ = some (.int .i64 t) := by
    rw [World.cell?_of_block (a := ⟨w.heap.size, 0, none⟩) (hc.block _ (cell_lt' HPS.out) (fun e => by have := HA.out _ e; simp at this))]; exact HPS.out
  have hpw2 : (w1.setCell ⟨a.g, 1 + h * 2 + 1, none⟩ (.slice (a.A h) (fl t (S.Q h)).length (a.c h))).cell? ⟨w.heap.size, 0, none⟩ = some (.int .i64 t) := by
    rw [World.cell?_setCell_other _ _ _ _ (by simp [hg])]; exact hpw
  have h17 : (w1.setCell ⟨a.g, 1 + h * 2 + 1, none⟩ (.slice (a.A h) (fl t (S.Q h)).length (a.c h))).cell? ⟨a.g, 17, none⟩ = some (.map (some a.m)) := hp.1.cells.2.1
  obtain ⟨w4, m1, m2, m3, _⟩ := imap_delete (P := Try.prog) (w := (w1.setCell ⟨a.g, 1 + h * 2 + 1, none⟩ (.slice (a.A h) (fl t (S.Q h)).length (a.c h))).drew) hp.1.map.drew ty48 ty3 t 0
  have hp3 := hp.1.drew.putM m2 m3
  have HF := Lib.hid (And.intro hp3.1 (And.intro hp.2 hp3.2))
  have HPW := Lib.hid hpw2
  have H17 := Lib.hid h17
  have HM1 := Lib.hid m1
  clear hp hp3 hB m1 m2 m3 hr hc hpw hpw2 h17
  generalize hW2 : w1.setCell ⟨a.g, 1 + h * 2 + 1, none⟩ (.slice (a.A h) (fl t (S.Q h)).length (a.c h)) = w2 at *
  go_wp2_with fail
  have hl1 : ∀ s : Sub (k1K w2.drew w4 5) [] [5], s.val.cell? ⟨a.g, 17, none⟩ = some (.map (some a.m)) := k1K_load (X := fun u => u.cell? ⟨a.g, 17, none⟩ = some (.map (some a.m))) H17.out
  have hl2 : ∀ s : Sub (k1K w2.drew w4 5) [] [5], s.val.cell? ⟨w.heap.size, 0, none⟩ = some (.int .i64 t) := k1K_load (X := fun u => u.cell? ⟨w.heap.size, 0, none⟩ = some (.int .i64 t)) HPW.out
  haveI i1 := k1K_ne w2.drew w4 5
  haveI i2 := k1K_ne0 w2.drew w4 5
  refine wp_segs [(5, [], [5])] ([], []) (k1K w2.drew w4 5) ?_ ?_ ?_ ?_ ?_ ?_ ?_ ?_ ?_
  · kernel_rfl
  · kernel_rfl
  · kernel_rfl
  · kernel_rfl
  · kernel_rfl
  · kernel_rfl
  · rfl
  · exact fun jj hj D u hK => k1K_out w2.drew w4 5 jj (by simpa using hj) D u hK
  · simp only [Segs, List.take_succ_cons, List.take_zero, List.drop_succ_cons, List.drop_zero, Nat.sub_zero, Nat.reduceSub, Nat.reduceAdd, List.drop_nil, List.take_nil]
    repeat (go_big_quiet_step (fail))
    refine wpQuiet_nil ?_
    refine ⟨.tuple #[], stepOK_run (by kernel_rfl) (fun D u hb hb2 hi hK => k1K_1 hi hK (run_box_any (s := Builtin.delete_ #[48, 3] 0 #[.map (some a.m), .int .i64 t]) (by kernel_rfl) HM1.out)), ?_⟩
    (try go_frame)
    repeat (go_big_quiet_step (fail))
    refine wpQuiet_nil ?_
    intro u hK
    obtain rfl := k1K_end (D := _) (by decide) hK
    go_wp2_with fail
    go_ret
    exact ⟨_, by first | rfl | simp, HF.out.1, HMX.out.trans ⟨HF.out.2.1.trans (HF.out.2.2.undrew) (fun k hk q => (QA.foot_setA (N := v1.heap.size) h8 (.inl rfl) q).elim id fun q => by omega), rfl, fun k q => QA.foot_setA h8 (.inl rfl) q⟩⟩
set_option maxRecDepth 100000 in
set_option maxHeartbeats 4000000 in
theorem remove_wait (H : QR w a S) (h : Nat) (h8 : h < 8) (t : Int) (ht : S.M.get t = some (.int .i64 h)) (hr : ¬ S.R h = t) (hlen : (S.Q h).length ≤ 1000) : Calls Try.prog 19 #[.pointer (some ⟨a.g, 0, none⟩), .int .i64 t] w fun e w' => ∃ a', e = .returned (.bool true) ∧ QR w' a' ((S.setQ h (fl t (S.Q h))).setM (S.M.del t)) ∧ Mv w a w' a' := by
  have H1 := H.alloc (.cells #[.int .i64 t] 3)
  have HI := Lib.hid (where_some H1 t _ ht)
  have HH := Lib.hid H1
  have HP := Lib.hid (show (w.alloc (.cells #[.int .i64 t] 3)).cell? ⟨w.heap.size, 0, none⟩ = some (.int .i64 t) from (Blk.of_heap (heap_alloc_new w _)).all.2.2.1 0)
  have hp := HP.out
  have c1 := H1.runs h8
  have HMV := Lib.hid (show Mv w a (w.alloc (.cells #[.int .i64 t] 3)) a from Mv.of_below a ((Below.refl _ _).alloc (Nat.le_refl _) _))
  have hg : ¬ a.g = w.heap.size := by have := H.blk.lt; omega
  have hA : ∀ k, blkOf (a.A h) = some k → k < w.heap.size := (H.row h h8).lt
  have HA := Lib.hid hA
  have HL := Lib.hid hlen
  have k0 : (S.R h == t) = false := by simpa using hr
  have HR := Lib.hid hr
  clear H H1 ht hA hlen hr
  go_enter Try.func19, Try.ntmps19
  go_wp2_with fail
  refine HI.out.mono ?_
  rintro e w' ⟨rfl, rfl⟩
  go_wp2_with fail
  go_quiet (fail)
  have HH2 := Lib.hid (HH.out.drewN nq)
  have HM2 := Lib.hid (HMV.out.trans (Mv.of_below a (below_drewN (Below.refl _ _) nq)))
  have HP2 := Lib.hid (show ((w.alloc (.cells #[.int .i64 t] 3)).drewN nq).cell? ⟨w.heap.size, 0, none⟩ = some (.int .i64 t) from HP.out)
  clear hp c1
  generalize (w.alloc (.cells #[.int .i64 t] 3)).drewN nq = v0 at *
  have cq := HH2.out.queue h8
  have HPS := HP2
  have HD := Lib.hid (delf_ok _ _ _ (S.Q h) (HH2.out.row h h8) HL.out t ⟨w.heap.size, 0, none⟩ HP2.out (fun e => by have := HA.out _ e; simp at this))
  have HX := HH2
  have HMX := HM2
  generalize hV : v0 = v1 at *
  clear hV
  go_wp2_with fail
  refine HD.out.mono ?_
  rintro e w1 ⟨rfl, hr, hc⟩
  have hp := HX.out.putQ h8 (l := fl t (S.Q h)) hr hc (.inl rfl)
  have hB := (HX.out.blk.ch hc (HX.out.ag h h8).1).all
  have hu : w1.cell? ⟨a.g, 1 + h * 2 + 1, none⟩ = some (.slice (a.A h) (S.Q h).length (a.c h)) := (hB.2.2.1 _).trans (qcells_Q a S h8)
  have hz := hB.2.2.2 (1 + h * 2 + 1)
  have hpw : w1.cell? ⟨w.heap.size, 0, none⟩ = some (.int .i64 t) := by
    rw [World.cell?_of_block (a := ⟨w.heap.size, 0, none⟩) (hc.block _ (cell_lt' HPS.out) (fun e => by have := HA.out _ e; simp at this))]; exact HPS.out
  have hpw2 : (w1.setCell ⟨a.g, 1 + h * 2 + 1, none⟩ (.slice (a.A h) (fl t (S.Q h)).length (a.c h))).cell? ⟨w.heap.size, 0, none⟩ = some (.int .i64 t) := by
    rw [World.cell?_setCell_other _ _ _ _ (by simp [hg])]; exact hpw
  have h17 : (w1.setCell ⟨a.g, 1 + h * 2 + 1, none⟩ (.slice (a.A h) (fl t (S.Q h)).length (a.c h))).cell? ⟨a.g, 17, none⟩ = some (.map (some a.m)) := hp.1.cells.2.1
  obtain ⟨w4, m1, m2, m3, _⟩ := imap_delete (P := Try.prog) (w := (w1.setCell ⟨a.g, 1 + h * 2 + 1, none⟩ (.slice (a.A h) (fl t (S.Q h)).length (a.c h))).drew) hp.1.map.drew ty48 ty3 t 0
  have hp3 := hp.1.drew.putM m2 m3
  have HF := Lib.hid (And.intro hp3.1 (And.intro hp.2 hp3.2))
  have HPW := Lib.hid hpw2
  have H17 := Lib.hid h17
  have HM1 := Lib.hid m1
  clear hp hp3 hB m1 m2 m3 hr hc hpw hpw2 h17
  generalize hW2 : w1.setCell ⟨a.g, 1 + h * 2 + 1, none⟩ (.slice (a.A h) (fl t (S.Q h)).length (a.c h)) = w2 at *
  go_wp2_with fail
  have hl1 : ∀ s : Sub (k1K w2.drew w4 5) [] [5], s.val.cell? ⟨a.g, 17, none⟩ = some (.map (some a.m)) := k1K_load (X := fun u => u.cell? ⟨a.g, 17, none⟩ = some (.map (some a.m))) H17.out
  have hl2 : ∀ s : Sub (k1K w2.drew w4 5) [] [5], s.val.cell? ⟨w.heap.size, 0, none⟩ = some (.int .i64 t) := k1K_load (X := fun u => u.cell? ⟨w.heap.size, 0, none⟩ = some (.int .i64 t)) HPW.out
  haveI i1 := k1K_ne w2.drew w4 5
  haveI i2 := k1K_ne0 w2.drew w4 5
  refine wp_segs [(5, [], [5])] ([], []) (k1K w2.drew w4 5) ?_ ?_ ?_ ?_ ?_ ?_ ?_ ?_ ?_
  · kernel_rfl
  · kernel_rfl
  · kernel_rfl
  · kernel_rfl
  · kernel_rfl
  · kernel_rfl
  · rfl
  · exact fun jj hj D u hK => k1K_out w2.drew w4 5 jj (by simpa using hj) D u hK
  · simp only [Segs, List.take_succ_cons, List.take_zero, List.drop_succ_cons, List.drop_zero, Nat.sub_zero, Nat.reduceSub, Nat.reduceAdd, List.drop_nil, List.take_nil]
    repeat (go_big_quiet_step (fail))
    refine wpQuiet_nil ?_
    refine ⟨.tuple #[], stepOK_run (by kernel_rfl) (fun D u hb hb2 hi hK => k1K_1 hi hK (run_box_any (s := Builtin.delete_ #[48, 3] 0 #[.map (some a.m), .int .i64 t]) (by kernel_rfl) HM1.out)), ?_⟩
    (try go_frame)
    repeat (go_big_quiet_step (fail))
    refine wpQuiet_nil ?_
    intro u hK
    obtain rfl := k1K_end (D := _) (by decide) hK
    go_wp2_with fail
    go_ret
    exact ⟨_, by first | rfl | simp, HF.out.1, HMX.out.trans ⟨HF.out.2.1.trans (HF.out.2.2.undrew) (fun k hk q => (QA.foot_setA (N := v1.heap.size) h8 (.inl rfl) q).elim id fun q => by omega), rfl, fun k q => QA.foot_setA h8 (.inl rfl) q⟩⟩
end
end Go.Proofs.Ytphikmdgdbdaiaa
