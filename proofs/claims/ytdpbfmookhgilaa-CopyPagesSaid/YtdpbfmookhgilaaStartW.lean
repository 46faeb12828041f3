import Derived.Test.YtdpbfmookhgilaaStartP
import Derived.Deep.QuietTactic
import Derived.BigQuiet
import Derived.Deep.LoopGhost
import Derived.LoopN
import Derived.Maps.RangeWalk
/- The walk of start, at the example. -/
namespace Go.Proofs.Ytdpbfmookhgilaa
open Go.RowKit Go.BigFrame
set_option linter.unusedVariables false
set_option linter.unusedSimpArgs false
attribute [local go_sem] szIs_lit row_at row_past row_alloc nf_alloc row_set nf_set row_cell nf_cell row_drew nf_drew row_drewN nf_drewN cell_setRow frozen_setRow nlt1 nlt2 nlt3 nlt4 nne1 nne2 nne3 nen1 nen2 nen3
attribute [local go_sem] by_get by_set
attribute [local go_sem] er_size er_get er_set er_ne
set_option maxHeartbeats 8000000 in
set_option maxRecDepth 100000 in
theorem start_ok (w : World) (ps : Nat) (hps : Blk w ps #[.int .i64 0, .int .i64 7, .bool true, .int .i64 1, .int .i64 3, .bool true]) : Calls Try.prog 7 #[.agg #[.slice (some ⟨ps, 0, none⟩) 2 2, .slice none 0 0]] w fun r w' => ∃ wb g b t M, r = .returned (.pointer (some ⟨wb, 0, none⟩)) ∧ w'.cell? ⟨wb, 0, none⟩ = some (.pointer (some ⟨g, 0, none⟩)) ∧ w'.cell? ⟨wb, 1, none⟩ = some (.pointer (some ⟨t, 0, none⟩)) ∧ wb ≠ b ∧ w.heap.size < b ∧ TM w' g b t M 16 L1 E2 ∧ Below w.heap.size w w' := by
  obtain ⟨w0, hw0⟩ : ∃ w0, w.alloc (.cells #[.slice (some ⟨ps, 0, none⟩) 2 2, .slice none 0 0] 33) = w0 := ⟨_, rfl⟩
  have hB0 : Below w.heap.size w w0 := by rw [← hw0]; exact (Below.refl _ _).alloc (Nat.le_refl _) _
  have hpb : Blk w0 w.heap.size #[.slice (some ⟨ps, 0, none⟩) 2 2, .slice none 0 0] := by rw [← hw0]; exact Blk.of_heap (heap_at rfl)
  have HB0 := Lib.hid hB0
  have HPB := Lib.hid hpb
  have HPS := Lib.hid (hps.below hB0 hps.lt)
  have HNE := Lib.hid (show ps < w.heap.size from hps.lt)
  clear hB0 hpb hps
  go_enter Try.func7, Try.ntmps7
  go_wp2_with (rw [hw0])
  clear hw0
  refine (new_ok 26 (by decide) (by decide) w0).mono ?_
  rintro r w1 ⟨g, b, rfl, q1, q2, q3, q4, q5, q6⟩
  have HM := Lib.hid (show MP w1 g b 26 (fun _ => 0) from ⟨q1, q2, by omega, q5, bytes_zero 0⟩)
  have HB1 := Lib.hid (HB0.out.trans (Below.mono q6 HB0.out.size))
  have HPB1 := Lib.hid (HPB.out.below q6 HPB.out.lt)
  have HPS1 := Lib.hid (HPS.out.below q6 HPS.out.lt)
  have HG := Lib.hid (show w0.heap.size ≤ b ∧ w.heap.size + 1 ≤ b from ⟨q4, by have := HPB.out.lt; omega⟩)
  have HGL := Lib.hid (And.intro q1.lt q2.lt)
  have HGW := Lib.hid q1.lt
  clear q1 q2 q3 q4 q5 q6 HPB HPS HB0
  obtain ⟨z, hz⟩ : ∃ z, z = bytes (fun _ => 0) 4096 := ⟨_, rfl⟩
  have hmk : ∀ w : World, (Instr.makeSlice 45 (.int .i64 4096) (.int .i64 4096)).run Try.prog w = .ok (.slice (some ⟨w.heap.size, 0, none⟩) 4096 4096) (w.alloc (.cells z 5)) := fun w => by rw [hz]; exact make_run w 4096 (by decide)
  have HZ := Lib.hid hz
  clear hz
  go_wp2_with fail
  have hU : Below w1.heap.size w1 (((w1.alloc (.cells z 5)).alloc (.cells #[.slice (some ⟨w1.heap.size, 0, none⟩) 4096 4096] 53)).alloc (.cells #[.pointer (some ⟨g, 0, none⟩), .pointer none, .pointer none, .pointer (some ⟨w1.heap.size + 1, 0, none⟩), .pointer none, .pointer none] 44)) := (((Below.refl _ _).alloc (Nat.le_refl _) _).alloc (by simp) _).alloc (by simp; omega) _
  have hz1 : Blk (w1.alloc (.cells z 5)) w1.heap.size z := Blk.of_heap (heap_at rfl)
  have hz2 : Blk ((w1.alloc (.cells z 5)).alloc (.cells #[.slice (some ⟨w1.heap.size, 0, none⟩) 4096 4096] 53)) (w1.heap.size + 1) #[.slice (some ⟨w1.heap.size, 0, none⟩) 4096 4096] := Blk.of_heap (heap_at (by simp))
  have hz3 : Blk (((w1.alloc (.cells z 5)).alloc (.cells #[.slice (some ⟨w1.heap.size, 0, none⟩) 4096 4096] 53)).alloc (.cells #[.pointer (some ⟨g, 0, none⟩), .pointer none, .pointer none, .pointer (some ⟨w1.heap.size + 1, 0, none⟩), .pointer none, .pointer none] 44)) (w1.heap.size + 1 + 1) #[.pointer (some ⟨g, 0, none⟩), .pointer none, .pointer none, .pointer (some ⟨w1.heap.size + 1, 0, none⟩), .pointer none, .pointer none] := Blk.of_heap (heap_at (by simp))
  have HS := Lib.hid (show SS w (((w1.alloc (.cells z 5)).alloc (.cells #[.slice (some ⟨w1.heap.size, 0, none⟩) 4096 4096] 53)).alloc (.cells #[.pointer (some ⟨g, 0, none⟩), .pointer none, .pointer none, .pointer (some ⟨w1.heap.size + 1, 0, none⟩), .pointer none, .pointer none] 44)) ps w1.heap.size (w1.heap.size + 1) (w1.heap.size + 1 + 1) b #[.pointer (some ⟨g, 0, none⟩), .pointer none, .pointer none, .pointer (some ⟨w1.heap.size + 1, 0, none⟩), .pointer none, .pointer none] from
    ⟨HPB1.out.below hU HPB1.out.lt, HPS1.out.below hU HPS1.out.lt, hz2.below ((Below.refl _ _).alloc (Nat.le_refl _) _) hz2.lt, hz3, ⟨fun _ => 0, by rw [← HZ.out]; exact (hz1.below ((Below.refl _ _).alloc (Nat.le_refl _) _) hz1.lt).below ((Below.refl _ _).alloc (Nat.le_refl _) _) (by simp; omega)⟩, HB1.out.trans (Below.mono hU HB1.out.size)⟩)
  have HM2 := Lib.hid (HM.out.below hU)
  have HWL := Lib.hid (show w.heap.size < b ∧ b < w1.heap.size from ⟨by have := HG.out.2; omega, HGL.out.2⟩)
  clear hz1 hz2 hz3 hU HPB1 HPS1 HB1 HM HZ HGL hmk
  generalize (((w1.alloc (.cells z 5)).alloc (.cells #[.slice (some ⟨w1.heap.size, 0, none⟩) 4096 4096] 53)).alloc (.cells #[.pointer (some ⟨g, 0, none⟩), .pointer none, .pointer none, .pointer (some ⟨w1.heap.size + 1, 0, none⟩), .pointer none, .pointer none] 44)) = u2 at *
  obtain ⟨rb, hrb⟩ : ∃ rb, rb = w1.heap.size := ⟨_, rfl⟩
  rw [← hrb] at HS HWL HGW
  rw [← hrb]
  clear hrb
  refine wp_loop_rounds 3 ?_
  rw [rounds_succ]
  go_wp2_with fail
  refine (tm_new HM2.out).mono ?_
  rintro r w3 ⟨t, rfl, q1, q2, q3⟩
  have HT3 := Lib.hid q1
  have HS3 := Lib.hid (HS.out.only q3 HWL.out.1 HNE.out (by have := HWL.out; omega) (by have := HWL.out; omega) (by have := HWL.out; omega))
  have HTN := Lib.hid (show rb + 1 + 1 < t ∧ t < w3.heap.size from ⟨by have := HS.out.wk.lt; omega, q1.ht.lt⟩)
  clear q1 q2 q3 HM2 HS HG
  go_wp2_with fail
  have HSX := HS3
  have HWB := Lib.hid (show rb + 1 + 1 < w3.drew.heap.size from HSX.out.wk.lt)
  have HKS := Lib.hid (show KX w3.drew (rb + 1 + 1) 1 4 (fun p q => #[.pointer (some ⟨g, 0, none⟩), p, .pointer none, .pointer (some ⟨rb + 1, 0, none⟩), q, .pointer none]) (.pointer none) (.pointer none) (.pointer (some ⟨t, 0, none⟩)) (.pointer (some ⟨w3.heap.size, 0, none⟩)) (fun _ => false) w3.drew from KX.start (HSX.out.wk))
  have hbd := zero58
  refine wp_theta [] [6, 10, 14] (fun _ _ => True) (fun ρ D u => KX w3.drew (rb + 1 + 1) 1 4 (fun p q => #[.pointer (some ⟨g, 0, none⟩), p, .pointer none, .pointer (some ⟨rb + 1, 0, none⟩), q, .pointer none]) (.pointer none) (.pointer none) (.pointer (some ⟨t, 0, none⟩)) (.pointer (some ⟨w3.heap.size, 0, none⟩)) D u) (CTr) ?_ ?_ ?_ ?_ ?_ ?_ ?_ ?_ ?_ ?_
  · kernel_rfl
  · kernel_rfl
  · kernel_rfl
  · kernel_rfl
  · kernel_rfl
  · kernel_rfl
  · exact fun i hi => ⟨undef, trivial⟩
  · exact HKS.out
  · exact fun _ _ _ _ => trivial
  · intro θ hθ
    simp only [SegsT, List.take_succ_cons, List.take_zero, List.drop_succ_cons, List.drop_zero, Nat.sub_zero, Nat.reduceSub, Nat.reduceAdd, List.drop_nil, List.take_nil]
    haveI i1 : Nonempty (Wd CTr) := ⟨⟨w3, trivial⟩⟩
    repeat (go_big_quiet_step (fail))
    refine wpQuiet_nil ?_
    rw [if_neg (by decide)]
    refine ⟨.pointer (some ⟨w3.heap.size, 0, none⟩), detOK_run [] [] (by kernel_rfl) (by kernel_rfl) (fun ρ D u hq hK => ?_), ?_⟩
    · obtain ⟨r1, r2⟩ := KX.box hK hq.now
      exact ⟨_, run_box_any (s := Instr.box 58 (.agg (er (fun _ => 0)))) (by kernel_rfl) r1, r2⟩
    try go_frame
    repeat (go_big_quiet_step (fail))
    refine wpQuiet_nil ?_
    rw [if_neg (by decide)]
    refine ⟨undef, detOK_skip [] [] (by kernel_rfl) (by kernel_rfl) (fun ρ D u hq hK => ?_), ?_⟩
    · obtain ⟨r1, r2⟩ := KX.st10 hK HWB.out (fun _ _ _ => rfl) (fun _ _ => rfl) rfl
      exact ⟨_, run_skip_any (s := Instr.storeAt 38 (.pointer (some ⟨rb + 1 + 1, 1, none⟩)) (.pointer (some ⟨t, 0, none⟩))) (by kernel_rfl) r1, r2⟩
    try go_frame
    repeat (go_big_quiet_step (fail))
    refine wpQuiet_nil ?_
    rw [if_neg (by decide)]
    refine ⟨undef, detOK_skip [] [] (by kernel_rfl) (by kernel_rfl) (fun ρ D u hq hK => ?_), ?_⟩
    · obtain ⟨r1, r2⟩ := KX.st14 hK HWB.out (fun _ _ _ => rfl) (fun _ _ => rfl) rfl
      exact ⟨_, run_skip_any (s := Instr.storeAt 41 (.pointer (some ⟨rb + 1 + 1, 4, none⟩)) (.pointer (some ⟨w3.heap.size, 0, none⟩))) (by kernel_rfl) r1, r2⟩
    try go_frame
    repeat (go_big_quiet_step (fail))
    refine wpQuiet_nil ?_
    intro u hK
    have hg := hK.ch.grown
    have hrow : Blk u (rb + 1 + 1) ((fun p q => #[.pointer (some ⟨g, 0, none⟩), p, .pointer none, .pointer (some ⟨rb + 1, 0, none⟩), q, .pointer none]) (.pointer (some ⟨t, 0, none⟩)) (.pointer (some ⟨w3.heap.size, 0, none⟩))) := hK.row
    have hx0 : Blk u w3.heap.size (er (fun _ => 0)) := hK.sz1 rfl
    clear hK i1 hθ HKS hbd
    have HSX := Lib.hid (HS3.out.below (Below.refl _ _).drew |>.wb hg hrow (by have := HWL.out; omega) HNE.out (by omega) (by omega))
    have HTX := Lib.hid (HT3.out.below (Below.refl _ _).drew |>.only hg (by have := HGW.out; omega) (by have := HWL.out; omega) (by have := HTN.out; omega))
    have HXX := Lib.hid (And.intro hx0 hg.size)
    clear hg hrow hx0 HS3 HT3 HWB
    have d0 : u.cell? ⟨w.heap.size, 0, none⟩ = some (.slice (some ⟨ps, 0, none⟩) 2 2) := (HSX.out.pb.all.2.2.1 0).trans rfl
    have e0 : u.cell? ⟨ps, 0, none⟩ = some (.int .i64 0) := (HSX.out.pk.all.2.2.1 0).trans rfl
    have e1 : u.cell? ⟨ps, 1, none⟩ = some (.int .i64 7) := (HSX.out.pk.all.2.2.1 1).trans rfl
    have e2 : u.cell? ⟨ps, 2, none⟩ = some (.bool true) := (HSX.out.pk.all.2.2.1 2).trans rfl
    have y1 : bits .and .i64 0 255 = 0 := by decide
    have y2 : bits .and .i64 7 15 = 7 := by decide
    have y3 : bits .or .i64 1 2 = 3 := by decide
    have y4 : bits .or .u32 1792 3 = 1795 := by decide
    have y5 : bits .and .i64 1 255 = 1 := by decide
    have y6 : bits .and .i64 3 15 = 3 := by decide
    have y7 : bits .or .u32 768 3 = 771 := by decide
    go_wp2_with fail
    refine wp_loop_rounds 3 ?_
    rw [rounds_succ]
    go_wp2_with fail
    go_quiet (fail)
    go_wp2_with fail
    have hal : Below u.heap.size u ((u.alloc (.cells #[.int .i64 0, .int .i64 7, .bool true] 31)).drewN nq) := below_drewN ((Below.refl _ _).alloc (Nat.le_refl _) _) _
    refine (tm_set1 (HTX.out.below hal)).mono ?_
    rintro r w6 ⟨rfl, ⟨M6, q1⟩, q2⟩
    have hxb : w3.heap.size < u.heap.size := HXX.out.1.lt
    have HS6 := Lib.hid ((HSX.out.below hal).only q2 HWL.out.1 HNE.out (by have := HWL.out; omega) (by have := HWL.out; omega) (by have := HWL.out; omega))
    have HT6 := Lib.hid q1
    have HX6 := Lib.hid ((HXX.out.1.below hal HXX.out.1.lt).only q2 (by have := hal.size; omega) (by have := HWL.out; have := HTN.out; omega))
    have HXN := Lib.hid (show rb + 1 + 1 < w3.heap.size ∧ t < w3.heap.size from by have := HTN.out; omega)
    clear q1 q2 hal HSX HTX HXX d0 e0 e1 e2 hxb
    generalize w3.heap.size = x at *
    have f4 : w6.cell? ⟨rb + 1 + 1, 4, none⟩ = some (.pointer (some ⟨x, 0, none⟩)) := (HS6.out.wk.all.2.2.1 4).trans rfl
    have f5 : w6.cell? ⟨x, 0, none⟩ = some (.int .u32 0) := (HX6.out.all.2.2.1 0).trans (er_get _ 0 (by decide))
    have f6 : w6.frozen? ⟨x, 0, none⟩ = false := HX6.out.all.2.2.2 0
    have e3 : w6.cell? ⟨ps, 3, none⟩ = some (.int .i64 1) := (HS6.out.pk.all.2.2.1 3).trans rfl
    have HX7 := Lib.hid (show Blk (w6.setCell ⟨x, 0, none⟩ (.int .u32 1795)) x (er E1) from by
      have := HX6.out.put 0 (.int .u32 1795)
      rw [er_set _ 0 (by decide)] at this; exact this)
    have hg7 : w6.grownBy (w6.setCell ⟨x, 0, none⟩ (.int .u32 1795)) (some x) := only_cell (only_refl w6 x) 0 _
    have HS7 := Lib.hid (HS6.out.only hg7 (by have := HXN.out; have := HWL.out; omega) HNE.out (by have := HXN.out; omega) (by have := HXN.out; omega) (by have := HXN.out; omega))
    have HT7 := Lib.hid (HT6.out.only hg7 (by have := HXN.out; have := HGW.out; omega) (by have := HXN.out; have := HWL.out; omega) (by have := HXN.out; omega))
    clear hg7 e3
    go_wp2_with fail
    clear f4 f5 f6 HS6 HT6 HX6
    generalize w6.setCell ⟨x, 0, none⟩ (.int .u32 1795) = w7 at *
    rw [rounds_succ]
    have e3 : w7.cell? ⟨ps, 3, none⟩ = some (.int .i64 1) := (HS7.out.pk.all.2.2.1 3).trans rfl
    have e4 : w7.cell? ⟨ps, 4, none⟩ = some (.int .i64 3) := (HS7.out.pk.all.2.2.1 4).trans rfl
    have e5 : w7.cell? ⟨ps, 5, none⟩ = some (.bool true) := (HS7.out.pk.all.2.2.1 5).trans rfl
    go_wp2_with fail
    go_quiet (fail)
    go_wp2_with fail
    have hal : Below w7.heap.size w7 ((w7.alloc (.cells #[.int .i64 1, .int .i64 3, .bool true] 31)).drewN nq) := below_drewN ((Below.refl _ _).alloc (Nat.le_refl _) _) _
    refine (tm_set2 (HT7.out.below hal)).mono ?_
    rintro r w8 ⟨rfl, ⟨M8, q1⟩, q2⟩
    have HS8 := Lib.hid ((HS7.out.below hal).only q2 HWL.out.1 HNE.out (by have := HWL.out; omega) (by have := HWL.out; omega) (by have := HWL.out; omega))
    have HT8 := Lib.hid q1
    have HX8 := Lib.hid ((HX7.out.below hal HX7.out.lt).only q2 (by have := hal.size; have := HX7.out.lt; omega) (by have := HWL.out; have := HXN.out; omega))
    clear q1 q2 hal HS7 HT7 HX7 e3 e4 e5
    have f4 : w8.cell? ⟨rb + 1 + 1, 4, none⟩ = some (.pointer (some ⟨x, 0, none⟩)) := (HS8.out.wk.all.2.2.1 4).trans rfl
    have f5 : w8.cell? ⟨x, 1, none⟩ = some (.int .u32 0) := (HX8.out.all.2.2.1 1).trans (er_get _ 1 (by decide))
    have f6 : w8.frozen? ⟨x, 1, none⟩ = false := HX8.out.all.2.2.2 1
    have hg9 : w8.grownBy (w8.setCell ⟨x, 1, none⟩ (.int .u32 771)) (some x) := only_cell (only_refl w8 x) 1 _
    have HS9 := Lib.hid (HS8.out.only hg9 (by have := HXN.out; have := HWL.out; omega) HNE.out (by have := HXN.out; omega) (by have := HXN.out; omega) (by have := HXN.out; omega))
    have HT9 := Lib.hid (HT8.out.only hg9 (by have := HXN.out; have := HGW.out; omega) (by have := HXN.out; have := HWL.out; omega) (by have := HXN.out; omega))
    clear hg9
    go_wp2_with fail
    clear f4 f5 f6 HS8 HT8 HX8
    generalize w8.setCell ⟨x, 1, none⟩ (.int .u32 771) = w9 at *
    rw [rounds_succ]
    go_wp2_with fail
    rw [rounds_succ]
    go_wp2_with fail
    refine (tm_new2 HT9.out).mono ?_
    rintro r w10 ⟨t2, M10, rfl, q1, q2, q4, q3⟩
    have HT10 := Lib.hid q1
    have HS10 := Lib.hid (HS9.out.only q3 HWL.out.1 HNE.out (by have := HWL.out; omega) (by have := HWL.out; omega) (by have := HWL.out; omega))
    have HTL := Lib.hid (show t < w10.heap.size from q1.ht.lt)
    clear q1 q2 q3 q4 HT9 HS9
    go_wp2_with fail
    have HSX := HS10
    have HWB := Lib.hid (show rb + 1 + 1 < w10.drew.heap.size from HSX.out.wk.lt)
    have HKS := Lib.hid (show KX w10.drew (rb + 1 + 1) 2 5 (fun p q => #[.pointer (some ⟨g, 0, none⟩), .pointer (some ⟨t, 0, none⟩), p, .pointer (some ⟨rb + 1, 0, none⟩), .pointer (some ⟨x, 0, none⟩), q]) (.pointer none) (.pointer none) (.pointer (some ⟨t2, 0, none⟩)) (.pointer (some ⟨w10.heap.size, 0, none⟩)) (fun _ => false) w10.drew from KX.start (HSX.out.wk))
    have hbd := zero58
    refine wp_theta [] [6, 10, 14] (fun _ _ => True) (fun ρ D u => KX w10.drew (rb + 1 + 1) 2 5 (fun p q => #[.pointer (some ⟨g, 0, none⟩), .pointer (some ⟨t, 0, none⟩), p, .pointer (some ⟨rb + 1, 0, none⟩), .pointer (some ⟨x, 0, none⟩), q]) (.pointer none) (.pointer none) (.pointer (some ⟨t2, 0, none⟩)) (.pointer (some ⟨w10.heap.size, 0, none⟩)) D u) (CTr) ?_ ?_ ?_ ?_ ?_ ?_ ?_ ?_ ?_ ?_
    · kernel_rfl
    · kernel_rfl
    · kernel_rfl
    · kernel_rfl
    · kernel_rfl
    · kernel_rfl
    · exact fun i hi => ⟨undef, trivial⟩
    · exact HKS.out
    · exact fun _ _ _ _ => trivial
    · intro θ hθ
      simp only [SegsT, List.take_succ_cons, List.take_zero, List.drop_succ_cons, List.drop_zero, Nat.sub_zero, Nat.reduceSub, Nat.reduceAdd, List.drop_nil, List.take_nil]
      haveI i1 : Nonempty (Wd CTr) := ⟨⟨w10, trivial⟩⟩
      repeat (go_big_quiet_step (fail))
      refine wpQuiet_nil ?_
      rw [if_neg (by decide)]
      refine ⟨.pointer (some ⟨w10.heap.size, 0, none⟩), detOK_run [] [] (by kernel_rfl) (by kernel_rfl) (fun ρ D u hq hK => ?_), ?_⟩
      · obtain ⟨r1, r2⟩ := KX.box hK hq.now
        exact ⟨_, run_box_any (s := Instr.box 58 (.agg (er (fun _ => 0)))) (by kernel_rfl) r1, r2⟩
      try go_frame
      repeat (go_big_quiet_step (fail))
      refine wpQuiet_nil ?_
      rw [if_neg (by decide)]
      refine ⟨undef, detOK_skip [] [] (by kernel_rfl) (by kernel_rfl) (fun ρ D u hq hK => ?_), ?_⟩
      · obtain ⟨r1, r2⟩ := KX.st10 hK HWB.out (fun _ _ _ => rfl) (fun _ _ => rfl) rfl
        exact ⟨_, run_skip_any (s := Instr.storeAt 38 (.pointer (some ⟨rb + 1 + 1, 2, none⟩)) (.pointer (some ⟨t2, 0, none⟩))) (by kernel_rfl) r1, r2⟩
      try go_frame
      repeat (go_big_quiet_step (fail))
      refine wpQuiet_nil ?_
      rw [if_neg (by decide)]
      refine ⟨undef, detOK_skip [] [] (by kernel_rfl) (by kernel_rfl) (fun ρ D u hq hK => ?_), ?_⟩
      · obtain ⟨r1, r2⟩ := KX.st14 hK HWB.out (fun _ _ _ => rfl) (fun _ _ => rfl) rfl
        exact ⟨_, run_skip_any (s := Instr.storeAt 41 (.pointer (some ⟨rb + 1 + 1, 5, none⟩)) (.pointer (some ⟨w10.heap.size, 0, none⟩))) (by kernel_rfl) r1, r2⟩
      try go_frame
      repeat (go_big_quiet_step (fail))
      refine wpQuiet_nil ?_
      intro u hK
      have hg := hK.ch.grown
      have hrow : Blk u (rb + 1 + 1) ((fun p q => #[.pointer (some ⟨g, 0, none⟩), .pointer (some ⟨t, 0, none⟩), p, .pointer (some ⟨rb + 1, 0, none⟩), .pointer (some ⟨x, 0, none⟩), q]) (.pointer (some ⟨t2, 0, none⟩)) (.pointer (some ⟨w10.heap.size, 0, none⟩))) := hK.row
      have hx0 : Blk u w10.heap.size (er (fun _ => 0)) := hK.sz1 rfl
      clear hK i1 hθ HKS hbd
      have HSX := Lib.hid (HS10.out.below (Below.refl _ _).drew |>.wb hg hrow (by have := HWL.out; omega) HNE.out (by omega) (by omega))
      have HTX := Lib.hid (HT10.out.below (Below.refl _ _).drew |>.only hg (by have := HGW.out; omega) (by have := HWL.out; omega) (by have := HTN.out; omega))
      clear hg hrow hx0 HS10 HT10 HWB
      have d1 : u.cell? ⟨w.heap.size, 1, none⟩ = some (.slice none 0 0) := (HSX.out.pb.all.2.2.1 1).trans rfl
      go_wp2_with fail
      refine wp_loop_rounds 1 ?_
      rw [rounds_succ]
      go_wp2_with fail
      rw [rounds_succ]
      have g3 : u.cell? ⟨rb + 1 + 1, 3, none⟩ = some (.pointer (some ⟨rb + 1, 0, none⟩)) := (HSX.out.wk.all.2.2.1 3).trans rfl
      have g4 : u.cell? ⟨rb + 1, 0, none⟩ = some (.slice (some ⟨rb, 0, none⟩) 4096 4096) := (HSX.out.rk.all.2.2.1 0).trans rfl
      go_wp2_with fail
      generalize w10.heap.size = x2 at *
      clear g3 g4 d1
      go_loopg [125] 4096 (fun m i_ wr => ∃ i : Nat, i_ = .int .i64 (i : Int) ∧ m = 4096 - i ∧ i ≤ 4096 ∧ SS w wr ps rb (rb + 1) (rb + 1 + 1) b #[.pointer (some ⟨g, 0, none⟩), .pointer (some ⟨t, 0, none⟩), .pointer (some ⟨t2, 0, none⟩), .pointer (some ⟨rb + 1, 0, none⟩), .pointer (some ⟨x, 0, none⟩), .pointer (some ⟨x2, 0, none⟩)] ∧ ∃ M, TM wr g b t M 16 L1 E2)
      case atStart => exact ⟨0, rfl, rfl, by omega, HSX.out, _, HTX.out⟩
      case round =>
        obtain ⟨i, rfl, hm, hi, hs, M, ht⟩ := hrel
        have HMM := Lib.hid hm
        have HS := Lib.hid hs
        have HT := Lib.hid ht
        clear hm hs ht HSX HTX
        by_cases hlt : i < 4096
        · obtain ⟨MB, hMB⟩ := HS.out.bk
          have g3 : wr.cell? ⟨rb + 1 + 1, 3, none⟩ = some (.pointer (some ⟨rb + 1, 0, none⟩)) := (HS.out.wk.all.2.2.1 3).trans rfl
          have g4 : wr.cell? ⟨rb + 1, 0, none⟩ = some (.slice (some ⟨rb, 0, none⟩) 4096 4096) := (HS.out.rk.all.2.2.1 0).trans rfl
          have g5 : wr.cell? ⟨rb, i, none⟩ = some (.int .u8 (MB i)) := (hMB.all.2.2.1 i).trans (by_get MB 4096 i hlt)
          have g6 : wr.frozen? ⟨rb, i, none⟩ = false := hMB.all.2.2.2 i
          have hbb : rb ≠ b := by have := HWL.out; omega
          clear hMB
          have hy := or8_byte ((i : Int) * 7 % 256) (bits .and .i64 ((i : Int) / 256) 1 % 256)
          go_wp2_with fail
          clear g3 g4 g5 g6
          generalize bits .or .u8 ((i : Int) * 7 % 256) (bits .and .i64 ((i : Int) / 256) 1 % 256) = y at *
          have HSS := Lib.hid (HS.out.st (v := y) hlt (by have := HWL.out; omega) HNE.out (by omega) (by omega))
          have HTT := Lib.hid (HT.out.only (only_cell (only_refl wr rb) i (.int .u8 y)) (by have := HGW.out; omega) (by have := HWL.out; omega) (by have := HTN.out; omega))
          refine (tm_store HTT.out (i : Int) (by omega) (by omega) y hy).mono ?_
          rintro r w12 ⟨rfl, ⟨M12, q1⟩, q2⟩
          have HS12 := Lib.hid (HSS.out.only q2 HWL.out.1 HNE.out (by have := HWL.out; omega) (by have := HWL.out; omega) (by omega))
          have HT12 := Lib.hid q1
          clear q1 q2 HSS HTT hy
          go_wp2_with fail
          go_roundg (4096 - (i + 1))
          case measure => have := HMM.out; omega
          case rel => exact ⟨i + 1, by go_num, rfl, by omega, HS12.out, _, HT12.out⟩
        · obtain rfl : i = 4096 := by omega
          go_wp2_with fail
          go_ret
          refine ⟨rb + 1 + 1, g, b, t, M, by first | rfl | simp, (HS.out.wk.all.2.2.1 0).trans rfl, (HS.out.wk.all.2.2.1 1).trans rfl, by have := HWL.out; omega, HWL.out.1, HT.out, HS.out.bl⟩

end Go.Proofs.Ytdpbfmookhgilaa
