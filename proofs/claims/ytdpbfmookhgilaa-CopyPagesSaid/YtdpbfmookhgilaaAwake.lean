import Derived.Test.YtdpbfmookhgilaaStartW
import Derived.Deep.QuietTactic
import Derived.BigQuiet
import Derived.Maps.RangeWalk
/- awake; and CopyPages. -/
namespace Go.Proofs.Ytdpbfmookhgilaa
open Go.RowKit Go.BigFrame
set_option linter.unusedVariables false
set_option linter.unusedSimpArgs false
attribute [local go_sem] szIs_lit row_at row_past row_alloc nf_alloc row_set nf_set row_cell nf_cell row_drew nf_drew row_drewN nf_drewN cell_setRow frozen_setRow nlt1 nlt2 nlt3 nlt4 nne1 nne2 nne3 nen1 nen2 nen3
attribute [local go_sem] by_get by_set
def CW2 (wb g t : Nat) (u : World) : Prop := u.cell? ⟨wb, 0, none⟩ = some (.pointer (some ⟨g, 0, none⟩)) ∧ u.cell? ⟨wb, 1, none⟩ = some (.pointer (some ⟨t, 0, none⟩))
theorem CW2.only {wb g t b : Nat} {u u' : World} (h : CW2 wb g t u) (hg : u.grownBy u' (some b)) (hne : wb ≠ b) : CW2 wb g t u' :=
  ⟨(World.cell?_of_block (a := ⟨wb, 0, none⟩) (hg.block wb (cell_lt h.1) (fun e => hne (by injection e)))).trans h.1, (World.cell?_of_block (a := ⟨wb, 1, none⟩) (hg.block wb (cell_lt h.2) (fun e => hne (by injection e)))).trans h.2⟩
theorem CW2.below {wb g t : Nat} {u u' : World} (h : CW2 wb g t u) (hb : Below u.heap.size u u') : CW2 wb g t u' :=
  ⟨(hb.cell (p := ⟨wb, 0, none⟩) (cell_lt h.1)).trans h.1, (hb.cell (p := ⟨wb, 1, none⟩) (cell_lt h.2)).trans h.2⟩
theorem bs45x (w : World) : (Instr.buildSlice 45 10 #[(0, .int .u8 97), (1, .int .u8 98), (2, .int .u8 99), (3, .int .u8 100), (4, .int .u8 101), (5, .int .u8 102), (6, .int .u8 103), (7, .int .u8 104), (8, .int .u8 105), (9, .int .u8 106)]).run Try.prog w = .ok (.slice (some ⟨w.heap.size, 0, none⟩) 10 10) (w.alloc (.cells #[.int .u8 97, .int .u8 98, .int .u8 99, .int .u8 100, .int .u8 101, .int .u8 102, .int .u8 103, .int .u8 104, .int .u8 105, .int .u8 106] 5)) := by simp [go_sem]
/-- '[]byte("..")': ten bytes are laid, then marked. -/
structure Mk (w u : World) (c : Array Value) : Prop where
  run : (convert 45 45 (.slice (some ⟨w.heap.size, 0, none⟩) 10 10)).run Try.prog (w.alloc (.cells c 5)) = .ok (.slice (some ⟨w.heap.size, 0, none⟩) 10 10) u
  bl : Below w.heap.size w u
  sz : u.heap.size = w.heap.size + 1
  cs : ∀ j, u.cell? ⟨w.heap.size, j, none⟩ = c[j]?
theorem mk_ok (w : World) (c : Array Value) (hc : c.size = 10) : Mk w ((w.alloc (.cells c 5)).freeze ⟨w.heap.size, 10, none⟩ 1) c := by
  have hnew : (w.alloc (.cells c 5)).heap[w.heap.size]? = some (.cells c 5 (0, 0)) := heap_alloc_new w _
  have hfr : ((w.alloc (.cells c 5)).freeze ⟨w.heap.size, 10, none⟩ 1).heap[w.heap.size]? = some (.cells c 5 (10, 11)) := by
    unfold World.freeze
    rw [if_neg (by decide)]
    show (Array.modify _ w.heap.size _)[w.heap.size]? = _
    rw [Array.getElem?_modify, if_pos rfl, hnew]; rfl
  refine ⟨?_, ?_, by simp [World.freeze], fun j => ?_⟩
  · have hs : (w.alloc (.cells c 5)).shape? w.heap.size = some (5, 10) := by
      unfold World.shape?
      rw [hnew]
      show some ((5 : TypeId), c.size) = _
      rw [hc]
    unfold convert
    simp [run_underlying Try.underlying45, run_underlying Try.underlying5, markStringish, hs]
  · have hb : Below w.heap.size w (w.alloc (.cells c 5)) := (Below.refl _ _).alloc (Nat.le_refl _) _
    refine ⟨hb.os, hb.tape, hb.output, by simp [World.freeze], fun k hk => ?_⟩
    rw [← hb.block k hk]
    have : w.heap.size ≠ k := by omega
    unfold World.freeze
    rw [if_neg (by decide)]
    show (Array.modify _ w.heap.size _)[k]? = _
    rw [Array.getElem?_modify, if_neg this]
  · simp [World.cell?, hfr]
theorem ten_cells {w u : World} (h : Mk w u #[.int .u8 97, .int .u8 98, .int .u8 99, .int .u8 100, .int .u8 101, .int .u8 102, .int .u8 103, .int .u8 104, .int .u8 105, .int .u8 106]) : ∀ j v, abc[j]? = some v → u.cell? ⟨w.heap.size, j, none⟩ = some (.int .u8 v) := by
  intro j v hv
  rw [h.cs j]
  have e : #[.int .u8 97, .int .u8 98, .int .u8 99, .int .u8 100, .int .u8 101, .int .u8 102, .int .u8 103, .int .u8 104, .int .u8 105, .int .u8 106] = (abc.map fun x => Value.int .u8 x).toArray := rfl
  rw [e, List.getElem?_toArray, List.getElem?_map, hv]; rfl
set_option maxHeartbeats 4000000 in
set_option maxRecDepth 100000 in
theorem awake_ok (w : World) : Calls Try.prog 6 #[] w fun r w' => r = .returned (.bool true) ∧ Below w.heap.size w w' := by
  obtain ⟨w1, hw1⟩ : ∃ w1, w.alloc (.cells #[.int .i64 0, .int .i64 7, .bool true, .int .i64 1, .int .i64 3, .bool true] 31) = w1 := ⟨_, rfl⟩
  have hB1 : Below w.heap.size w w1 := by rw [← hw1]; exact (Below.refl _ _).alloc (Nat.le_refl _) _
  have hps : Blk w1 w.heap.size #[.int .i64 0, .int .i64 7, .bool true, .int .i64 1, .int .i64 3, .bool true] := by rw [← hw1]; exact Blk.of_heap (heap_at rfl)
  have HST := Lib.hid (start_ok w1 w.heap.size hps)
  have HB1 := Lib.hid hB1
  have HL1 := Lib.hid hps.lt
  clear hB1 hps
  go_enter Try.func6, Try.ntmps6
  go_wp2_with (rw [hw1])
  clear hw1
  refine HST.out.mono ?_
  rintro r w2 ⟨wb, g, b, t, M, rfl, c0, c1, hne, hbw, ht, hb2⟩
  have HT := Lib.hid ht
  have HB2 := Lib.hid (HB1.out.trans (Below.mono hb2 HB1.out.size))
  have HNE := Lib.hid (And.intro hne (show w.heap.size ≤ b by have := HL1.out; omega))
  have HC := Lib.hid (show CW2 wb g t w2 from ⟨c0, c1⟩)
  clear ht hb2 hne hbw HST HB1 HL1
  go_wp2_with fail
  have k0 : CW2 wb g t w2.drew := HC.out
  refine wp_theta [11] [9, 10, 11] (fun i v => i = 11 → v = .tuple #[.int .i64 0, .int .i64 0]) (fun ρ D u => CW2 wb g t u ∧ (D 9 = false → u = w2.drew) ∧ (D 9 = true → D 10 = false → u = w2.drew.alloc (.cells #[.int .u8 97, .int .u8 98, .int .u8 99, .int .u8 100, .int .u8 101, .int .u8 102, .int .u8 103, .int .u8 104, .int .u8 105, .int .u8 106] 5)) ∧ (D 10 = true → D 11 = false → u = ((w2.drew.alloc (.cells #[.int .u8 97, .int .u8 98, .int .u8 99, .int .u8 100, .int .u8 101, .int .u8 102, .int .u8 103, .int .u8 104, .int .u8 105, .int .u8 106] 5)).freeze ⟨w2.heap.size, 10, none⟩ 1)) ∧ (D 11 = true → TM u g b t (putB (putB M 2042 [97, 98, 99, 100, 101, 102]) 768 [103, 104, 105, 106]) 16 L1 E2 ∧ Below w.heap.size w u)) (CW2 wb g t) ?_ ?_ ?_ ?_ ?_ ?_ ?_ ?_ ?_ ?_
  · kernel_rfl
  · kernel_rfl
  · kernel_rfl
  · kernel_rfl
  · kernel_rfl
  · kernel_rfl
  · exact fun i hi => ⟨_, fun _ => rfl⟩
  · exact ⟨k0, fun _ => rfl, by simp, by simp, by simp⟩
  · exact fun ρ D u h => h.1
  · intro θ hθ
    simp only [SegsT, List.take_succ_cons, List.take_zero, List.drop_succ_cons, List.drop_zero, Nat.sub_zero, Nat.reduceSub, Nat.reduceAdd, List.drop_nil, List.take_nil]
    haveI i1 : Nonempty (Wd (CW2 wb g t)) := ⟨⟨_, k0⟩⟩
    have l0 : ∀ s : Wd (CW2 wb g t), s.val.cell? ⟨wb, 0, none⟩ = some (.pointer (some ⟨g, 0, none⟩)) := fun s => s.prop.1
    have l1 : ∀ s : Wd (CW2 wb g t), s.val.cell? ⟨wb, 1, none⟩ = some (.pointer (some ⟨t, 0, none⟩)) := fun s => s.prop.2
    have t11 := hθ 11 (by decide) rfl
    have HMK := Lib.hid (mk_ok w2.drew #[.int .u8 97, .int .u8 98, .int .u8 99, .int .u8 100, .int .u8 101, .int .u8 102, .int .u8 103, .int .u8 104, .int .u8 105, .int .u8 106] rfl)
    clear k0 c0 c1
    repeat (go_big_quiet_step (fail))
    refine wpQuiet_nil ?_
    rw [if_neg (by decide)]
    refine ⟨.slice (some ⟨w2.heap.size, 0, none⟩) 10 10, detOK_run [] [10, 11] (by kernel_rfl) (by kernel_rfl) (fun ρ D u hq hK => ?_), ?_⟩
    · have h9 := hq.now
      have h10 := hq.not 10 (by simp)
      have h11 := hq.not 11 (by simp)
      have hu := hK.2.1 h9
      subst hu
      exact ⟨_, run_box_any (s := Instr.buildSlice 45 10 #[(0, .int .u8 97), (1, .int .u8 98), (2, .int .u8 99), (3, .int .u8 100), (4, .int .u8 101), (5, .int .u8 102), (6, .int .u8 103), (7, .int .u8 104), (8, .int .u8 105), (9, .int .u8 106)]) (by kernel_rfl) (bs45x w2.drew), hK.1.below ((Below.refl _ _).alloc (Nat.le_refl _) _), by simp [upd], fun _ _ => rfl, by simp [upd, h10], by simp [upd, h11]⟩
    try go_frame
    repeat (go_big_quiet_step (fail))
    refine wpQuiet_nil ?_
    rw [if_neg (by decide)]
    refine ⟨.slice (some ⟨w2.heap.size, 0, none⟩) 10 10, detOK_run [9] [11] (by kernel_rfl) (by kernel_rfl) (fun ρ D u hq hK => ?_), ?_⟩
    · have h9 := hq.did 9 (by simp)
      have h11 := hq.not 11 (by simp)
      have hu := hK.2.2.1 h9 hq.now
      subst hu
      exact ⟨_, run_box_any (s := convert 45 45 (.slice (some ⟨w2.heap.size, 0, none⟩) 10 10)) (by kernel_rfl) HMK.out.run, HC.out.below ((Below.refl w2.heap.size w2).drew.trans HMK.out.bl), by simp [upd, h9], by simp [upd], fun _ _ => rfl, by simp [upd, h11]⟩
    try go_frame
    repeat (go_big_quiet_step (fail))
    refine wpQuiet_nil ?_
    rw [if_pos (by decide)]
    refine ⟨thOK_call [9, 10] [] 8 _ _ (by kernel_rfl) rfl (by kernel_rfl) #[.pointer (some ⟨g, 0, none⟩), .pointer (some ⟨t, 0, none⟩), .int .u32 250, .slice (some ⟨w2.heap.size, 0, none⟩) 10 10] (by kernel_rfl) (by kernel_rfl) (fun ρ D u hq hK => ?_), ?_⟩
    · have hu := hK.2.2.2.1 (hq.did 10 (by simp)) hq.now
      subst hu
      have hal : Below w2.heap.size w2 ((w2.drew.alloc (.cells #[.int .u8 97, .int .u8 98, .int .u8 99, .int .u8 100, .int .u8 101, .int .u8 102, .int .u8 103, .int .u8 104, .int .u8 105, .int .u8 106] 5)).freeze ⟨w2.heap.size, 10, none⟩ 1) := (Below.refl w2.heap.size w2).drew.trans HMK.out.bl
      have hsz : ((w2.drew.alloc (.cells #[.int .u8 97, .int .u8 98, .int .u8 99, .int .u8 100, .int .u8 101, .int .u8 102, .int .u8 103, .int .u8 104, .int .u8 105, .int .u8 106] 5)).freeze ⟨w2.heap.size, 10, none⟩ 1).heap.size = w2.heap.size + 1 := HMK.out.sz
      have hcs : ∀ j v, abc[j]? = some v → ((w2.drew.alloc (.cells #[.int .u8 97, .int .u8 98, .int .u8 99, .int .u8 100, .int .u8 101, .int .u8 102, .int .u8 103, .int .u8 104, .int .u8 105, .int .u8 106] 5)).freeze ⟨w2.heap.size, 10, none⟩ 1).cell? ⟨w2.heap.size, j, none⟩ = some (.int .u8 v) := ten_cells (w := w2.drew) HMK.out
      refine (out_ok (sb := w2.heap.size) (HT.out.below hal) (by rw [hsz]; omega) (by have := HT.out.mp.hb.lt; omega) hcs rfl rfl).mono ?_
      rintro r u' ⟨rfl, q1, q2⟩
      exact ⟨_, rfl, fun _ => rfl, hK.1.only q2 HNE.out.1, by simp [upd, hq.did 9 (by simp)], by simp [upd, hq.did 10 (by simp)], by simp [upd], fun _ => ⟨q1, below_only (HB2.out.trans (Below.mono hal HB2.out.size)) q2 HNE.out.2 (Nat.le_trans HB2.out.size hal.size)⟩⟩
    rw [t11]
    try go_frame
    repeat (go_big_quiet_step (fail))
    refine wpQuiet_nil ?_
    intro u hK
    have HC2 := Lib.hid hK.1
    have HT2 := Lib.hid (hK.2.2.2.2 rfl).1
    have HB3 := Lib.hid (hK.2.2.2.2 rfl).2
    clear hK t11 l0 l1 i1 hθ HC HT HB2
    obtain ⟨c0, c1⟩ := HC2.out
    have HL := Lib.hid (load8_ok HT2.out.mp 771 (by decide))
    go_wp2_with fail
    have HL2 := Lib.hid (show Calls Try.prog 9 #[.pointer (some ⟨g, 0, none⟩), .int .i64 771] u _ from HL.out)
    refine HL2.out.mono ?_
    rintro r u2 ⟨rfl, rfl⟩
    rw [putB_j]
    go_wp2_with fail
    have k0 : CW2 wb g t u.drew := HC2.out
    clear HL HL2 c0 c1
    refine wp_theta [9] [9] (fun i v => i = 9 → v = .tuple #[.slice none 0 0, .int .i64 2, .int .i64 51]) (fun ρ D v => (CW2 wb g t v ∧ Below u.heap.size u v)) (CW2 wb g t) ?_ ?_ ?_ ?_ ?_ ?_ ?_ ?_ ?_ ?_
    · kernel_rfl
    · kernel_rfl
    · kernel_rfl
    · kernel_rfl
    · kernel_rfl
    · kernel_rfl
    · exact fun i hi => ⟨_, fun _ => rfl⟩
    · exact ⟨k0, (Below.refl _ _).drew⟩
    · exact fun ρ D u h => h.1
    · intro θ hθ
      simp only [SegsT, List.take_succ_cons, List.take_zero, List.drop_succ_cons, List.drop_zero, Nat.sub_zero, Nat.reduceSub, Nat.reduceAdd, List.drop_nil, List.take_nil]
      haveI i1 : Nonempty (Wd (CW2 wb g t)) := ⟨⟨_, k0⟩⟩
      have l0 : ∀ s : Wd (CW2 wb g t), s.val.cell? ⟨wb, 0, none⟩ = some (.pointer (some ⟨g, 0, none⟩)) := fun s => s.prop.1
      have l1 : ∀ s : Wd (CW2 wb g t), s.val.cell? ⟨wb, 1, none⟩ = some (.pointer (some ⟨t, 0, none⟩)) := fun s => s.prop.2
      have t9 := hθ 9 (by decide) rfl
      clear k0
      repeat (go_big_quiet_step (fail))
      refine wpQuiet_nil ?_
      rw [if_pos (by decide)]
      refine ⟨thOK_call [] [] 10 _ _ (by kernel_rfl) rfl (by kernel_rfl) #[.pointer (some ⟨g, 0, none⟩), .pointer (some ⟨t, 0, none⟩), .int .u32 500, .int .i64 20] (by kernel_rfl) (by kernel_rfl) (fun ρ D v hq hK => ?_), ?_⟩
      · refine (in_fault (HT2.out.below hK.2).ts rfl rfl).mono ?_
        rintro r u' ⟨rfl, hb⟩
        exact ⟨_, rfl, fun _ => rfl, hK.1.below hb, hK.2.trans (Below.mono hb hK.2.size)⟩
      rw [t9]
      try go_frame
      repeat (go_big_quiet_step (fail))
      refine wpQuiet_nil ?_
      intro v hK
      have HF := Lib.hid (HB3.out.trans (Below.mono hK.2 HB3.out.size))
      clear hK t9 l0 l1 i1 hθ
      go_wp2_with fail
      go_ret
      exact ⟨by first | rfl | simp, HF.out⟩

theorem copyPages (a n : Int) (ha : 0 ≤ a ∧ a ≤ 4294967295) (w : World) : Calls Try.prog 3 #[.int .u32 a, .int .i64 n] w fun r w' => r = .returned (.bool true) ∧ Below w.heap.size w w' :=
  copyPages_walk awake_ok a n ha.1 ha.2 w
end Go.Proofs.Ytdpbfmookhgilaa
