import Derived.Test.YthbbiobffoihaaaRep
/- Get, Drop. -/
namespace Go.Proofs.Ythbbiobffoihaaa
open Go.RowKit Go.BigFrame
set_option linter.unusedVariables false
set_option linter.unusedSimpArgs false
attribute [local go_sem] szIs_lit row_at row_past row_alloc nf_alloc row_set nf_set row_cell nf_cell row_drew nf_drew row_drewN nf_drewN cell_setRow frozen_setRow nlt1 nlt2 nlt3 nlt4 nne1 nne2 nne3 nen1 nen2 nen3
set_option maxRecDepth 20000
theorem Ch.row {F : Nat → Prop} {w w1 : World} (h : Ch F w w1) {g : Nat} (cs : Array Value) (hg : g < w.heap.size → F g) : Ch F w (w1.setRow g cs) :=
  ⟨by simpa using h.os, by simpa using h.tape, by simpa using h.output, by simpa using h.size, fun k hk hn => (setRow_other w1 g k cs (fun e => hn (by rw [e]; exact hg (by rw [← e]; exact hk)))).trans (h.block k hk hn)⟩
theorem store5 (u : World) (r : Nat) (a0 a1 a2 a3 a4 x0 x1 x2 x3 x4 : Int) (h : Blk u r #[.int .i64 a0, .int .i64 a1, .int .i64 a2, .int .i64 a3, .int .i64 a4]) :
    ∃ u', (Instr.storeAt 40 (.pointer (some ⟨r, 0, none⟩)) (.agg #[.int .i64 x0, .int .i64 x1, .int .i64 x2, .int .i64 x3, .int .i64 x4])).run Try.prog u = .ok () u' ∧ Blk u' r #[.int .i64 x0, .int .i64 x1, .int .i64 x2, .int .i64 x3, .int .i64 x4] ∧ Ch (· = r) u u' ∧ u'.heap.size = u.heap.size := by
  obtain ⟨hr, hn, hc, hf⟩ := h.all
  have b0 := h.put 0 (.int .i64 x0)
  have b1 := b0.put 1 (.int .i64 x1)
  have b2 := b1.put 2 (.int .i64 x2)
  have b3 := b2.put 3 (.int .i64 x3)
  have b4 := b3.put 4 (.int .i64 x4)
  refine ⟨_, ?_, b4, (((((Ch.refl (· = r) u).cell ⟨r, 0, none⟩ (.int .i64 x0) fun _ => rfl).cell ⟨r, 1, none⟩ (.int .i64 x1) fun _ => rfl).cell ⟨r, 2, none⟩ (.int .i64 x2) fun _ => rfl).cell ⟨r, 3, none⟩ (.int .i64 x3) fun _ => rfl).cell ⟨r, 4, none⟩ (.int .i64 x4) fun _ => rfl, by simp⟩
  obtain ⟨hr0, hn0, hc0, hf0⟩ := b0.all
  obtain ⟨hr1, hn1, hc1, hf1⟩ := b1.all
  obtain ⟨hr2, hn2, hc2, hf2⟩ := b2.all
  obtain ⟨hr3, hn3, hc3, hf3⟩ := b3.all
  simp [go_sem, hc, hf, hc0, hf0, hc1, hf1, hc2, hf2, hc3, hf3]
theorem load5 (u : World) (r : Nat) (v0 v1 v2 v3 v4 : Value) (h : Blk u r #[v0, v1, v2, v3, v4]) : (Instr.loadAt 40 (.pointer (some ⟨r, 0, none⟩))).run Try.prog u = .ok (.agg #[v0, v1, v2, v3, v4]) u := by
  obtain ⟨hr, hn, hc, hf⟩ := h.all
  simp [go_sem, hr, hn, hc, hf]
def DropC (b : Nat) (kd wh at_ fg v : Int) (u : World) : Prop := row u b = #[.int .i64 kd, .int .i64 wh, .int .i64 at_, .int .i64 fg, .int .i64 v] ∧ nf u b = true ∧ u.cell? ⟨b, 4, none⟩ = some (.int .i64 v)
theorem PL.foot_del {α : Type} {m : Nat} {L : PL α} {x : Int} {k : Nat} (h : PL.foot m (PL.del L x) k) : PL.foot m L k := h.elim .inl fun q => .inr ((PL.bs_del_sub L x).subset q)
theorem PL.foot_set {α : Type} {m : Nat} {L : PL α} {x : Int} {a : α} {k : Nat} (h : PL.foot m (PL.set L x a) k) : PL.foot m L k := by unfold PL.foot at h ⊢; rwa [PL.bs_set] at h
theorem FR.all_del {g m : Nat} {L : PL Fl} {x : Int} {k : Nat} (h : FR.all g m (PL.del L x) k) : FR.all g m L k := h.imp id PL.foot_del
theorem FR.all_set {g m : Nat} {L : PL Fl} {x : Int} {a : Fl} {k : Nat} (h : FR.all g m (PL.set L x a) k) : FR.all g m L k := h.imp id PL.foot_set
section
variable {w w' : World} {g m : Nat} {L : PL Fl}
theorem fget_no (h : FR w g m L) {x : Int} (hg : PL.get L x = none) : Calls Try.prog 19 #[.pointer (some ⟨g, 0, none⟩), .int .i64 x] w fun r w' => r = .returned (.tuple #[.agg #[.int .i64 0, .int .i64 0, .int .i64 0, .int .i64 0, .int .i64 0], .int .i64 221]) ∧ Below w.heap.size w w' := by
  have H := Lib.hid (find_no (h.alloc (.cells #[.int .i64 0, .int .i64 0, .int .i64 0, .int .i64 0, .int .i64 0] 40)) hg)
  have hb : Below w.heap.size w (w.alloc (.cells #[.int .i64 0, .int .i64 0, .int .i64 0, .int .i64 0, .int .i64 0] 40)) := (Below.refl _ _).alloc (Nat.le_refl _) _
  have hk : Blk (w.alloc (.cells #[.int .i64 0, .int .i64 0, .int .i64 0, .int .i64 0, .int .i64 0] 40)) w.heap.size #[.int .i64 0, .int .i64 0, .int .i64 0, .int .i64 0, .int .i64 0] := Blk.of_heap (heap_at rfl)
  have HB := Lib.hid hb
  have HK := Lib.hid hk
  clear h hb hk hg
  generalize hu : w.alloc (.cells #[.int .i64 0, .int .i64 0, .int .i64 0, .int .i64 0, .int .i64 0] 40) = u at *
  obtain ⟨kr, kn, kc, kf⟩ := HK.out.all
  go_enter Try.func19, Try.ntmps19
  go_wp2_with (rw [hu])
  refine H.out.mono ?_
  rintro r w' ⟨rfl, rfl⟩
  clear hu
  go_wp2_with fail
  refine bodyPost_ret (ret_ct rfl 5 _ _ w.heap.size rfl (by simp [go_sem, kn]) (by simp [go_sem, kr]) (by kernel_rfl) (by kernel_rfl)) rfl ⟨by simp [go_sem, kr, kn], ?_⟩
  repeat (first | exact HB.out | (refine Below.setCell ?_ ?h _; (case h => exact Nat.le_refl _)))
theorem fget_yes (h : FR w g m L) {x : Int} {b : Nat} {f : Fl} (hg : PL.get L x = some (b, f)) : Calls Try.prog 19 #[.pointer (some ⟨g, 0, none⟩), .int .i64 x] w fun r w' => r = .returned (.tuple #[.agg f.cells, .int .i64 0]) ∧ Below w.heap.size w w' := by
  have H := Lib.hid (find_yes (h.alloc (.cells #[.int .i64 0, .int .i64 0, .int .i64 0, .int .i64 0, .int .i64 0] 40)) hg)
  have hb : Below w.heap.size w (w.alloc (.cells #[.int .i64 0, .int .i64 0, .int .i64 0, .int .i64 0, .int .i64 0] 40)) := (Below.refl _ _).alloc (Nat.le_refl _) _
  have hk : Blk (w.alloc (.cells #[.int .i64 0, .int .i64 0, .int .i64 0, .int .i64 0, .int .i64 0] 40)) w.heap.size #[.int .i64 0, .int .i64 0, .int .i64 0, .int .i64 0, .int .i64 0] := Blk.of_heap (heap_at rfl)
  obtain ⟨d0, d1, d2, d3, d4, d5, d6, d7⟩ := (h.alloc (.cells #[.int .i64 0, .int .i64 0, .int .i64 0, .int .i64 0, .int .i64 0] 40)).cells hg
  have hne : b < w.heap.size := h.lt (.inr (.inr (PL.get_bs hg)))
  have HB := Lib.hid hb
  have HK := Lib.hid hk
  clear h hb hk hg
  generalize hu : w.alloc (.cells #[.int .i64 0, .int .i64 0, .int .i64 0, .int .i64 0, .int .i64 0] 40) = u at *
  obtain ⟨kr, kn, kc, kf⟩ := HK.out.all
  go_enter Try.func19, Try.ntmps19
  go_wp2_with (rw [hu])
  refine H.out.mono ?_
  rintro r w' ⟨rfl, rfl⟩
  clear hu
  go_wp2_with fail
  refine bodyPost_ret (ret_ct rfl 5 _ _ w.heap.size rfl (by simp [go_sem, kn]) (by simp [go_sem, kr, d6, Fl.cells]) (by kernel_rfl) (by kernel_rfl)) rfl ⟨by simp [go_sem, kr, kn, d6, d7, Fl.cells], ?_⟩
  repeat (first | exact HB.out | (refine Below.setCell ?_ ?h _; (case h => exact Nat.le_refl _)) | (refine below_row ?_ ?h _; (case h => exact Nat.le_refl _)))
set_option maxHeartbeats 1000000 in
theorem drop_last (h : FR w g m L) {x : Int} {b : Nat} (kd wh at_ fg : Int) (hg : PL.get L x = some (b, ⟨kd, wh, at_, fg, 1⟩)) : Calls Try.prog 20 #[.pointer (some ⟨g, 0, none⟩), .int .i64 x] w fun r w' => r = .returned (.tuple #[.agg #[.int .i64 kd, .int .i64 wh, .int .i64 at_, .int .i64 fg, .int .i64 0], .bool true, .int .i64 0]) ∧ FR w' g m (PL.del L x) ∧ Ch (PL.foot m L) w w' := by
  have h1 := h.alloc (.cells #[.int .i64 0, .int .i64 0, .int .i64 0, .int .i64 0, .int .i64 0] 40)
  have H := Lib.hid (find_yes h1 hg)
  have hk : Blk (w.alloc (.cells #[.int .i64 0, .int .i64 0, .int .i64 0, .int .i64 0, .int .i64 0] 40)) w.heap.size #[.int .i64 0, .int .i64 0, .int .i64 0, .int .i64 0, .int .i64 0] := Blk.of_heap (heap_at rfl)
  have hc1 : Ch (PL.foot m L) w (w.alloc (.cells #[.int .i64 0, .int .i64 0, .int .i64 0, .int .i64 0, .int .i64 0] 40)) := (Ch.refl _ _).alloc _
  have hbl : b < w.heap.size := h.lt (.inr (.inr (PL.get_bs hg)))
  have hml : m < w.heap.size := h.lt (.inr (.inl rfl))
  have hmb : m ≠ b := fun e => h.pm.ap (by rw [e]; exact PL.get_bs hg)
  have hgl : ∀ k, FR.all g m L k → k < w.heap.size := fun k q => h.lt q
  generalize hu : w.alloc (.cells #[.int .i64 0, .int .i64 0, .int .i64 0, .int .i64 0, .int .i64 0] 40) = u at *
  obtain ⟨d0, d1, d2, d3, d4, d5, d6, d7⟩ := h1.cells hg
  simp only at d4 d6
  have h2 := h1.set (i := 4) (v := .int .i64 0) (f' := ⟨kd, wh, at_, fg, 0⟩) hg rfl
  have hc2 := hc1.trans (FR.ch_set (w := u) (m := m) (i := 4) (v := .int .i64 0) hg) (fun k _ q => q)
  have hk2 := hk.same (heap_setCell_other u ⟨b, 4, none⟩ w.heap.size (.int .i64 0) (by simp; omega))
  have hg2 : PL.get (PL.set L x ⟨kd, wh, at_, fg, 0⟩) x = some (b, ⟨kd, wh, at_, fg, 0⟩) := by rw [PL.get_set, if_pos rfl, hg]; rfl
  obtain ⟨w3, e1, e2, e3, e4⟩ := h2.pm.rem ty50 ty3 x
  have hb3 : Blk w3 b (Fl.cells ⟨kd, wh, at_, fg, 0⟩) := (h2.pm.row hg2).ch e3 (Ne.symm hmb)
  have hk3 := hk2.ch e3 (show ¬ w.heap.size = m by omega)
  have hc3 := hc2.trans e3 (fun k _ q => .inl q)
  have h3 : FR w3 g m (PL.del L x) := by
    have hdd : PL.del (PL.set L x ⟨kd, wh, at_, fg, 0⟩) x = PL.del L x := by
      unfold PL.del PL.set
      rw [List.filter_map]
      have : (fun p : Int × Nat × Fl => !(p.1 == x)) ∘ (fun p => if p.1 == x then (p.1, p.2.1, ⟨kd, wh, at_, fg, 0⟩) else p) = fun p => !(p.1 == x) := by
        funext p; simp only [Function.comp]; split <;> simp_all
      rw [this]
      refine (List.map_congr_left fun p hp => ?_).trans (List.map_id _)
      have := (List.mem_filter.1 hp).2
      simp only [Bool.not_eq_true'] at this
      rw [this]; rfl
    rw [hdd] at e2
    exact ⟨h2.blk.ch e3 (fun e => h.gm (.inl e)), e2, fun q => h.gm (q.elim .inl fun q => .inr ((PL.bs_del_sub L x).subset q)), fun y hy => h.ids y (by rw [PL.ks_del] at hy; exact (List.mem_filter.1 hy).1)⟩
  have c0 := h1.c0
  have c0' := h2.c0
  obtain ⟨d20, d21, d22, d23, d24, d25, d26, d27⟩ := h2.cells hg2
  simp only at d24
  obtain ⟨kr, kn, kc, kf⟩ := hk2.all
  have HF := Lib.hid h3
  have HC := Lib.hid hc3
  have HK := Lib.hid hk3
  have HB3 := Lib.hid hb3
  have HGL := Lib.hid hgl
  have HBL := Lib.hid hbl
  clear h h1 h2 hc1 hc2 hk hk2 hg hg2 hb3 hgl hbl h3 hc3 hk3 e2 e3 e4
  go_enter Try.func20, Try.ntmps20
  go_wp2_with (rw [hu])
  refine H.out.mono ?_
  rintro r w' ⟨rfl, rfl⟩
  clear hu
  go_wp2_with fail
  have hb4 : Blk w3.drew b #[.int .i64 kd, .int .i64 wh, .int .i64 at_, .int .i64 fg, .int .i64 0] := HB3.out
  have hk4 : Blk w3.drew w.heap.size #[.int .i64 0, .int .i64 0, .int .i64 0, .int .i64 0, .int .i64 0] := HK.out
  obtain ⟨w4, s1, s2, s3, s4⟩ := store5 w3.drew w.heap.size 0 0 0 0 0 kd wh at_ fg 0 hk4
  have hb5 := hb4.ch s3 (show ¬ b = w.heap.size by have := HBL.out; omega)
  obtain ⟨b1, b2, b3, b4⟩ := hb4.all
  obtain ⟨b5, b6, b7, b8⟩ := hb5.all
  have k4 : DropC b kd wh at_ fg 0 w3.drew := ⟨b1, b2, (b3 4).trans rfl⟩
  have k5 : DropC b kd wh at_ fg 0 w4 := ⟨b5, b6, (b7 4).trans rfl⟩
  have HS := Lib.hid (And.intro s1 (And.intro s2 (And.intro s3 s4)))
  have hcc : ∀ u, DropC b kd wh at_ fg 0 u → row u b = #[.int .i64 kd, .int .i64 wh, .int .i64 at_, .int .i64 fg, .int .i64 0] ∧ nf u b = true ∧ u.cell? ⟨b, 4, none⟩ = some (.int .i64 0) := fun u q => q
  obtain ⟨CC, hCC⟩ : ∃ C, C = DropC b kd wh at_ fg 0 := ⟨_, rfl⟩
  rw [← hCC] at k4 k5 hcc
  have HB4 := Lib.hid hb4
  have HB5 := Lib.hid hb5
  clear b1 b2 b3 b4 b5 b6 b7 b8 s1 s2 s3 s4 hb4 hb5 hk4 kr kn kc kf d0 d1 d2 d3 d4 d5 d6 d7 c0 c0' hCC 
  refine wp_theta [] [2, 8] (fun _ _ => True) (fun ρ D u => u = if D 8 then w4 else w3.drew) (CC) ?_ ?_ ?_ ?_ ?_ ?_ ?_ ?_ ?_ ?_
  · kernel_rfl
  · kernel_rfl
  · kernel_rfl
  · kernel_rfl
  · kernel_rfl
  · kernel_rfl
  · exact fun i hi => ⟨undef, trivial⟩
  · rfl
  · rintro ρ D u rfl; split; exact k5; exact k4
  · intro θ hθ
    simp only [SegsT, List.take_succ_cons, List.take_zero, List.drop_succ_cons, List.drop_zero, Nat.sub_zero, Nat.reduceSub, Nat.reduceAdd, List.drop_nil, List.take_nil]
    haveI i1 : Nonempty (Wd CC) := ⟨⟨_, k4⟩⟩
    have l0 : ∀ s : Wd CC, row s.val b = #[.int .i64 kd, .int .i64 wh, .int .i64 at_, .int .i64 fg, .int .i64 0] := fun s => (hcc _ s.prop).1
    have l1 : ∀ s : Wd CC, nf s.val b = true := fun s => (hcc _ s.prop).2.1
    have l2 : ∀ s : Wd CC, s.val.cell? ⟨b, 4, none⟩ = some (.int .i64 0) := fun s => (hcc _ s.prop).2.2
    clear k4 k5 hcc
    repeat (go_big_quiet_step (fail))
    refine wpQuiet_nil ?_
    rw [if_neg (by decide)]
    refine ⟨.agg #[.int .i64 kd, .int .i64 wh, .int .i64 at_, .int .i64 fg, .int .i64 0], detOK_run [] [] (by kernel_rfl) (by kernel_rfl) (fun ρ D u hq hK => ?_), ?_⟩
    · refine ⟨u, run_box_any (s := Instr.loadAt 40 (.pointer (some ⟨b, 0, none⟩))) (by kernel_rfl) (load5 u b _ _ _ _ _ ?_), by simpa [upd] using hK⟩
      subst hK
      split
      · exact HB5.out
      · exact HB4.out
    go_frame
    repeat (go_big_quiet_step (fail))
    refine wpQuiet_nil ?_
    rw [if_neg (by decide)]
    refine ⟨undef, detOK_skip [] [] (by kernel_rfl) (by kernel_rfl) (fun ρ D u hq hK => ?_), ?_⟩
    · have h8 := hq.now
      rw [h8] at hK
      subst hK
      exact ⟨w4, run_skip_any (s := Instr.storeAt 40 (.pointer (some ⟨w.heap.size, 0, none⟩)) (.agg #[.int .i64 kd, .int .i64 wh, .int .i64 at_, .int .i64 fg, .int .i64 0])) (by kernel_rfl) HS.out.1, by simp [upd]⟩
    repeat (go_big_quiet_step (fail))
    refine wpQuiet_nil ?_
    intro u hK
    have hu : u = w4 := by simpa [rst] using hK
    subst hu
    clear hK hθ l0 l1 l2
    obtain ⟨k1, k2, k3, k4⟩ := HS.out.2.1.all
    go_wp2_with fail
    refine bodyPost_ret (ret_ctt rfl 5 _ _ w.heap.size rfl (by simp [go_sem, k2]) (by simp [go_sem, k1]) (by kernel_rfl) (by kernel_rfl)) rfl ⟨by simp [go_sem, k1, k2], ?_, ?_⟩
    · exact (HF.out.drew).ch HS.out.2.2.1 (fun k q e => by have := HGL.out k (FR.all_del q); omega)
    · exact HC.out.drew.trans HS.out.2.2.1 (fun k q e => by omega)
set_option maxHeartbeats 1000000 in
theorem drop_more (h : FR w g m L) {x : Int} {b : Nat} (kd wh at_ fg rf : Int) (hr : 2 ≤ rf) (hr1 : rf ≤ 9223372036854775807) (hg : PL.get L x = some (b, ⟨kd, wh, at_, fg, rf⟩)) : Calls Try.prog 20 #[.pointer (some ⟨g, 0, none⟩), .int .i64 x] w fun r w' => r = .returned (.tuple #[.agg #[.int .i64 kd, .int .i64 wh, .int .i64 at_, .int .i64 fg, .int .i64 (rf - 1)], .bool false, .int .i64 0]) ∧ FR w' g m (PL.set L x ⟨kd, wh, at_, fg, rf - 1⟩) ∧ Ch (PL.foot m L) w w' := by
  have h1 := h.alloc (.cells #[.int .i64 0, .int .i64 0, .int .i64 0, .int .i64 0, .int .i64 0] 40)
  have H := Lib.hid (find_yes h1 hg)
  have hk : Blk (w.alloc (.cells #[.int .i64 0, .int .i64 0, .int .i64 0, .int .i64 0, .int .i64 0] 40)) w.heap.size #[.int .i64 0, .int .i64 0, .int .i64 0, .int .i64 0, .int .i64 0] := Blk.of_heap (heap_at rfl)
  have hc1 : Ch (PL.foot m L) w (w.alloc (.cells #[.int .i64 0, .int .i64 0, .int .i64 0, .int .i64 0, .int .i64 0] 40)) := (Ch.refl _ _).alloc _
  have hbl : b < w.heap.size := h.lt (.inr (.inr (PL.get_bs hg)))
  have hml : m < w.heap.size := h.lt (.inr (.inl rfl))
  have hmb : m ≠ b := fun e => h.pm.ap (by rw [e]; exact PL.get_bs hg)
  have hgl : ∀ k, FR.all g m L k → k < w.heap.size := fun k q => h.lt q
  generalize hu : w.alloc (.cells #[.int .i64 0, .int .i64 0, .int .i64 0, .int .i64 0, .int .i64 0] 40) = u at *
  obtain ⟨d0, d1, d2, d3, d4, d5, d6, d7⟩ := h1.cells hg
  simp only at d4 d6
  have h2 := h1.set (i := 4) (v := .int .i64 (rf - 1)) (f' := ⟨kd, wh, at_, fg, (rf - 1)⟩) hg rfl
  have hc2 := hc1.trans (FR.ch_set (w := u) (m := m) (i := 4) (v := .int .i64 (rf - 1)) hg) (fun k _ q => q)
  have hk2 := hk.same (heap_setCell_other u ⟨b, 4, none⟩ w.heap.size (.int .i64 (rf - 1)) (by simp; omega))
  have hg2 : PL.get (PL.set L x ⟨kd, wh, at_, fg, (rf - 1)⟩) x = some (b, ⟨kd, wh, at_, fg, (rf - 1)⟩) := by rw [PL.get_set, if_pos rfl, hg]; rfl
  have hx1 : IntKind.i64.wrap (rf - 1) = rf - 1 := IntWalk.i64_in _ (by omega)
  have hx2 : ((rf - 1) == 0) = false := by simp; omega
  have hb3 : Blk (u.setCell ⟨b, 4, none⟩ (.int .i64 (rf - 1))) b (Fl.cells ⟨kd, wh, at_, fg, (rf - 1)⟩) := h2.pm.row hg2
  have c0 := h1.c0
  have c0' := h2.c0
  obtain ⟨d20, d21, d22, d23, d24, d25, d26, d27⟩ := h2.cells hg2
  simp only at d24
  obtain ⟨kr, kn, kc, kf⟩ := hk2.all
  have HF := Lib.hid h2
  have HC := Lib.hid hc2
  have HK := Lib.hid hk2
  have HB3 := Lib.hid hb3
  have HGL := Lib.hid hgl
  have HBL := Lib.hid hbl
  clear h h1 h2 hc1 hc2 hk hk2 hg hg2 hb3 hgl hbl 
  go_enter Try.func20, Try.ntmps20
  go_wp2_with (rw [hu])
  refine H.out.mono ?_
  rintro r w' ⟨rfl, rfl⟩
  clear hu
  generalize hU : u.setCell ⟨b, 4, none⟩ (.int .i64 (rf - 1)) = u2 at *
  go_wp2_with (rw [hU])
  clear hU
  have hb4 : Blk u2.drew b #[.int .i64 kd, .int .i64 wh, .int .i64 at_, .int .i64 fg, .int .i64 (rf - 1)] := HB3.out
  have hk4 : Blk u2.drew w.heap.size #[.int .i64 0, .int .i64 0, .int .i64 0, .int .i64 0, .int .i64 0] := HK.out
  obtain ⟨w4, s1, s2, s3, s4⟩ := store5 u2.drew w.heap.size 0 0 0 0 0 kd wh at_ fg (rf - 1) hk4
  have hb5 := hb4.ch s3 (show ¬ b = w.heap.size by have := HBL.out; omega)
  obtain ⟨b1, b2, b3, b4⟩ := hb4.all
  obtain ⟨b5, b6, b7, b8⟩ := hb5.all
  have k4 : DropC b kd wh at_ fg (rf - 1) u2.drew := ⟨b1, b2, (b3 4).trans rfl⟩
  have k5 : DropC b kd wh at_ fg (rf - 1) w4 := ⟨b5, b6, (b7 4).trans rfl⟩
  have HS := Lib.hid (And.intro s1 (And.intro s2 (And.intro s3 s4)))
  have hcc : ∀ u, DropC b kd wh at_ fg (rf - 1) u → row u b = #[.int .i64 kd, .int .i64 wh, .int .i64 at_, .int .i64 fg, .int .i64 (rf - 1)] ∧ nf u b = true ∧ u.cell? ⟨b, 4, none⟩ = some (.int .i64 (rf - 1)) := fun u q => q
  obtain ⟨CC, hCC⟩ : ∃ C, C = DropC b kd wh at_ fg (rf - 1) := ⟨_, rfl⟩
  rw [← hCC] at k4 k5 hcc
  have HB4 := Lib.hid hb4
  have HB5 := Lib.hid hb5
  clear b1 b2 b3 b4 b5 b6 b7 b8 s1 s2 s3 s4 hb4 hb5 hk4 kr kn kc kf d0 d1 d2 d3 d4 d5 d6 d7 c0 c0' hCC d20 d21 d22 d23 d24 d25 d26 d27
  refine wp_theta [] [2, 8] (fun _ _ => True) (fun ρ D u => u = if D 8 then w4 else u2.drew) (CC) ?_ ?_ ?_ ?_ ?_ ?_ ?_ ?_ ?_ ?_
  · kernel_rfl
  · kernel_rfl
  · kernel_rfl
  · kernel_rfl
  · kernel_rfl
  · kernel_rfl
  · exact fun i hi => ⟨undef, trivial⟩
  · rfl
  · rintro ρ D u rfl; split; exact k5; exact k4
  · intro θ hθ
    simp only [SegsT, List.take_succ_cons, List.take_zero, List.drop_succ_cons, List.drop_zero, Nat.sub_zero, Nat.reduceSub, Nat.reduceAdd, List.drop_nil, List.take_nil]
    haveI i1 : Nonempty (Wd CC) := ⟨⟨_, k4⟩⟩
    have l0 : ∀ s : Wd CC, row s.val b = #[.int .i64 kd, .int .i64 wh, .int .i64 at_, .int .i64 fg, .int .i64 (rf - 1)] := fun s => (hcc _ s.prop).1
    have l1 : ∀ s : Wd CC, nf s.val b = true := fun s => (hcc _ s.prop).2.1
    have l2 : ∀ s : Wd CC, s.val.cell? ⟨b, 4, none⟩ = some (.int .i64 (rf - 1)) := fun s => (hcc _ s.prop).2.2
    clear k4 k5 hcc
    repeat (go_big_quiet_step (fail))
    refine wpQuiet_nil ?_
    rw [if_neg (by decide)]
    refine ⟨.agg #[.int .i64 kd, .int .i64 wh, .int .i64 at_, .int .i64 fg, .int .i64 (rf - 1)], detOK_run [] [] (by kernel_rfl) (by kernel_rfl) (fun ρ D u hq hK => ?_), ?_⟩
    · refine ⟨u, run_box_any (s := Instr.loadAt 40 (.pointer (some ⟨b, 0, none⟩))) (by kernel_rfl) (load5 u b _ _ _ _ _ ?_), by simpa [upd] using hK⟩
      subst hK
      split
      · exact HB5.out
      · exact HB4.out
    go_frame
    repeat (go_big_quiet_step (fail))
    refine wpQuiet_nil ?_
    rw [if_neg (by decide)]
    refine ⟨undef, detOK_skip [] [] (by kernel_rfl) (by kernel_rfl) (fun ρ D u hq hK => ?_), ?_⟩
    · have h8 := hq.now
      rw [h8] at hK
      subst hK
      exact ⟨w4, run_skip_any (s := Instr.storeAt 40 (.pointer (some ⟨w.heap.size, 0, none⟩)) (.agg #[.int .i64 kd, .int .i64 wh, .int .i64 at_, .int .i64 fg, .int .i64 (rf - 1)])) (by kernel_rfl) HS.out.1, by simp [upd]⟩
    repeat (go_big_quiet_step (fail))
    refine wpQuiet_nil ?_
    intro u hK
    have hu : u = w4 := by simpa [rst] using hK
    subst hu
    clear hK hθ l0 l1 l2
    obtain ⟨k1, k2, k3, k4⟩ := HS.out.2.1.all
    go_wp2_with fail
    refine bodyPost_ret (ret_ctt rfl 5 _ _ w.heap.size rfl (by simp [go_sem, k2]) (by simp [go_sem, k1]) (by kernel_rfl) (by kernel_rfl)) rfl ⟨by simp [go_sem, k1, k2], ?_, ?_⟩
    · exact (HF.out.drew).ch HS.out.2.2.1 (fun k q e => by have := HGL.out k (FR.all_set q); omega)
    · exact HC.out.drew.trans HS.out.2.2.1 (fun k q e => by omega)
end
end Go.Proofs.Ythbbiobffoihaaa
