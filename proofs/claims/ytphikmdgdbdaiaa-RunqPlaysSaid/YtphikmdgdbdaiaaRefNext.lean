import Derived.Test.YtphikmdgdbdaiaaRefTick
/- The reference: Next. -/
namespace Go.Proofs.Ytphikmdgdbdaiaa
open Go.RowKit Go.BigFrame
set_option linter.unusedVariables false
set_option linter.unusedSimpArgs false
attribute [local go_sem] szIs_lit row_at row_past row_alloc nf_alloc row_set nf_set row_cell nf_cell row_drew nf_drew row_drewN nf_drewN cell_setRow frozen_setRow nlt1 nlt2 nlt3 nlt4 nne1 nne2 nne3 nen1 nen2 nen3
section
variable {w w4 : World} {a : RA} {S : QS}
theorem RR.putQ' (H4 : RR w4 a S) {h : Nat} (hh : h < S.n) {A : Option Addr} {c : Nat} {l : List Int} (hr : Rw w4 3 1 A l.length c (iv l)) (hA : blkOf A ≠ some a.x ∧ blkOf A ≠ some a.hb) :
    RR (w4.setCell ⟨a.hb, h * 2 + 1, none⟩ (.slice A l.length c)) (a.setA h A c) (S.setQ h l) := by
  have hc : Ch (· = a.hb) w4 (w4.setCell ⟨a.hb, h * 2 + 1, none⟩ (.slice A l.length c)) := (Ch.refl (· = a.hb) w4).cell _ _ fun _ => rfl
  refine ⟨H4.n1, H4.n8, H4.blk.ch hc H4.ne, ?_, fun i hi => ?_, H4.ne, fun i hi => ?_⟩
  · have := H4.row.put (h * 2 + 1) (.slice A l.length c)
    rwa [rv_setQ a S A c l _ hh] at this
  · by_cases e : i = h
    · subst e
      simp only [RA.setA, QS.setQ, if_pos]
      exact hr.ch hc fun k hk e => hA.2 (by rw [hk, e])
    · simp only [RA.setA, QS.setQ, if_neg e]
      exact (H4.q i hi).ch hc fun k hk e => (H4.qn i hi).2 (by rw [hk, e])
  · by_cases e : i = h
    · subst e; simp only [RA.setA, if_pos]; exact hA
    · simp only [RA.setA, if_neg e]; exact H4.qn i hi
theorem foot_new {n : Nat} {a : RA} {h : Nat} {A : Option Addr} {c N : Nat} (hA : ∀ k, blkOf A = some k → N ≤ k) (k : Nat) (q : (a.setA h A c).foot n k) : a.foot n k ∨ N ≤ k := by
  rcases q with q | q | ⟨i, hi, q⟩
  · exact .inl (.inl q)
  · exact .inl (.inr (.inl q))
  · by_cases e : i = h
    · subst e
      simp only [RA.setA, if_pos] at q
      exact .inr (hA k q)
    · simp only [RA.setA, if_neg e] at q
      exact .inl (.inr (.inr ⟨i, hi, q⟩))
/-- append([]int{}, l..) of a part of a row. -/
theorem copy_ok (w : World) {A' : Option Addr} {c' : Nat} {l : List Int} (hr : Rd w A' (iv l)) (hc' : A' = none → c' = 0) (hlen : l.length ≤ 1000) (hr2 : Rd (w.alloc (.cells #[] 3)) A' (iv l)) :
    ∃ A2 c2 w2, (Builtin.append_ #[31, 31] 31 #[.slice (some ⟨w.heap.size, 0, none⟩) 0 0, .slice A' l.length c']).run Try.prog (w.alloc (.cells #[] 3)) = .ok (.slice A2 l.length c2) w2 ∧ Rw w2 3 1 A2 l.length c2 (iv l) ∧ Below w.heap.size w w2 ∧ (∀ k, blkOf A2 = some k → w.heap.size ≤ k) := by
  have B1 : Below w.heap.size w (w.alloc (.cells #[] 3)) := (Below.refl _ _).alloc (Nat.le_refl _) _
  obtain ⟨A2, c2, w2, p1, p2, p3, p4, p5⟩ := app_run B1 (l := []) (l' := l) (c' := c') (empty_row w) (fun k hk => by have e1 : w.heap.size = k := Option.some.inj hk; omega) hr2 hc' (by simp) hlen
  simp only [List.length_nil, Nat.zero_add, List.nil_append] at p1 p2
  exact ⟨A2, c2, w2, p1, p2, p3, p4⟩
structure CTake (w : World) (a : RA) (S : QS) (h : Nat) (x : Int) (r : List Int) (W : Nat → World) (A' : Option Addr) (c : Nat) (A2 : Option Addr) (c2 : Nat) : Prop where
  w0 : W 0 = w
  r0 : (Instr.buildSlice 31 0 #[]).run Try.prog (W 0) = .ok (.slice (some ⟨w.heap.size, 0, none⟩) 0 0) (W 1)
  r1 : (Builtin.append_ #[31, 31] 31 #[.slice (some ⟨w.heap.size, 0, none⟩) 0 0, .slice A' r.length (c - 1)]).run Try.prog (W 1) = .ok (.slice A2 r.length c2) (W 2)
  s1 : (Instr.storeAt 3 (.pointer (some ⟨a.hb, h * 2, none⟩)) (.int .i64 x)).run Try.prog (W 2) = .ok () (W 3)
  s2 : (Instr.storeAt 31 (.pointer (some ⟨a.hb, h * 2 + 1, none⟩)) (.slice A2 r.length c2)).run Try.prog (W 3) = .ok () (W 4)
  ld : ∀ k, k ≤ 2 → RR (W k) a S
  fin : RR (W 4) (a.setA h A2 c2) ((S.setQ h r).setR h x) ∧ Mr S.n w a (W 4) (a.setA h A2 c2)
theorem ctake_ok (H : RR w a S) {h : Nat} (hh : h < S.n) (x : Int) (r : List Int) {A' : Option Addr} {c : Nat} (hr : ∀ w', Below w.heap.size w w' → Rd w' A' (iv r)) (hc' : A' = none → c - 1 = 0) (hlen : r.length ≤ 1000) : ∃ W A2 c2, CTake w a S h x r W A' c A2 c2 := by
  obtain ⟨A2, c2, w2, p1, p2, p3, p4⟩ := copy_ok w (hr _ (Below.refl _ _)) hc' hlen (hr _ ((Below.refl _ _).alloc (Nat.le_refl _) _))
  have H2 := H.below p3
  obtain ⟨q1, q2⟩ := H2.putR hh x
  have R3 := p2.ch q2.ch fun k hk e => by have := p4 k hk; have := H.row.blt; omega
  have hx := H.blk.lt
  have hhb := H.row.blt
  have f := q1.putQ' hh R3 ⟨fun q => by have := p4 _ q; omega, fun q => by have := p4 _ q; omega⟩
  have hcQ := q1.cQ (i := h) hh
  refine ⟨fun k => [w, w.alloc (.cells #[] 3), w2, w2.setCell ⟨a.hb, h * 2, none⟩ (.int .i64 x)].getD k ((w2.setCell ⟨a.hb, h * 2, none⟩ (.int .i64 x)).setCell ⟨a.hb, h * 2 + 1, none⟩ (.slice A2 r.length c2)), A2, c2, ⟨rfl, bs31e w, p1, store_cell 3 _ _ _ w2 (sz3 w2) rfl (H2.cR hh) (H2.fro _), store_cell 31 _ _ _ _ (sz31 _) rfl hcQ (q1.fro _), fun k hk => ?_, f, ⟨((Ch.of_below p3).trans q2.ch (fun _ _ q => q)).cell _ _ fun _ => rfl, rfl, rfl, fun k q => foot_new p4 k q⟩⟩⟩
  rcases (show k = 0 ∨ k = 1 ∨ k = 2 by omega) with rfl | rfl | rfl
  · exact H
  · exact H.below ((Below.refl _ _).alloc (Nat.le_refl _) _)
  · exact H2
theorem rnext_out (H : RR w a S) (h : Int) (hh : ¬ inH S h) : Calls Try.prog 33 #[.pointer (some ⟨a.x, 0, none⟩), .int .i64 h] w fun e w' => e = .returned (.tuple #[.int .i64 0, .bool false]) ∧ w = w' := by
  have HI := Lib.hid (hart_no H h hh)
  clear H hh
  go_enter Try.func33, Try.ntmps33
  go_wp2_with fail
  refine HI.out.mono ?_
  rintro e w' ⟨rfl, rfl⟩
  go_wp2_with fail
  go_ret2
  exact ⟨by first | rfl | simp, rfl⟩
theorem rnext_busy (H : RR w a S) (h : Nat) (hh : h < S.n) (h0 : 0 < S.R h) : Calls Try.prog 33 #[.pointer (some ⟨a.x, 0, none⟩), .int .i64 (h : Int)] w fun e w' => e = .returned (.tuple #[.int .i64 0, .bool false]) ∧ w = w' := by
  have HI := Lib.hid (hart_yes H h hh)
  have c0 := H.c0
  have c1 := H.cR hh
  have n8 := H.n8
  clear H
  generalize S.R h = r at *
  go_enter Try.func33, Try.ntmps33
  go_wp2_with fail
  refine HI.out.mono ?_
  rintro e w' ⟨rfl, rfl⟩
  go_wp2_with fail
  go_ret2
  exact ⟨by first | rfl | simp, rfl⟩
set_option maxRecDepth 100000 in
set_option maxHeartbeats 8000000 in
theorem rnext_take (H : RR w a S) (h : Nat) (hlt : h < S.n) (h0 : S.R h = 0) (x : Int) (r : List Int) (hq : S.Q h = x :: r) (hlen : r.length ≤ 999) : Calls Try.prog 33 #[.pointer (some ⟨a.x, 0, none⟩), .int .i64 (h : Int)] w fun e w' => ∃ a', e = .returned (.tuple #[.int .i64 x, .bool true]) ∧ RR w' a' ((S.setQ h r).setR h x) ∧ Mr S.n w a w' a' := by
  have HI := Lib.hid (hart_yes H h hlt)
  have c0 := H.c0
  have c1 := H.cR hlt
  have c2 := H.cQ hlt
  have n8 := H.n8
  have hrow := H.q h hlt
  rw [h0] at c1
  rw [hq] at c2 hrow
  have hl : (x :: r).length = r.length + 1 := rfl
  rw [hl] at c2 hrow
  obtain ⟨b, hbA⟩ := hrow.some_ (by omega)
  rw [hbA] at c2 hrow
  have hcc := hrow.le
  generalize a.c h = c at *
  obtain ⟨A', hcut, hA', hsm⟩ := cut_l (P := Try.prog) intT b (r.length + 1) c 1 (by omega) hcc.1 hcc.2
  rw [show r.length + 1 - 1 = r.length by omega] at hcut
  have hcut : ∀ u : World, (Instr.slice 31 (.slice (some ⟨b, 0, none⟩) (r.length + 1) c) (some (.int .i64 1)) none none).run Try.prog u = .ok (.slice A' r.length (c - 1)) u := hcut
  have hrd : ∀ w', Below w.drew.heap.size w.drew w' → Rd w' A' (iv r) := fun w' hb => by
    by_cases h1 : 0 < c - 1
    · rw [hA' h1]
      refine Rd.of_cells (fun j u hu => ?_) (iv_cells _)
      have := ((hrow.drew).below hb).cell (1 + j) (by have := (List.getElem?_eq_some_iff.1 hu).1; simp [iv] at this; omega)
      rw [show (1 * 1 + j) = 1 + j by omega, this, show 1 + j = j + 1 by omega]; simpa [iv] using hu
    · have : r = [] := by have : r.length = 0 := by omega
                          exact List.length_eq_zero_iff.1 this
      subst this; exact Rd.nil _ _
  obtain ⟨W, A2, c2', hC⟩ := ctake_ok H.drew hlt x r (c := c) hrd (fun e => by rw [e] at hsm; cases hsm) (by omega)
  have HC := Lib.hid hC
  have hhn := Lib.hid hlt
  have HCUT := Lib.hid hcut
  have HROW := Lib.hid (fun k (hk : k ≤ 2) => (show (W k).cell? ⟨b, 0, none⟩ = some (.int .i64 x) by
    have := (hC.ld k hk).q h hlt
    rw [hq, hbA] at this
    rw [this.cell 0 (by simp)]; rfl))
  have hcl : w.cell? ⟨b, 0, none⟩ = some (.int .i64 x) := by rw [hrow.cell 0 (by omega)]; rfl
  clear H hC h0 hq hrd hA' hrow hl hbA
  go_enter Try.func33, Try.ntmps33
  go_wp2_with fail
  refine HI.out.mono ?_
  rintro e w' ⟨rfl, rfl⟩
  go_wp2_with fail
  have hx0 : ∀ s : Sub (chK W [13, 16, 19, 22]) [] [19], s.val.cell? ⟨a.x, 0, none⟩ = some (.slice (some ⟨a.hb, 0, none⟩) S.n S.n) := chK_load (X := fun u => u.cell? ⟨a.x, 0, none⟩ = some (.slice (some ⟨a.hb, 0, none⟩) S.n S.n)) 2 19 rfl (fun k hk => (HC.out.ld k hk).c0) (by simp)
  have hx2 : ∀ s : Sub (chK W [13, 16, 19, 22]) [] [19], s.val.cell? ⟨b, 0, none⟩ = some (.int .i64 x) := chK_load (X := fun u => u.cell? ⟨b, 0, none⟩ = some (.int .i64 x)) 2 19 rfl (fun k hk => HROW.out k hk) (by simp)
  haveI i1 := chK_ne W [13, 16, 19, 22] [19]
  haveI i2 := chK_ne W [13, 16, 19, 22] []
  haveI i3 := chK_ne W [13, 16, 19, 22] [22]
  refine wp_drawX ?_ ?_
  · kernel_rfl
  refine wp_segsX (X := []) [(9, [], [19]), (13, [], [19]), (16, [], [19]), (19, [], [19]), (22, [], [])] ([], []) (chK W [13, 16, 19, 22]) ?_ ?_ ?_ ?_ ?_ ?_ ?_ ?_ ?_
  · kernel_rfl
  · kernel_rfl
  · kernel_rfl
  · kernel_rfl
  · kernel_rfl
  · kernel_rfl
  · exact chK_start HC.out.w0
  · exact fun jj hj D u hK => chK_out jj (by simp at hj ⊢; omega) D u hK
  · simp only [Segs, List.take_succ_cons, List.take_zero, List.drop_succ_cons, List.drop_zero, Nat.sub_zero, Nat.reduceSub, Nat.reduceAdd, List.drop_nil, List.take_nil]
    repeat (go_big_quiet_step (fail))
    refine wpQuiet_nil ?_
    refine ⟨(.int .i64 (h : Int)), stepOK_run (by kernel_rfl) (fun D u hb hb2 hi hK => ⟨u, rfl, chK_out 9 (by decide) D u hK⟩), ?_⟩
    (try go_frame)
    repeat (go_big_quiet_step (fail))
    refine wpQuiet_nil ?_
    refine ⟨(.slice (some ⟨w.heap.size, 0, none⟩) 0 0), stepOK_run (by kernel_rfl) (fun D u hb hb2 hi hK => chK_step 0 13 hb hb2 hi hK (by kernel_rfl) (run_box_any (s := Instr.buildSlice 31 0 #[]) (by kernel_rfl) HC.out.r0)), ?_⟩
    (try go_frame)
    repeat (go_big_quiet_step (fail))
    refine wpQuiet_nil ?_
    refine ⟨(.slice A2 r.length c2'), stepOK_run (by kernel_rfl) (fun D u hb hb2 hi hK => chK_step 1 16 hb hb2 hi hK (by kernel_rfl) (run_box_any (s := Builtin.append_ #[31, 31] 31 #[.slice (some ⟨w.heap.size, 0, none⟩) 0 0, .slice A' r.length (c - 1)]) (by kernel_rfl) HC.out.r1)), ?_⟩
    (try go_frame)
    repeat (go_big_quiet_step (fail))
    refine wpQuiet_nil ?_
    refine ⟨undef, stepOK_skip (by kernel_rfl) (fun D u hb hb2 hi hK => chK_step 2 19 hb hb2 hi hK (by kernel_rfl) (run_skip_any (s := Instr.storeAt 3 (.pointer (some ⟨a.hb, h * 2, none⟩)) (.int .i64 x)) (by kernel_rfl) HC.out.s1)), ?_⟩
    (try go_frame)
    repeat (go_big_quiet_step (fail))
    refine wpQuiet_nil ?_
    refine ⟨undef, stepOK_skip (by kernel_rfl) (fun D u hb hb2 hi hK => chK_step 3 22 hb hb2 hi hK (by kernel_rfl) (run_skip_any (s := Instr.storeAt 31 (.pointer (some ⟨a.hb, h * 2 + 1, none⟩)) (.slice A2 r.length c2')) (by kernel_rfl) HC.out.s2)), ?_⟩
    (try go_frame)
    repeat (go_big_quiet_step (fail))
    refine wpQuiet_nil ?_
    intro u hK
    have hu := chK_end (D := _) (by decide) hK
    change u = W 4 at hu
    obtain rfl := hu
    have d0 := HC.out.fin.1.c0
    have d1 := HC.out.fin.1.cR (i := h) hhn.out
    change (W 4).cell? ⟨a.x, 0, none⟩ = some (.slice (some ⟨a.hb, 0, none⟩) S.n S.n) at d0
    rw [show ((S.setQ h r).setR h x).R h = x from if_pos rfl] at d1
    change (W 4).cell? ⟨a.hb, h * 2, none⟩ = some (.int .i64 x) at d1
    obtain ⟨a', HA'⟩ : ∃ a', Hid (RR (W 4) a' ((S.setQ h r).setR h x) ∧ Mr S.n w a (W 4) a') := ⟨_, Lib.hid ⟨HC.out.fin.1, HC.out.fin.2.undrew⟩⟩
    go_wp2_with fail
    go_ret2
    first | exact ⟨a', by first | rfl | simp, HA'.out.1, HA'.out.2⟩ | exact ⟨by first | rfl | simp, a', HA'.out.1, HA'.out.2⟩
end
end Go.Proofs.Ytphikmdgdbdaiaa
