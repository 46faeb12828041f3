import Derived.Test.YthbbiobffoihaaaTab3
/- Close, Fork. -/
namespace Go.Proofs.Ythbbiobffoihaaa
open Go.RowKit Go.BigFrame
set_option linter.unusedVariables false
set_option linter.unusedSimpArgs false
attribute [local go_sem] szIs_lit row_at row_past row_alloc nf_alloc row_set nf_set row_cell nf_cell row_drew nf_drew row_drewN nf_drewN cell_setRow frozen_setRow nlt1 nlt2 nlt3 nlt4 nne1 nne2 nne3 nen1 nen2 nen3
set_option maxRecDepth 20000
section
variable {w w' : World} {t g m : Nat} {D : List Int} {L : PL Fl}
theorem drop_no (h : FR w g m L) {x : Int} (hg : PL.get L x = none) : Calls Try.prog 20 #[.pointer (some ⟨g, 0, none⟩), .int .i64 x] w fun r w' => r = .returned (.tuple #[.agg #[.int .i64 0, .int .i64 0, .int .i64 0, .int .i64 0, .int .i64 0], .bool false, .int .i64 221]) ∧ Below w.heap.size w w' := by
  have H := Lib.hid (find_no (h.alloc (.cells #[.int .i64 0, .int .i64 0, .int .i64 0, .int .i64 0, .int .i64 0] 40)) hg)
  have hb : Below w.heap.size w (w.alloc (.cells #[.int .i64 0, .int .i64 0, .int .i64 0, .int .i64 0, .int .i64 0] 40)) := (Below.refl _ _).alloc (Nat.le_refl _) _
  have hk : Blk (w.alloc (.cells #[.int .i64 0, .int .i64 0, .int .i64 0, .int .i64 0, .int .i64 0] 40)) w.heap.size #[.int .i64 0, .int .i64 0, .int .i64 0, .int .i64 0, .int .i64 0] := Blk.of_heap (heap_at rfl)
  have HB := Lib.hid hb
  have HK := Lib.hid hk
  clear h hb hk hg
  generalize hu : w.alloc (.cells #[.int .i64 0, .int .i64 0, .int .i64 0, .int .i64 0, .int .i64 0] 40) = u at *
  obtain ⟨kr, kn, kc, kf⟩ := HK.out.all
  go_enter Try.func20, Try.ntmps20
  go_wp2_with (rw [hu])
  refine H.out.mono ?_
  rintro r w' ⟨rfl, rfl⟩
  clear hu
  go_wp2_with fail
  refine bodyPost_ret (ret_ctt rfl 5 _ _ w.heap.size rfl (by simp [go_sem, kn]) (by simp [go_sem, kr]) (by kernel_rfl) (by kernel_rfl)) rfl ⟨by simp [go_sem, kr, kn], ?_⟩
  repeat (first | exact HB.out | (refine Below.setCell ?_ ?h _; (case h => exact Nat.le_refl _)))
theorem close_get (f : Int) (hget : Calls Try.prog 13 #[.pointer (some ⟨t, 0, none⟩), .int .i64 f] (w.alloc (.cells #[.int .i64 0, .int .i64 0, .int .i64 0, .int .i64 0, .int .i64 0] 40)) fun e w' => e = .returned (.tuple #[.int .i64 0, .int .i64 220]) ∧ (w.alloc (.cells #[.int .i64 0, .int .i64 0, .int .i64 0, .int .i64 0, .int .i64 0] 40)) = w') :
    Calls Try.prog 11 #[.pointer (some ⟨t, 0, none⟩), .int .i64 f] w fun e w' => e = .returned (.tuple #[.agg #[.int .i64 0, .int .i64 0, .int .i64 0, .int .i64 0, .int .i64 0], .bool false, .int .i64 220]) ∧ Below w.heap.size w w' := by
  have hb : Below w.heap.size w (w.alloc (.cells #[.int .i64 0, .int .i64 0, .int .i64 0, .int .i64 0, .int .i64 0] 40)) := (Below.refl _ _).alloc (Nat.le_refl _) _
  have hk : Blk (w.alloc (.cells #[.int .i64 0, .int .i64 0, .int .i64 0, .int .i64 0, .int .i64 0] 40)) w.heap.size #[.int .i64 0, .int .i64 0, .int .i64 0, .int .i64 0, .int .i64 0] := Blk.of_heap (heap_at rfl)
  have H := Lib.hid hget
  have HB := Lib.hid hb
  have HK := Lib.hid hk
  clear hb hk hget
  generalize hu : w.alloc (.cells #[.int .i64 0, .int .i64 0, .int .i64 0, .int .i64 0, .int .i64 0] 40) = u at *
  obtain ⟨kr, kn, kc, kf⟩ := HK.out.all
  go_enter Try.func11, Try.ntmps11
  go_wp2_with (rw [hu])
  refine H.out.mono ?_
  rintro r w' ⟨rfl, rfl⟩
  clear hu
  go_wp2_with fail
  refine bodyPost_ret (ret_ctt rfl 5 _ _ w.heap.size rfl (by simp [go_sem, kn]) (by simp [go_sem, kr]) (by kernel_rfl) (by kernel_rfl)) rfl ⟨by simp [go_sem, kr, kn], ?_⟩
  repeat (first | exact HB.out | (refine Below.setCell ?_ ?h _; (case h => exact Nat.le_refl _)))
set_option maxHeartbeats 1000000 in
theorem close_any (h : TR w t g D) {i : Nat} {x : Int} (hx : D[i]? = some x) (hx1 : x ≠ -1) (v0 v1 v2 v3 v4 er : Int) (bb : Bool) (R : World → Prop) (F : Nat → Prop) (hF : ¬ F w.heap.size)
    (hd : Calls Try.prog 20 #[.pointer (some ⟨g, 0, none⟩), .int .i64 x] ((w.alloc (.cells #[.int .i64 0, .int .i64 0, .int .i64 0, .int .i64 0, .int .i64 0] 40)).setCell ⟨t, 1 + i, none⟩ (.int .i64 (-1))) fun e w' => e = .returned (.tuple #[.agg #[.int .i64 v0, .int .i64 v1, .int .i64 v2, .int .i64 v3, .int .i64 v4], .bool bb, .int .i64 er]) ∧ R w' ∧ Ch F ((w.alloc (.cells #[.int .i64 0, .int .i64 0, .int .i64 0, .int .i64 0, .int .i64 0] 40)).setCell ⟨t, 1 + i, none⟩ (.int .i64 (-1))) w') :
    Calls Try.prog 11 #[.pointer (some ⟨t, 0, none⟩), .int .i64 (i : Int)] w fun e w' => e = .returned (.tuple #[.agg #[.int .i64 v0, .int .i64 v1, .int .i64 v2, .int .i64 v3, .int .i64 v4], .bool bb, .int .i64 er]) ∧ ∃ w2, R w2 ∧ Ch (· = w.heap.size) w2 w' := by
  have htl := h.lt
  have hil : i < 16 := by have := (List.getElem?_eq_some_iff.1 hx).1; rw [h.len] at this; exact this
  have hk : Blk (w.alloc (.cells #[.int .i64 0, .int .i64 0, .int .i64 0, .int .i64 0, .int .i64 0] 40)) w.heap.size #[.int .i64 0, .int .i64 0, .int .i64 0, .int .i64 0, .int .i64 0] := Blk.of_heap (heap_at rfl)
  have h1 := h.alloc (.cells #[.int .i64 0, .int .i64 0, .int .i64 0, .int .i64 0, .int .i64 0] 40)
  have HM := Lib.hid (tget_ok h1 i x hx hx1)
  have hk1 := hk.same (heap_setCell_other (w.alloc (.cells #[.int .i64 0, .int .i64 0, .int .i64 0, .int .i64 0, .int .i64 0] 40)) ⟨t, 1 + i, none⟩ w.heap.size (.int .i64 (-1)) (by simp; omega))
  have c0 := h1.c0
  have ci := h1.at hx
  have cf := h1.frz
  have c0' := (h1.put i (-1)).c0
  have HD := Lib.hid hd
  have HK := Lib.hid hk1
  have HF := Lib.hid hF
  clear hd hk hk1 h1 hF h htl
  generalize hu : w.alloc (.cells #[.int .i64 0, .int .i64 0, .int .i64 0, .int .i64 0, .int .i64 0] 40) = u at *
  go_enter Try.func11, Try.ntmps11
  go_wp2_with (rw [hu])
  refine HM.out.mono ?_
  rintro r w' ⟨rfl, rfl⟩
  clear hu
  generalize hu2 : u.setCell ⟨t, 1 + i, none⟩ (.int .i64 (-1)) = u2 at *
  go_wp2_with (rw [hu2])
  clear hu2
  refine HD.out.mono ?_
  rintro r w2 ⟨rfl, hR, hC⟩
  have hk2 := HK.out.ch hC HF.out
  obtain ⟨kr, kn, kc, kf⟩ := hk2.all
  have HR := Lib.hid hR
  clear hR hC hk2
  go_wp2_with fail
  refine bodyPost_ret (ret_ctt rfl 5 _ _ w.heap.size rfl (by simp [go_sem, kn]) (by simp [go_sem, kr]) (by kernel_rfl) (by kernel_rfl)) rfl ⟨by simp [go_sem, kr, kn], w2, HR.out, ?_⟩
  exact (((((Ch.refl (· = w.heap.size) w2).cell _ _ fun _ => rfl).cell _ _ fun _ => rfl).cell _ _ fun _ => rfl).cell _ _ fun _ => rfl).cell _ _ fun _ => rfl
theorem FR.all_lt_ne (h : FR w g m L) {k : Nat} (hk : FR.all g m L k) : k ≠ w.heap.size := Nat.ne_of_lt (h.lt hk)
theorem close_no (h : TR w t g D) (hF : FR w g m L) (ht : ¬ FR.all g m L t) {i : Nat} {x : Int} (hx : D[i]? = some x) (hx1 : x ≠ -1) (hg : PL.get L x = none) :
    Calls Try.prog 11 #[.pointer (some ⟨t, 0, none⟩), .int .i64 (i : Int)] w fun e w' => e = .returned (.tuple #[.agg #[.int .i64 0, .int .i64 0, .int .i64 0, .int .i64 0, .int .i64 0], .bool false, .int .i64 221]) ∧ TR w' t g (D.set i (-1)) ∧ FR w' g m L ∧ Ch (· = t) w w' := by
  have h1 := (h.alloc (.cells #[.int .i64 0, .int .i64 0, .int .i64 0, .int .i64 0, .int .i64 0] 40)).put i (-1)
  have hc : Ch (· = t) w ((w.alloc (.cells #[.int .i64 0, .int .i64 0, .int .i64 0, .int .i64 0, .int .i64 0] 40)).setCell ⟨t, 1 + i, none⟩ (.int .i64 (-1))) := ((Ch.refl (· = t) w).alloc _).cell _ _ fun _ => rfl
  have h2 := hF.ch hc (fun k q e => ht (e ▸ q))
  have hsz := hc.size
  refine (close_any h hx hx1 0 0 0 0 0 221 false (fun w' => Below ((w.alloc (.cells #[.int .i64 0, .int .i64 0, .int .i64 0, .int .i64 0, .int .i64 0] 40)).setCell ⟨t, 1 + i, none⟩ (.int .i64 (-1))).heap.size ((w.alloc (.cells #[.int .i64 0, .int .i64 0, .int .i64 0, .int .i64 0, .int .i64 0] 40)).setCell ⟨t, 1 + i, none⟩ (.int .i64 (-1))) w') (fun _ => False) id ((drop_no h2 hg).mono ?_)).mono ?_
  · rintro e w' ⟨rfl, hb⟩
    exact ⟨rfl, hb, Ch.of_below hb⟩
  · rintro e w' ⟨rfl, w2, hb, hc2⟩
    have htl := h.lt
    refine ⟨rfl, (h1.below hb).ch hc2 (by omega), (h2.below hb).ch hc2 (fun k q => hF.all_lt_ne q), (hc.then_below hb).trans hc2 (fun k hk q => by omega)⟩
theorem close_yes (h : TR w t g D) (hF : FR w g m L) (ht : ¬ FR.all g m L t) {i : Nat} {x : Int} (hx : D[i]? = some x) (hx1 : x ≠ -1) {b : Nat} (kd wh at_ fg rf : Int) (hg : PL.get L x = some (b, ⟨kd, wh, at_, fg, rf⟩)) (hr : 1 ≤ rf) (hr1 : rf ≤ 9223372036854775807) :
    Calls Try.prog 11 #[.pointer (some ⟨t, 0, none⟩), .int .i64 (i : Int)] w fun e w' => e = .returned (.tuple #[.agg #[.int .i64 kd, .int .i64 wh, .int .i64 at_, .int .i64 fg, .int .i64 (rf - 1)], .bool (rf == 1), .int .i64 0]) ∧ TR w' t g (D.set i (-1)) ∧ FR w' g m (if rf = 1 then PL.del L x else PL.set L x ⟨kd, wh, at_, fg, rf - 1⟩) ∧ Ch (fun k => k = t ∨ PL.foot m L k) w w' := by
  have h1 := (h.alloc (.cells #[.int .i64 0, .int .i64 0, .int .i64 0, .int .i64 0, .int .i64 0] 40)).put i (-1)
  have hc : Ch (· = t) w ((w.alloc (.cells #[.int .i64 0, .int .i64 0, .int .i64 0, .int .i64 0, .int .i64 0] 40)).setCell ⟨t, 1 + i, none⟩ (.int .i64 (-1))) := ((Ch.refl (· = t) w).alloc _).cell _ _ fun _ => rfl
  have h2 := hF.ch hc (fun k q e => ht (e ▸ q))
  have hsz := hc.size
  have htl := h.lt
  have hfw : ¬ PL.foot m L w.heap.size := fun q => hF.all_lt_ne (.inr q) rfl
  have htf : ¬ PL.foot m L t := fun q => ht (.inr q)
  by_cases hr2 : rf = 1
  · subst hr2
    rw [if_pos rfl]
    refine (close_any h hx hx1 kd wh at_ fg 0 0 true (fun w' => FR w' g m (PL.del L x) ∧ Ch (PL.foot m L) ((w.alloc (.cells #[.int .i64 0, .int .i64 0, .int .i64 0, .int .i64 0, .int .i64 0] 40)).setCell ⟨t, 1 + i, none⟩ (.int .i64 (-1))) w') (PL.foot m L) hfw ((drop_last h2 kd wh at_ fg hg).mono ?_)).mono ?_
    · rintro e w' ⟨rfl, hb, hc2⟩
      exact ⟨rfl, ⟨hb, hc2⟩, hc2⟩
    · rintro e w' ⟨rfl, w2, ⟨hb, hc2⟩, hc3⟩
      refine ⟨rfl, (h1.ch hc2 htf).ch hc3 (by omega), hb.ch hc3 (fun k q => hF.all_lt_ne (FR.all_del q)), ((hc.mono (F2 := fun k => k = t ∨ PL.foot m L k) fun k _ q => .inl q).trans hc2 (fun k _ q => .inr q)).trans hc3 (fun k hk q => by omega)⟩
  · rw [if_neg hr2]
    have hb2 : (rf == 1) = false := by simpa using hr2
    rw [hb2]
    refine (close_any h hx hx1 kd wh at_ fg (rf - 1) 0 false (fun w' => FR w' g m (PL.set L x ⟨kd, wh, at_, fg, rf - 1⟩) ∧ Ch (PL.foot m L) ((w.alloc (.cells #[.int .i64 0, .int .i64 0, .int .i64 0, .int .i64 0, .int .i64 0] 40)).setCell ⟨t, 1 + i, none⟩ (.int .i64 (-1))) w') (PL.foot m L) hfw ((drop_more h2 kd wh at_ fg rf (by omega) hr1 hg).mono ?_)).mono ?_
    · rintro e w' ⟨rfl, hb, hc2⟩
      exact ⟨rfl, ⟨hb, hc2⟩, hc2⟩
    · rintro e w' ⟨rfl, w2, ⟨hb, hc2⟩, hc3⟩
      refine ⟨rfl, (h1.ch hc2 htf).ch hc3 (by omega), hb.ch hc3 (fun k q => hF.all_lt_ne (FR.all_set q)), ((hc.mono (F2 := fun k => k = t ∨ PL.foot m L k) fun k _ q => .inl q).trans hc2 (fun k _ q => .inr q)).trans hc3 (fun k hk q => by omega)⟩
end
end Go.Proofs.Ythbbiobffoihaaa
