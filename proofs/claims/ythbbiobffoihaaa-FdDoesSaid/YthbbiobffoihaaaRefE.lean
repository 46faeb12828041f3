import Derived.Test.YthbbiobffoihaaaRefD
/- The reference: Dup, Close, Fork. -/
namespace Go.Proofs.Ythbbiobffoihaaa
open Go.RowKit Go.BigFrame
set_option linter.unusedVariables false
set_option linter.unusedSimpArgs false
attribute [local go_sem] szIs_lit row_at row_past row_alloc nf_alloc row_set nf_set row_cell nf_cell row_drew nf_drew row_drewN nf_drewN cell_setRow frozen_setRow nlt1 nlt2 nlt3 nlt4 nne1 nne2 nne3 nen1 nen2 nen3
set_option maxRecDepth 20000
section
variable {w w' : World} {x r : Nat} {D : List Int} {L : PL Fl}
theorem rdup_get (f : Int) (hget : Calls Try.prog 39 #[.pointer (some ⟨x, 0, none⟩), .int .i64 f] w fun e w' => e = .returned (.tuple #[.int .i64 0, .int .i64 220]) ∧ w = w') : Calls Try.prog 31 #[.pointer (some ⟨x, 0, none⟩), .int .i64 f] w fun e w' => e = .returned (.tuple #[.int .i64 0, .int .i64 220]) ∧ w = w' := by
  have HM := Lib.hid hget
  clear hget
  go_enter Try.func31, Try.ntmps31
  go_wp2_with fail
  refine HM.out.mono ?_
  rintro e w' ⟨rfl, rfl⟩
  go_wp2_with fail
  go_ret2
  exact ⟨by first | rfl | simp, rfl⟩
theorem rdup_fail (f : Int) (v er : Int) (hr : (er != 0) = true) (hget : Calls Try.prog 39 #[.pointer (some ⟨x, 0, none⟩), .int .i64 f] w fun e w' => e = .returned (.tuple #[.int .i64 v, .int .i64 0]) ∧ w = w')
    (hin : Calls Try.prog 30 #[.pointer (some ⟨x, 0, none⟩), .int .i64 v] w fun e w' => e = .returned (.tuple #[.int .i64 0, .int .i64 er]) ∧ w = w') : Calls Try.prog 31 #[.pointer (some ⟨x, 0, none⟩), .int .i64 f] w fun e w' => e = .returned (.tuple #[.int .i64 0, .int .i64 er]) ∧ w = w' := by
  have HM := Lib.hid hget
  have HI := Lib.hid hin
  have hr2 : (er == 0) = false := by simpa using hr
  clear hget hin
  go_enter Try.func31, Try.ntmps31
  go_wp2_with fail
  refine HM.out.mono ?_
  rintro e w' ⟨rfl, rfl⟩
  go_wp2_with fail
  refine HI.out.mono ?_
  rintro e w' ⟨rfl, rfl⟩
  go_wp2_with fail
  go_ret2
  exact ⟨by first | rfl | simp, rfl⟩
set_option maxHeartbeats 1000000 in
theorem rdup_ok (h : XR w x r D) (hR : RF w r L) (hxr : x ≠ r) {i : Nat} {v : Nat} (hx : D[i]? = some (v : Int)) (hv : v < 64) {b : Nat} (kd wh at_ fg rf : Int) (hg : PL.get L (v : Int) = some (b, ⟨kd, wh, at_, fg, rf⟩)) (hr1 : 1 ≤ rf) (hr : rf ≤ 2305843009213693952) {j : Nat} (hn : D.findIdx? (fun y => y == -1) = some j) :
    Calls Try.prog 31 #[.pointer (some ⟨x, 0, none⟩), .int .i64 (i : Int)] w fun e w' => e = .returned (.tuple #[.int .i64 (j : Int), .int .i64 0]) ∧ XR w' x r (D.set j (v : Int)) ∧ RF w' r (PL.set L (v : Int) ⟨kd, wh, at_, fg, rf + 1⟩) ∧ Ch (fun k => k = x ∨ k = r) w w' := by
  have HM := Lib.hid (rtget_ok h i v hx (by omega))
  have hI := rinst_any h hR hv hg
  simp only [hn] at hI
  have HI := Lib.hid hI
  have HR := Lib.hid hR
  have HG := Lib.hid hg
  have hw : IntKind.i64.wrap (rf + 1) = rf + 1 := IntWalk.i64_in _ (by omega)
  clear h hR hg hn hx hI
  go_enter Try.func31, Try.ntmps31
  go_wp2_with fail
  refine HM.out.mono ?_
  rintro e w' ⟨rfl, rfl⟩
  go_wp2_with fail
  refine HI.out.mono ?_
  rintro e w2 ⟨rfl, hX2, hC2⟩
  have hR2 : RF w2 r L := HR.out.ch hC2 (fun e => hxr e.symm)
  have c0 := hX2.c0
  have c4 := hR2.cell (k := 4) hv (by omega)
  rw [flAt_some HG.out] at c4
  simp only [Fl.at] at c4
  have cf := hR2.frz
  have hia := ix64 r v hv
  have hE1 : XR (w2.drew.setCell ⟨r, v * 5 + 4, none⟩ (.int .i64 (rf + 1))) x r (D.set j (v : Int)) := (hX2.drew).same (heap_setCell_other w2.drew ⟨r, v * 5 + 4, none⟩ x (.int .i64 (rf + 1)) hxr)
  have hE2 : RF (w2.drew.setCell ⟨r, v * 5 + 4, none⟩ (.int .i64 (rf + 1))) r (PL.set L (v : Int) ⟨kd, wh, at_, fg, rf + 1⟩) := (hR2.drew).setL (k := 4) (v := .int .i64 (rf + 1)) (f' := ⟨kd, wh, at_, fg, rf + 1⟩) hv HG.out (by omega) rfl ⟨by simp; omega, by simp; omega⟩
  have hE3 : Ch (fun k => k = x ∨ k = r) w (w2.drew.setCell ⟨r, v * 5 + 4, none⟩ (.int .i64 (rf + 1))) := ((Ch.mono hC2 (F2 := fun k => k = x ∨ k = r) fun k _ q => .inl q).drew).cell ⟨r, v * 5 + 4, none⟩ (.int .i64 (rf + 1)) fun _ => .inr rfl
  have HE := Lib.hid (And.intro hE1 (And.intro hE2 hE3))
  clear hX2 hR2 hC2 hE1 hE2 hE3
  go_upto_region 7 with fail
  go_still_tail 15, (by kernel_rfl)
  change wpList _ _ _ _ _ w2.drew
  have c4d : w2.drew.cell? ⟨r, v * 5 + 4, none⟩ = some (.int .i64 rf) := c4
  have cfd : ∀ q, w2.drew.frozen? ⟨r, q, none⟩ = false := cf
  clear c4 cf c0
  generalize hud : w2.drew = ud at *
  go_wp2_with fail
  go_ret2
  exact ⟨by first | rfl | simp, HE.out⟩
theorem rclose_get (f : Int) (hget : Calls Try.prog 39 #[.pointer (some ⟨x, 0, none⟩), .int .i64 f] (w.alloc (.cells #[.int .i64 0, .int .i64 0, .int .i64 0, .int .i64 0, .int .i64 0] 40)) fun e w' => e = .returned (.tuple #[.int .i64 0, .int .i64 220]) ∧ (w.alloc (.cells #[.int .i64 0, .int .i64 0, .int .i64 0, .int .i64 0, .int .i64 0] 40)) = w') :
    Calls Try.prog 32 #[.pointer (some ⟨x, 0, none⟩), .int .i64 f] w fun e w' => e = .returned (.tuple #[.agg #[.int .i64 0, .int .i64 0, .int .i64 0, .int .i64 0, .int .i64 0], .bool false, .int .i64 220]) ∧ Below w.heap.size w w' := by
  have hb : Below w.heap.size w (w.alloc (.cells #[.int .i64 0, .int .i64 0, .int .i64 0, .int .i64 0, .int .i64 0] 40)) := (Below.refl _ _).alloc (Nat.le_refl _) _
  have hk : Blk (w.alloc (.cells #[.int .i64 0, .int .i64 0, .int .i64 0, .int .i64 0, .int .i64 0] 40)) w.heap.size #[.int .i64 0, .int .i64 0, .int .i64 0, .int .i64 0, .int .i64 0] := Blk.of_heap (heap_at rfl)
  have H := Lib.hid hget
  have HB := Lib.hid hb
  have HK := Lib.hid hk
  clear hb hk hget
  generalize hu : w.alloc (.cells #[.int .i64 0, .int .i64 0, .int .i64 0, .int .i64 0, .int .i64 0] 40) = u at *
  obtain ⟨kr, kn, kc, kf⟩ := HK.out.all
  go_enter Try.func32, Try.ntmps32
  go_wp2_with (rw [hu])
  refine H.out.mono ?_
  rintro r w' ⟨rfl, rfl⟩
  clear hu
  go_wp2_with fail
  refine bodyPost_ret (ret_ctt rfl 5 _ _ w.heap.size rfl (by simp [go_sem, kn]) (by simp [go_sem, kr]) (by kernel_rfl) (by kernel_rfl)) rfl ⟨by simp [go_sem, kr, kn], ?_⟩
  repeat (first | exact HB.out | (refine Below.setCell ?_ ?h _; (case h => exact Nat.le_refl _)))
set_option maxHeartbeats 1000000 in
theorem rclose_any (h : XR w x r D) {i : Nat} {v : Int} (hx : D[i]? = some v) (hx1 : v ≠ -1) (v0 v1 v2 v3 v4 er : Int) (bb : Bool) (R : World → Prop) (F : Nat → Prop) (hF : ¬ F w.heap.size)
    (hd : Calls Try.prog 44 #[.pointer (some ⟨r, 0, none⟩), .int .i64 v] ((w.alloc (.cells #[.int .i64 0, .int .i64 0, .int .i64 0, .int .i64 0, .int .i64 0] 40)).setCell ⟨x, 1 + i, none⟩ (.int .i64 0)) fun e w' => e = .returned (.tuple #[.agg #[.int .i64 v0, .int .i64 v1, .int .i64 v2, .int .i64 v3, .int .i64 v4], .bool bb, .int .i64 er]) ∧ R w' ∧ Ch F ((w.alloc (.cells #[.int .i64 0, .int .i64 0, .int .i64 0, .int .i64 0, .int .i64 0] 40)).setCell ⟨x, 1 + i, none⟩ (.int .i64 0)) w') :
    Calls Try.prog 32 #[.pointer (some ⟨x, 0, none⟩), .int .i64 (i : Int)] w fun e w' => e = .returned (.tuple #[.agg #[.int .i64 v0, .int .i64 v1, .int .i64 v2, .int .i64 v3, .int .i64 v4], .bool bb, .int .i64 er]) ∧ ∃ w2, R w2 ∧ Ch (· = w.heap.size) w2 w' := by
  have htl := h.lt
  have hil := h.lt16 hx
  have hk : Blk (w.alloc (.cells #[.int .i64 0, .int .i64 0, .int .i64 0, .int .i64 0, .int .i64 0] 40)) w.heap.size #[.int .i64 0, .int .i64 0, .int .i64 0, .int .i64 0, .int .i64 0] := Blk.of_heap (heap_at rfl)
  have h1 := h.alloc (.cells #[.int .i64 0, .int .i64 0, .int .i64 0, .int .i64 0, .int .i64 0] 40)
  have HM := Lib.hid (rtget_ok h1 i v hx hx1)
  have hk1 := hk.same (heap_setCell_other (w.alloc (.cells #[.int .i64 0, .int .i64 0, .int .i64 0, .int .i64 0, .int .i64 0] 40)) ⟨x, 1 + i, none⟩ w.heap.size (.int .i64 0) (by simp; omega))
  have c0 := h1.c0
  have ci := h1.at hx
  have cf := h1.frz
  have c0' : ((w.alloc (.cells #[.int .i64 0, .int .i64 0, .int .i64 0, .int .i64 0, .int .i64 0] 40)).setCell ⟨x, 1 + i, none⟩ (.int .i64 0)).cell? ⟨x, 0, none⟩ = some (.pointer (some ⟨r, 0, none⟩)) := (h1.clear i).c0
  have HD := Lib.hid hd
  have HK := Lib.hid hk1
  have HF := Lib.hid hF
  clear hd hk hk1 h1 hF h htl
  generalize hu : w.alloc (.cells #[.int .i64 0, .int .i64 0, .int .i64 0, .int .i64 0, .int .i64 0] 40) = u at *
  go_enter Try.func32, Try.ntmps32
  go_wp2_with (rw [hu])
  refine HM.out.mono ?_
  rintro e w' ⟨rfl, rfl⟩
  clear hu
  generalize hu2 : u.setCell ⟨x, 1 + i, none⟩ (.int .i64 0) = u2 at *
  go_wp2_with (rw [hu2])
  clear hu2
  refine HD.out.mono ?_
  rintro e w2 ⟨rfl, hR, hC⟩
  have hk2 := HK.out.ch hC HF.out
  obtain ⟨kr, kn, kc, kf⟩ := hk2.all
  have HR := Lib.hid hR
  clear hR hC hk2
  go_wp2_with fail
  refine bodyPost_ret (ret_ctt rfl 5 _ _ w.heap.size rfl (by simp [go_sem, kn]) (by simp [go_sem, kr]) (by kernel_rfl) (by kernel_rfl)) rfl ⟨by simp [go_sem, kr, kn], w2, HR.out, ?_⟩
  exact (((((Ch.refl (· = w.heap.size) w2).cell _ _ fun _ => rfl).cell _ _ fun _ => rfl).cell _ _ fun _ => rfl).cell _ _ fun _ => rfl).cell _ _ fun _ => rfl
theorem rclose_no (h : XR w x r D) (hR : RF w r L) (hxr : x ≠ r) {i : Nat} {v : Int} (hx : D[i]? = some v) (hx1 : v ≠ -1) (hg : PL.get L v = none) :
    Calls Try.prog 32 #[.pointer (some ⟨x, 0, none⟩), .int .i64 (i : Int)] w fun e w' => e = .returned (.tuple #[.agg #[.int .i64 0, .int .i64 0, .int .i64 0, .int .i64 0, .int .i64 0], .bool false, .int .i64 221]) ∧ XR w' x r (D.set i (-1)) ∧ RF w' r L ∧ Ch (· = x) w w' := by
  have h1 : XR ((w.alloc (.cells #[.int .i64 0, .int .i64 0, .int .i64 0, .int .i64 0, .int .i64 0] 40)).setCell ⟨x, 1 + i, none⟩ (.int .i64 0)) x r (D.set i (-1)) := (h.alloc (.cells #[.int .i64 0, .int .i64 0, .int .i64 0, .int .i64 0, .int .i64 0] 40)).clear i
  have hc : Ch (· = x) w ((w.alloc (.cells #[.int .i64 0, .int .i64 0, .int .i64 0, .int .i64 0, .int .i64 0] 40)).setCell ⟨x, 1 + i, none⟩ (.int .i64 0)) := ((Ch.refl (· = x) w).alloc _).cell _ _ fun _ => rfl
  have h2 := hR.ch hc (fun e => hxr e.symm)
  have hsz := hc.size
  refine (rclose_any h hx hx1 0 0 0 0 0 221 false (fun w' => Below ((w.alloc (.cells #[.int .i64 0, .int .i64 0, .int .i64 0, .int .i64 0, .int .i64 0] 40)).setCell ⟨x, 1 + i, none⟩ (.int .i64 0)).heap.size ((w.alloc (.cells #[.int .i64 0, .int .i64 0, .int .i64 0, .int .i64 0, .int .i64 0] 40)).setCell ⟨x, 1 + i, none⟩ (.int .i64 0)) w') (fun _ => False) id ((rdrop_no h2 hg).mono ?_)).mono ?_
  · rintro e w' ⟨rfl, hb⟩
    exact ⟨rfl, hb, Ch.of_below hb⟩
  · rintro e w' ⟨rfl, w2, hb, hc2⟩
    have htl := h.lt
    have hrl := hR.blk.lt
    refine ⟨rfl, (h1.below hb).ch hc2 (by omega), (h2.below hb).ch hc2 (by omega), (hc.then_below hb).trans hc2 (fun k hk q => by omega)⟩
theorem rclose_yes (h : XR w x r D) (hR : RF w r L) (hxr : x ≠ r) {i : Nat} {v : Nat} (hx : D[i]? = some (v : Int)) (hv : v < 64) {b : Nat} (kd wh at_ fg rf : Int) (hg : PL.get L (v : Int) = some (b, ⟨kd, wh, at_, fg, rf⟩)) :
    Calls Try.prog 32 #[.pointer (some ⟨x, 0, none⟩), .int .i64 (i : Int)] w fun e w' => e = .returned (.tuple #[.agg #[.int .i64 kd, .int .i64 wh, .int .i64 at_, .int .i64 fg, .int .i64 (rf - 1)], .bool (rf == 1), .int .i64 0]) ∧ XR w' x r (D.set i (-1)) ∧ RF w' r (if rf = 1 then PL.del L (v : Int) else PL.set L (v : Int) ⟨kd, wh, at_, fg, rf - 1⟩) ∧ Ch (fun k => k = x ∨ k = r) w w' := by
  have h1 : XR ((w.alloc (.cells #[.int .i64 0, .int .i64 0, .int .i64 0, .int .i64 0, .int .i64 0] 40)).setCell ⟨x, 1 + i, none⟩ (.int .i64 0)) x r (D.set i (-1)) := (h.alloc (.cells #[.int .i64 0, .int .i64 0, .int .i64 0, .int .i64 0, .int .i64 0] 40)).clear i
  have hc : Ch (· = x) w ((w.alloc (.cells #[.int .i64 0, .int .i64 0, .int .i64 0, .int .i64 0, .int .i64 0] 40)).setCell ⟨x, 1 + i, none⟩ (.int .i64 0)) := ((Ch.refl (· = x) w).alloc _).cell _ _ fun _ => rfl
  have h2 := hR.ch hc (fun e => hxr e.symm)
  have hsz := hc.size
  have htl := h.lt
  have hrl := hR.blk.lt
  have hr1 := hR.pos _ _ hg
  simp only at hr1
  have hcc := hc.mono (F2 := fun k => k = x ∨ k = r) fun k _ q => .inl q
  by_cases hr2 : rf = 1
  · subst hr2
    rw [if_pos rfl]
    refine (rclose_any h hx (by omega) kd wh at_ fg 0 0 true (fun w' => RF w' r (PL.del L (v : Int)) ∧ Ch (· = r) ((w.alloc (.cells #[.int .i64 0, .int .i64 0, .int .i64 0, .int .i64 0, .int .i64 0] 40)).setCell ⟨x, 1 + i, none⟩ (.int .i64 0)) w') (· = r) (by omega) ((rdrop_last h2 hv kd wh at_ fg hg).mono ?_)).mono ?_
    · rintro e w' ⟨rfl, hb, hc2⟩
      exact ⟨rfl, ⟨hb, hc2⟩, hc2⟩
    · rintro e w' ⟨rfl, w2, ⟨hb, hc2⟩, hc3⟩
      refine ⟨rfl, (h1.ch hc2 hxr).ch hc3 (by omega), hb.ch hc3 (by omega), (hcc.trans hc2 (fun k _ q => .inr q)).trans hc3 (fun k hk q => by omega)⟩
  · rw [if_neg hr2]
    have hb2 : (rf == 1) = false := by simpa using hr2
    rw [hb2]
    refine (rclose_any h hx (by omega) kd wh at_ fg (rf - 1) 0 false (fun w' => RF w' r (PL.set L (v : Int) ⟨kd, wh, at_, fg, rf - 1⟩) ∧ Ch (· = r) ((w.alloc (.cells #[.int .i64 0, .int .i64 0, .int .i64 0, .int .i64 0, .int .i64 0] 40)).setCell ⟨x, 1 + i, none⟩ (.int .i64 0)) w') (· = r) (by omega) ((rdrop_more h2 hv kd wh at_ fg rf (by omega) hg).mono ?_)).mono ?_
    · rintro e w' ⟨rfl, hb, hc2⟩
      exact ⟨rfl, ⟨hb, hc2⟩, hc2⟩
    · rintro e w' ⟨rfl, w2, ⟨hb, hc2⟩, hc3⟩
      refine ⟨rfl, (h1.ch hc2 hxr).ch hc3 (by omega), hb.ch hc3 (by omega), (hcc.trans hc2 (fun k _ q => .inr q)).trans hc3 (fun k hk q => by omega)⟩
set_option maxHeartbeats 4000000 in
theorem rfork_ok (h : XR w x r D) (hR : RF w r L) (hxr : x ≠ r) (hB : ∀ y q, PL.get L y = some q → q.2.rf ≤ 2305843009213693952) :
    Calls Try.prog 33 #[.pointer (some ⟨x, 0, none⟩)] w fun e w' => ∃ c, e = .returned (.pointer (some ⟨c, 0, none⟩)) ∧ w.heap.size ≤ c ∧ XR w' c r D ∧ XR w' x r D ∧ RF w' r (bumps L D) ∧ Ch (· = r) w w' := by
  have HX := Lib.hid h
  have HR := Lib.hid hR
  have HBB := Lib.hid hB
  have hld := h.arr
  have c0 := h.c0
  clear h hR hB
  go_enter Try.func33, Try.ntmps33
  go_wp2_with (first | (refine wpList_load_run rfl 60 (.tmp 8) rfl (.pointer (some ⟨x, 1, none⟩)) rfl hld ?_) | fail)
  clear hld c0
  go_loopg [10] 16 (fun k i_ wr => ∃ j : Nat, i_ = .int .i64 (j : Int) ∧ k = 16 - j ∧ j ≤ 16 ∧ XR wr x r D ∧ RF wr r (bumps L (D.take j)) ∧ Ch (· = r) w wr)
  case atStart => exact ⟨0, rfl, rfl, by omega, HX.out, HR.out, Ch.refl _ _⟩
  case round =>
    obtain ⟨j, rfl, hk, hj, hX, hR, hC⟩ := hrel
    have HK := Lib.hid hk
    have HE := Lib.hid (And.intro hX (And.intro hR hC))
    have c0 := hX.c0
    clear hk
    by_cases hlt : j < 16
    · obtain ⟨y, hy⟩ : ∃ y, D[j]? = some y := ⟨_, List.getElem?_eq_getElem (by rw [HX.out.len]; exact hlt)⟩
      have hix := arr_ix (D := up D) (by rw [up_len, HX.out.len]) (up_get hy)
      have hyv := HX.out.vat hy
      have HY := Lib.hid hy
      have hw : IntKind.i64.wrap ((j : Int) + 1) = (j : Int) + 1 := IntWalk.i64_in _ (by omega)
      clear hy
      by_cases hv : y = -1
      · subst hv
        have hix0 : ∀ w, (Instr.index 60 (.agg (iv (up D)).toArray) (.int .i64 (j : Int))).run Try.prog w = .ok (.int .i64 0) w := hix
        clear hix hX hR hC
        go_wp2_with fail
        go_roundg (16 - (j + 1))
        case measure => have := HK.out; omega
        case rel =>
          have e : bumps L (D.take (j + 1)) = bumps L (D.take j) := by
            rw [bumps_succ L D j (-1) HY.out]
            have hn : PL.get (bumps L (D.take j)) (-1) = none := PL.get_none.2 fun q => by have := HE.out.2.1.ids (-1) q; omega
            unfold bump; rw [hn]
          exact ⟨j + 1, by first | rfl | go_num, rfl, by omega, HE.out.1, by rw [e]; exact HE.out.2.1, HE.out.2.2⟩
      · obtain ⟨i, rfl⟩ : ∃ i : Nat, y = (i : Int) := ⟨y.toNat, by omega⟩
        have hi64 : i < 64 := by omega
        have hq0 : decide ((i : Int) + 1 > 0) = true := decide_eq_true (by omega)
        have hq1 : (i : Int) + 1 - 1 = (i : Int) := by omega
        have hq2 : IntKind.i64.wrap ((i : Int) + 1 - 1) = (i : Int) := by rw [hq1]; exact IntWalk.i64_in _ (by omega)
        have hq3 : IntKind.i64.wrap (i : Int) = (i : Int) := IntWalk.i64_in _ (by omega)
        cases hg : PL.get (bumps L (D.take j)) (i : Int) with
        | none =>
          have HI := Lib.hid (is_no hR hg)
          have HG := Lib.hid hg
          clear hX hR hC hg
          generalize hqq : (i : Int) + 1 = qq at *
          clear hqq
          go_wp2_with fail
          refine HI.out.mono ?_
          rintro e w' ⟨rfl, rfl⟩
          go_wp2_with fail
          go_roundg (16 - (j + 1))
          case measure => have := HK.out; omega
          case rel =>
            have e : bumps L (D.take (j + 1)) = bumps L (D.take j) := by
              rw [bumps_succ L D j (i : Int) HY.out]; unfold bump; rw [HG.out]
            exact ⟨j + 1, by first | rfl | go_num, rfl, by omega, HE.out.1, by rw [e]; exact HE.out.2.1, HE.out.2.2⟩
        | some q =>
          obtain ⟨b, kd, wh, at_, fg, rf⟩ := q
          have HI := Lib.hid (is_yes hR hi64 hg)
          have hrf : 1 ≤ rf ∧ rf ≤ 2305843009213693952 + 16 := by
            refine ⟨(hR.pos _ _ hg).1, ?_⟩
            rw [bumps_get] at hg
            cases hgl : PL.get L (i : Int) with
            | none => rw [hgl] at hg; cases hg
            | some q0 =>
              rw [hgl] at hg
              have h1 := HBB.out _ _ hgl
              have h2 := List.count_le_length (a := (i : Int)) (l := D.take j)
              simp only [List.length_take] at h2
              simp only [Option.map_some, Option.some.injEq, Prod.mk.injEq, Fl.mk.injEq] at hg
              obtain ⟨_, _, _, _, _, h3⟩ := hg
              omega
          obtain ⟨hr1, hr2⟩ := hrf
          have c4 := hR.cell (k := 4) hi64 (by omega)
          rw [flAt_some hg] at c4
          simp only [Fl.at] at c4
          have cf := hR.frz
          have hia := ix64 r i hi64
          have hw2 : IntKind.i64.wrap (rf + 1) = rf + 1 := IntWalk.i64_in _ (by omega)
          have hE1 : XR (wr.drew.setCell ⟨r, i * 5 + 4, none⟩ (.int .i64 (rf + 1))) x r D := (hX.drew).same (heap_setCell_other wr.drew ⟨r, i * 5 + 4, none⟩ x (.int .i64 (rf + 1)) hxr)
          have hE2 : RF (wr.drew.setCell ⟨r, i * 5 + 4, none⟩ (.int .i64 (rf + 1))) r (PL.set (bumps L (D.take j)) (i : Int) ⟨kd, wh, at_, fg, rf + 1⟩) := (hR.drew).setL (k := 4) (v := .int .i64 (rf + 1)) (f' := ⟨kd, wh, at_, fg, rf + 1⟩) hi64 hg (by omega) rfl ⟨by simp; omega, by simp; omega⟩
          have hE3 : Ch (· = r) w (wr.drew.setCell ⟨r, i * 5 + 4, none⟩ (.int .i64 (rf + 1))) := (hC.drew).cell ⟨r, i * 5 + 4, none⟩ (.int .i64 (rf + 1)) fun _ => rfl
          have HE2 := Lib.hid (And.intro hE1 (And.intro hE2 hE3))
          have HG := Lib.hid hg
          clear hX hR hC hE1 hE2 hE3 hg
          generalize hqq : (i : Int) + 1 = qq at *
          clear hqq
          go_wp2_with fail
          refine HI.out.mono ?_
          rintro e w' ⟨rfl, rfl⟩
          go_upto_region 5 with fail
          go_still_tail 16, (by kernel_rfl)
          change wpList _ _ _ _ _ wr.drew
          have c4d : wr.drew.cell? ⟨r, i * 5 + 4, none⟩ = some (.int .i64 rf) := c4
          have cfd : ∀ q, wr.drew.frozen? ⟨r, q, none⟩ = false := cf
          clear c4 cf c0
          generalize hud : wr.drew = ud at *
          go_wp2_with fail
          go_roundg (16 - (j + 1))
          case measure => have := HK.out; omega
          case rel =>
            have e : bumps L (D.take (j + 1)) = PL.set (bumps L (D.take j)) (i : Int) ⟨kd, wh, at_, fg, rf + 1⟩ := by
              rw [bumps_succ L D j (i : Int) HY.out]; unfold bump; rw [HG.out]
            exact ⟨j + 1, by first | rfl | go_num, rfl, by omega, HE2.out.1, by rw [e]; exact HE2.out.2.1, HE2.out.2.2⟩
    · obtain rfl : j = 16 := by omega
      have e16 : D.take 16 = D := List.take_of_length_le (by rw [HX.out.len]; omega)
      rw [e16] at HE
      have hwh : (Instr.loadAt 69 (.pointer (some ⟨x, 0, none⟩))).run Try.prog wr = .ok (.agg (tcells r (up D))) wr := hX.blk.load (ty := 69) (d := (Try.prog.underlying 69).getD default) (by kernel_rfl) (by kernel_rfl) (by rw [tcells_size, up_len, hX.len]; kernel_rfl)
      have hcsz : (tcells r (up D)).size = 17 := by rw [tcells_size, up_len, hX.len]
      have hk : Blk (wr.alloc (.cells #[.pointer none, .int .i64 0, .int .i64 0, .int .i64 0, .int .i64 0, .int .i64 0, .int .i64 0, .int .i64 0, .int .i64 0, .int .i64 0, .int .i64 0, .int .i64 0, .int .i64 0, .int .i64 0, .int .i64 0, .int .i64 0, .int .i64 0] 69)) wr.heap.size #[.pointer none, .int .i64 0, .int .i64 0, .int .i64 0, .int .i64 0, .int .i64 0, .int .i64 0, .int .i64 0, .int .i64 0, .int .i64 0, .int .i64 0, .int .i64 0, .int .i64 0, .int .i64 0, .int .i64 0, .int .i64 0, .int .i64 0] := Blk.of_heap (heap_at rfl)
      have hb1 : Below wr.heap.size wr (wr.alloc (.cells #[.pointer none, .int .i64 0, .int .i64 0, .int .i64 0, .int .i64 0, .int .i64 0, .int .i64 0, .int .i64 0, .int .i64 0, .int .i64 0, .int .i64 0, .int .i64 0, .int .i64 0, .int .i64 0, .int .i64 0, .int .i64 0, .int .i64 0] 69)) := (Below.refl _ _).alloc (Nat.le_refl _) _
      generalize hu : wr.alloc (.cells #[.pointer none, .int .i64 0, .int .i64 0, .int .i64 0, .int .i64 0, .int .i64 0, .int .i64 0, .int .i64 0, .int .i64 0, .int .i64 0, .int .i64 0, .int .i64 0, .int .i64 0, .int .i64 0, .int .i64 0, .int .i64 0, .int .i64 0] 69) = u at *
      obtain ⟨u2, s1, s2, s3, s4⟩ := hk.storeAll (P := Try.prog) (ty := 69) (c' := tcells r (up D)) (by rw [hcsz]; kernel_rfl) (by rw [hcsz]; rfl) (by
        intro v hv
        simp only [tcells, List.mem_cons] at hv
        rcases hv with rfl | hv
        · rfl
        · exact iv_one _ v hv)
      have hb2 : Below wr.heap.size wr u2 := hb1.trans (s3.below (B := wr.heap.size) (fun k hk q => by omega) hb1.size)
      have HF := Lib.hid (show wr.heap.size ≥ w.heap.size ∧ XR u2 wr.heap.size r D ∧ XR u2 x r D ∧ RF u2 r (bumps L D) ∧ Ch (· = r) w u2 from ⟨HE.out.2.2.size, ⟨s2, HX.out.len, HX.out.val⟩, HE.out.1.below hb2, HE.out.2.1.below hb2, HE.out.2.2.then_below hb2⟩)
      clear hX hR hC hk hb1 s2 s3 s4 hb2
      go_wp2_with (first | (refine wpList_load_run rfl 69 (.tmp 42) rfl (.pointer (some ⟨x, 0, none⟩)) rfl hwh ?_) | (rw [hu]) | (refine wpList_store_run rfl 69 (.tmp 5) (.tmp 43) rfl (.pointer (some ⟨wr.heap.size, 0, none⟩)) (.agg (tcells r (up D))) rfl rfl s1 ?_) | fail)
      go_ret
      exact ⟨wr.heap.size, by first | rfl | simp, HF.out⟩
end
end Go.Proofs.Ythbbiobffoihaaa
