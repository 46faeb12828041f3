import Derived.Test.YtmifomppnmhmpaaRefC
import Derived.Deep.RegionWith
/- step: a call of both pipes. -/
namespace Go.Proofs.Ytmifomppnmhmpaa
open Go.RowKit
set_option linter.unusedVariables false
set_option linter.unusedSimpArgs false
attribute [local go_sem] szIs_lit row_at row_past row_alloc nf_alloc row_set nf_set row_cell nf_cell row_drew nf_drew row_drewN nf_drewN cell_setRow frozen_setRow nlt1 nlt2 nlt3 nlt4 nne1 nne2 nne3 nen1 nen2 nen3
attribute [local go_sem] rg_setf rg_setn rg_setm

def Step (w : World) (base g m x : Nat) (r s : Int) (e : Ending) (w' : World) : Prop :=
  e = .returned (.bool true) ∧ (∃ n' Q' r' s' A' c', PipeAt w' g m Q' n' r' s' ∧ RefA w' base x g m A' n' c' Q' r' s' ∧ 0 ≤ r' ∧ r' ≤ r + 1 ∧ 0 ≤ s' ∧ s' ≤ s + 1) ∧ Below base w w'
theorem Keep.undrew {w w1 : World} {g m : Nat} (h : Keep w.drew w1 g m) : Keep w w1 g m := ⟨h.os, h.tape, h.output, h.size, h.block⟩
theorem Fr.undrew {w w1 : World} {x : Nat} {A : Option Addr} (h : Fr w.drew w1 x A) : Fr w w1 x A := ⟨h.os, h.tape, h.output, h.size, h.block⟩
theorem RefA.drew {w : World} {base x g m n c : Nat} {A : Option Addr} {Q : Nat → Int} {r s : Int} (h : RefA w base x g m A n c Q r s) : RefA w.drew base x g m A n c Q r s := h.kept rfl (fun _ _ => rfl)
theorem Keep.blk2 {w w1 : World} {g m : Nat} (h : Keep w w1 g m) (b : Nat) (hb : b < w.heap.size) (h1 : b ≠ g) (h2 : b ≠ m) : w1.heap[b]? = w.heap[b]? := h.block b hb h1 h2
set_option maxRecDepth 100000 in
set_option maxHeartbeats 2000000 in
theorem step_open (base g m x n c : Nat) (A : Option Addr) (Q : Nat → Int) (r s : Int) (w : World) (h : PipeAt w g m Q n r s) (hx : RefA w base x g m A n c Q r s) (hbg : base ≤ g) (hbm : base ≤ m) (hb : base ≤ w.heap.size) (h1 : 0 ≤ r) (h2 : r < 2147483647) (h3 : 0 ≤ s) (h4 : s < 2147483647) (b : Bool) (N : Int) (L : Option Addr) (l lc : Nat) : Calls Try.prog 18 #[.pointer (some ⟨g, 0, none⟩), .pointer (some ⟨x, 0, none⟩), .agg #[.int .i64 1, .bool b, .int .i64 N, .slice L l lc]] w fun e w' => Step w base g m x r s e w' := by
  have hal : Below w.heap.size w (w.alloc (.cells #[.int .i64 1, .bool b, .int .i64 N, .slice L l lc] 28)) := (Below.refl _ _).alloc (Nat.le_refl _) _
  have HP := Lib.hid (h.below hal h.lt.1 h.lt.2)
  have HX := Lib.hid (hx.below hal)
  have HB := Lib.hid (hal.mono hb)
  have HS := Lib.hid (show base ≤ (w.alloc (.cells #[.int .i64 1, .bool b, .int .i64 N, .slice L l lc] 28)).heap.size from by simp; omega)
  obtain ⟨gl, ml⟩ := h.lt
  have HCB := Lib.hid (show (w.alloc (.cells #[.int .i64 1, .bool b, .int .i64 N, .slice L l lc] 28)).heap.size = w.heap.size + 1 ∧ (w.alloc (.cells #[.int .i64 1, .bool b, .int .i64 N, .slice L l lc] 28)).cell? ⟨w.heap.size, 1, none⟩ = some (.bool b) from ⟨by simp, (cell_of_row _ _ 1 _ _ _ (heap_alloc_new w _)).trans rfl⟩)
  have HNX := Lib.hid (show w.heap.size ≠ g ∧ w.heap.size ≠ m ∧ w.heap.size ≠ x ∧ inB A ≠ some w.heap.size from ⟨by have := h.lt.1; omega, by have := h.lt.2; omega, by have := hx.blk.lt; omega, fun e => by have := (hx.own.lt _ e).2; omega⟩)
  clear hal h hx
  go_enter Try.func18, Try.ntmps18
  go_wp2_with fail
  go_region_with (first
    | (go_at_call 25; go_must (refine (popen_any g m n Q r s _ ?_ b h1 h2 h3 h4).mono ?_; (first | exact HP.out | exact HP2p.out | fail); rintro e w5 ⟨rfl, hp, hk⟩; (try replace hk := Keep.undrew hk); have HP2 := Lib.hid hp; (first | have HX3 := Lib.hid (HX2.out.keep hk) | have HX2p := Lib.hid (HX.out.keep hk) | fail); (first | have HB3 := Lib.hid (HB2.out.trans (hk.below hbg hbm HS2.out)) | have HB2 := Lib.hid (HB.out.trans (hk.below hbg hbm HS.out)) | fail); (first | have HS2 := Lib.hid (Nat.le_trans HS2.out hk.size) | have HS2 := Lib.hid (Nat.le_trans HS.out hk.size) | fail); (try have cb := (World.cell?_of_block (a := ⟨w.heap.size, 1, none⟩) (hk.block w.heap.size (by have := HCB.out.1; omega) HNX.out.1 HNX.out.2.1)).trans HCB.out.2); clear hp hk))
    | (go_at_call 31; go_must (refine (ropen_any base x g m n c A Q r s _ ?_ b h1 h2 h3 h4).mono ?_; (first | exact HX.out | exact HX.out.drew | exact HX2p.out | exact HX2p.out.drew | fail); rintro e w5 ⟨rfl, hp, hk⟩; (try replace hk := Fr.undrew hk); have HX2 := Lib.hid hp; (first | have HP3 := Lib.hid (hk.pipe HX2p.out HP2.out) | have HP2p := Lib.hid (hk.pipe HX.out HP.out) | fail); (first | have HB3 := Lib.hid (HB2.out.trans (hk.below HX2p.out HS2.out)) | have HB2 := Lib.hid (HB.out.trans (hk.below HX.out HS.out)) | fail); (first | have HS2 := Lib.hid (Nat.le_trans HS2.out hk.size) | have HS2 := Lib.hid (Nat.le_trans HS.out hk.size) | fail); (try have cb := (World.cell?_of_block (a := ⟨w.heap.size, 1, none⟩) (hk.block w.heap.size (by have := HCB.out.1; omega) HNX.out.2.2.1 HNX.out.2.2.2)).trans HCB.out.2); clear hp hk)))
  all_goals
    have FP : PipeAt w5 g m Q n (opR b r) (opS b s) := by first | exact HP3.out | exact HP2.out | fail
    have FX : RefA w5 base x g m A n c Q (opR b r) (opS b s) := by first | exact HX3.out | exact HX2.out | fail
    have GP := Lib.hid FP
    have GX := Lib.hid FX
    have GB := Lib.hid HB3.out
    clear FP FX
    go_wp2
    go_ret
    exact ⟨by first | rfl | simp, ⟨n, Q, _, _, A, c, GP.out, GX.out, by cases b <;> simp [opR] <;> omega, by cases b <;> simp [opR] <;> omega, by cases b <;> simp [opS] <;> omega, by cases b <;> simp [opS] <;> omega⟩, GB.out⟩
set_option maxRecDepth 100000 in
set_option maxHeartbeats 2000000 in
theorem step_close (base g m x n c : Nat) (A : Option Addr) (Q : Nat → Int) (r s : Int) (w : World) (h : PipeAt w g m Q n r s) (hx : RefA w base x g m A n c Q r s) (hbg : base ≤ g) (hbm : base ≤ m) (hb : base ≤ w.heap.size) (h1 : 0 ≤ r) (h2 : r < 2147483647) (h3 : 0 ≤ s) (h4 : s < 2147483647) (b : Bool) (N : Int) (L : Option Addr) (l lc : Nat) : Calls Try.prog 18 #[.pointer (some ⟨g, 0, none⟩), .pointer (some ⟨x, 0, none⟩), .agg #[.int .i64 2, .bool b, .int .i64 N, .slice L l lc]] w fun e w' => Step w base g m x r s e w' := by
  have hal : Below w.heap.size w (w.alloc (.cells #[.int .i64 2, .bool b, .int .i64 N, .slice L l lc] 28)) := (Below.refl _ _).alloc (Nat.le_refl _) _
  have HP := Lib.hid (h.below hal h.lt.1 h.lt.2)
  have HX := Lib.hid (hx.below hal)
  have HB := Lib.hid (hal.mono hb)
  have HS := Lib.hid (show base ≤ (w.alloc (.cells #[.int .i64 2, .bool b, .int .i64 N, .slice L l lc] 28)).heap.size from by simp; omega)
  obtain ⟨gl, ml⟩ := h.lt
  have HCB := Lib.hid (show (w.alloc (.cells #[.int .i64 2, .bool b, .int .i64 N, .slice L l lc] 28)).heap.size = w.heap.size + 1 ∧ (w.alloc (.cells #[.int .i64 2, .bool b, .int .i64 N, .slice L l lc] 28)).cell? ⟨w.heap.size, 1, none⟩ = some (.bool b) from ⟨by simp, (cell_of_row _ _ 1 _ _ _ (heap_alloc_new w _)).trans rfl⟩)
  have HNX := Lib.hid (show w.heap.size ≠ g ∧ w.heap.size ≠ m ∧ w.heap.size ≠ x ∧ inB A ≠ some w.heap.size from ⟨by have := h.lt.1; omega, by have := h.lt.2; omega, by have := hx.blk.lt; omega, fun e => by have := (hx.own.lt _ e).2; omega⟩)
  clear hal h hx
  have cb := HCB.out.2
  go_enter Try.func18, Try.ntmps18
  go_wp2_with fail
  refine (pclose_any g m n Q r s _ HP.out b h1 h2 h3 h4).mono ?_
  rintro e w5 ⟨rfl, hp, hk⟩
  have HP5 := Lib.hid hp
  have HX5 := Lib.hid (HX.out.keep hk)
  have HB5 := Lib.hid (HB.out.trans (hk.below hbg hbm HS.out))
  have HS5 := Lib.hid (Nat.le_trans HS.out hk.size)
  have cb5 := (World.cell?_of_block (a := ⟨w.heap.size, 1, none⟩) (hk.block w.heap.size (by have := HCB.out.1; omega) HNX.out.1 HNX.out.2.1)).trans HCB.out.2
  clear hp hk cb
  go_wp2_with fail
  refine (rclose_any base x g m n c A Q r s _ HX5.out b h1 h2 h3 h4).mono ?_
  rintro e w6 ⟨rfl, hp, hk⟩
  have HX6 := Lib.hid hp
  have HP6 := Lib.hid (hk.pipe HX5.out HP5.out)
  have HB6 := Lib.hid (HB5.out.trans (hk.below HX5.out HS5.out))
  clear hp hk cb5
  generalize clV b r s = VV
  generalize clE b r s = EE
  have hcr : 0 ≤ clR b r ∧ clR b r ≤ r + 1 ∧ 0 ≤ clS b s ∧ clS b s ≤ s + 1 := by unfold clR clS; cases b <;> simp <;> split <;> omega
  have HCR := Lib.hid hcr
  clear hcr
  go_wp2
  go_ret
  exact ⟨by first | rfl | simp, ⟨n, Q, _, _, A, c, HP6.out, HX6.out, HCR.out⟩, HB6.out⟩
set_option maxRecDepth 100000 in
set_option maxHeartbeats 2000000 in
theorem step_ready (base g m x n c : Nat) (A : Option Addr) (Q : Nat → Int) (r s : Int) (w : World) (h : PipeAt w g m Q n r s) (hx : RefA w base x g m A n c Q r s) (hbg : base ≤ g) (hbm : base ≤ m) (hb : base ≤ w.heap.size) (h1 : 0 ≤ r) (h2 : r < 2147483647) (h3 : 0 ≤ s) (h4 : s < 2147483647) (b : Bool) (N : Int) (L : Option Addr) (l lc : Nat) : Calls Try.prog 18 #[.pointer (some ⟨g, 0, none⟩), .pointer (some ⟨x, 0, none⟩), .agg #[.int .i64 5, .bool b, .int .i64 N, .slice L l lc]] w fun e w' => Step w base g m x r s e w' := by
  have h5 := h.le5
  have hal : Below w.heap.size w (w.alloc (.cells #[.int .i64 5, .bool b, .int .i64 N, .slice L l lc] 28)) := (Below.refl _ _).alloc (Nat.le_refl _) _
  have HP := Lib.hid (h.below hal h.lt.1 h.lt.2)
  have HX := Lib.hid (hx.below hal)
  have HB := Lib.hid (hal.mono hb)
  have HS := Lib.hid (show base ≤ (w.alloc (.cells #[.int .i64 5, .bool b, .int .i64 N, .slice L l lc] 28)).heap.size from by simp; omega)
  obtain ⟨gl, ml⟩ := h.lt
  have HCB := Lib.hid (show (w.alloc (.cells #[.int .i64 5, .bool b, .int .i64 N, .slice L l lc] 28)).heap.size = w.heap.size + 1 ∧ (w.alloc (.cells #[.int .i64 5, .bool b, .int .i64 N, .slice L l lc] 28)).cell? ⟨w.heap.size, 1, none⟩ = some (.bool b) from ⟨by simp, (cell_of_row _ _ 1 _ _ _ (heap_alloc_new w _)).trans rfl⟩)
  have HNX := Lib.hid (show w.heap.size ≠ g ∧ w.heap.size ≠ m ∧ w.heap.size ≠ x ∧ inB A ≠ some w.heap.size from ⟨by have := h.lt.1; omega, by have := h.lt.2; omega, by have := hx.blk.lt; omega, fun e => by have := (hx.own.lt _ e).2; omega⟩)
  clear hal h hx
  have cb := HCB.out.2
  go_enter Try.func18, Try.ntmps18
  go_wp2_with fail
  go_quiet ((first | (go_at_call 16; (refine Calls.quiet_of_same ((pready_any g m n Q r s _ ?_ b h1 h3).mono fun _ _ ⟨a, b⟩ => ⟨a, b.symm⟩); exact HP.out)) | (go_at_call 36; (refine Calls.quiet_of_same ((rready_any base x g m n c A Q r s _ ?_ b h1 h3 h5).mono fun _ _ ⟨a, b⟩ => ⟨a, b.symm⟩); exact HX.out.kept rfl (fun _ _ => rfl)))))
  go_wp2
  go_ret
  exact ⟨by first | rfl | simp, ⟨n, Q, r, s, A, c, HP.out, HX.out.kept rfl (fun _ _ => rfl), by omega, by omega, by omega, by omega⟩, below_drewN HB.out _⟩
set_option maxRecDepth 100000 in
set_option maxHeartbeats 2000000 in
theorem step_read (base g m x n c : Nat) (A : Option Addr) (Q : Nat → Int) (r s : Int) (w : World) (h : PipeAt w g m Q n r s) (hx : RefA w base x g m A n c Q r s) (hbg : base ≤ g) (hbm : base ≤ m) (hb : base ≤ w.heap.size) (h1 : 0 ≤ r) (h2 : r < 2147483647) (h3 : 0 ≤ s) (h4 : s < 2147483647) (b : Bool) (N : Int) (L : Option Addr) (l lc : Nat) : Calls Try.prog 18 #[.pointer (some ⟨g, 0, none⟩), .pointer (some ⟨x, 0, none⟩), .agg #[.int .i64 3, .bool b, .int .i64 N, .slice L l lc]] w fun e w' => Step w base g m x r s e w' := by
  have h5 := h.le5
  have hal : Below w.heap.size w (w.alloc (.cells #[.int .i64 3, .bool b, .int .i64 N, .slice L l lc] 28)) := (Below.refl _ _).alloc (Nat.le_refl _) _
  have HP := Lib.hid (h.below hal h.lt.1 h.lt.2)
  have HX := Lib.hid (hx.below hal)
  have HB := Lib.hid (hal.mono hb)
  have HS := Lib.hid (show base ≤ (w.alloc (.cells #[.int .i64 3, .bool b, .int .i64 N, .slice L l lc] 28)).heap.size from by simp; omega)
  obtain ⟨gl, ml⟩ := h.lt
  have HCB := Lib.hid (show (w.alloc (.cells #[.int .i64 3, .bool b, .int .i64 N, .slice L l lc] 28)).heap.size = w.heap.size + 1 ∧ (w.alloc (.cells #[.int .i64 3, .bool b, .int .i64 N, .slice L l lc] 28)).cell? ⟨w.heap.size, 1, none⟩ = some (.bool b) from ⟨by simp, (cell_of_row _ _ 1 _ _ _ (heap_alloc_new w _)).trans rfl⟩)
  have HNX := Lib.hid (show w.heap.size ≠ g ∧ w.heap.size ≠ m ∧ w.heap.size ≠ x ∧ inB A ≠ some w.heap.size from ⟨by have := h.lt.1; omega, by have := h.lt.2; omega, by have := hx.blk.lt; omega, fun e => by have := (hx.own.lt _ e).2; omega⟩)
  clear hal h hx
  have cb : (w.alloc (.cells #[.int .i64 3, .bool b, .int .i64 N, .slice L l lc] 28)).cell? ⟨w.heap.size, 2, none⟩ = some (.int .i64 N) := (cell_of_row _ _ 2 _ _ _ (heap_alloc_new w _)).trans rfl
  have HCC := Lib.hid cb
  go_enter Try.func18, Try.ntmps18
  go_wp2_with fail
  refine (read_any g m n Q r s _ HP.out N h3).mono ?_
  rintro e w5 ⟨A1, rfl, hA1, hA0, hp, hk⟩
  have HA := Lib.hid hA1
  have HA0 := Lib.hid hA0
  have HP5 := Lib.hid hp
  have HX5 := Lib.hid (HX.out.keep hk)
  have HB5 := Lib.hid (HB.out.trans (hk.below hbg hbm HS.out))
  have HS5 := Lib.hid (Nat.le_trans HS.out hk.size)
  have HXA := Lib.hid (show ∀ k, inB A = some k → k < (w.alloc (.cells #[.int .i64 3, .bool b, .int .i64 N, .slice L l lc] 28)).heap.size from fun k e => (HX.out.own.lt k e).2)
  have HXX := Lib.hid HX.out.blk.lt
  have cb5 := (World.cell?_of_block (a := ⟨w.heap.size, 2, none⟩) (hk.block w.heap.size (by have := HCB.out.1; omega) HNX.out.1 HNX.out.2.1)).trans HCC.out
  clear hp hk cb hA1 hA0
  generalize hH : (w.alloc (.cells #[.int .i64 3, .bool b, .int .i64 N, .slice L l lc] 28)).heap.size = H at *
  have HH := Lib.hid hH
  clear hH
  go_wp2_with fail
  refine (rread_any base x g m n c A Q r s _ HX5.out N h3 h5 HS5.out HP5.out.lt.1 HP5.out.lt.2).mono ?_
  rintro e w6 ⟨B1, b1, rfl, hR, ⟨A', c', hp, hnew⟩, hk⟩
  have HX6 := Lib.hid hp
  have HP6 := Lib.hid (hk.pipe HX5.out HP5.out)
  have HB6 := Lib.hid (HB5.out.trans (hk.below HX5.out HS5.out))
  have HR6 := Lib.hid hR
  have HA6 := Lib.hid (show 0 < took n N → A1 = some ⟨H, 0, none⟩ ∧ Blk w6 H (bytes Q (took n N)) from fun hn => by
    obtain ⟨e, hb⟩ := HA.out hn
    have e2 := hk.block H hb.lt (fun e => by have := HXX.out; omega) (fun e => by have := HXA.out _ e; omega)
    exact ⟨e, ⟨(row_heap e2).trans hb.1, (nf_heap e2).trans hb.2⟩⟩)
  have HRD := Lib.hid (show Rd w6 A1 (took n N) Q from fun hn => by
    obtain ⟨e, hb⟩ := HA6.out hn
    subst e
    exact Rd.of_blk (fun _ => hb) hn)
  have hTn : took n N ≤ n := by unfold took; split <;> omega
  have HGH := Lib.hid (show g < H ∧ m < H ∧ (∀ k, inB A' = some k → 0 < took n N → k ≠ H) from ⟨by have := HH.out; have := HCB.out; omega, by have := HH.out; have := HCB.out; omega, fun k e h0 => by
    rcases hnew k e with e2 | e2
    · have := HXA.out k e2; omega
    · have := (HA.out h0).2.lt; omega⟩)
  clear hp hk cb5 hR HA hnew
  generalize tookE s n N = EE at *
  generalize took n N = T at *
  go_wp2_with fail
  refine (same_yes A1 B1 T T b1 Q Q w6 HRD.out HR6.out (fun _ _ => rfl)).mono ?_
  rintro e w7 ⟨rfl, rfl⟩
  go_wp2_with fail
  refine (spoils_ok A1 T T w6 (by omega) (fun hn => by obtain ⟨e, hb⟩ := HA6.out hn; exact ⟨H, _, e, hb, fun i hi => ⟨_, by_get _ _ _ hi⟩⟩)).mono ?_
  rintro e w7 ⟨rfl, hg, hs⟩
  have hrow : ∀ k, k < w6.heap.size → (0 < T → k ≠ H) → w7.heap[k]? = w6.heap[k]? := fun k hk hne => hg.block k hk (fun e => by
    rcases Nat.eq_zero_or_pos T with h0 | h0
    · rw [HA0.out h0] at e; cases e
    · rw [(HA6.out h0).1] at e; simp [inB] at e; exact hne h0 e)
  have HP7 := Lib.hid (HP6.out.heap (hrow g HP6.out.lt.1 (fun _ => by have := HGH.out.1; omega)) (hrow m HP6.out.lt.2 (fun _ => by have := HGH.out.2.1; omega)))
  have HX7 := Lib.hid (HX6.out.kept (hrow x HX6.out.blk.lt (fun _ => by have := HXX.out; omega)) (fun k e => hrow k (HX6.out.own.lt k e).2 (HGH.out.2.2 k e)))
  have HB7 := Lib.hid (HB6.out.trans (show Below base w6 w7 from ⟨hg.os, hg.tape, hg.output, hg.size, fun k hk => hrow k (by have := HB6.out.size; have := HB.out.size; omega) (fun _ => by have := HS.out; omega)⟩))
  clear hg hs hrow
  go_wp2
  go_ret
  exact ⟨by first | rfl | simp, ⟨n - T, _, r, s, A', c', HP7.out, HX7.out, by omega, by omega, by omega, by omega⟩, HB7.out⟩
theorem Own.blk {w : World} {base : Nat} {e : TypeId} {A : Option Addr} {n c : Nat} {V : Nat → Value} (h : Own w base e A n c V) (hn : 0 < n) : ∃ g cur, A = some ⟨g, 0, none⟩ ∧ Blk w g cur ∧ ∀ i, i < n → cur[i]? = some (V i) := by
  rcases h.2 with ⟨hv, h0⟩ | ⟨g, cap, cur, hv, hb, hgg, h1, h2, h3, h4⟩
  · omega
  · have hA : A = some ⟨g, 0, none⟩ := by injection hv
    subst hA
    refine ⟨g, cur, rfl, Blk.of_heap hgg, fun i hi => ?_⟩
    have := World.ownsRow.cells h (g := g) rfl i (V i) (by simp [vals, hi])
    have e2 : ((⟨g, 0, none⟩ : Addr).add i) = ⟨g, i, none⟩ := by unfold Addr.add; by_cases h : i = 0 <;> simp [h]
    rw [e2, cell_of_row w g i cur _ _ hgg] at this
    exact this
set_option maxRecDepth 100000 in
set_option maxHeartbeats 2000000 in
theorem step_write (base g m x n c : Nat) (A : Option Addr) (Q : Nat → Int) (r s : Int) (w : World) (h : PipeAt w g m Q n r s) (hx : RefA w base x g m A n c Q r s) (hbg : base ≤ g) (hbm : base ≤ m) (hb : base ≤ w.heap.size) (h1 : 0 ≤ r) (h2 : r < 2147483647) (h3 : 0 ≤ s) (h4 : s < 2147483647) (b : Bool) (N : Int) (L : Option Addr) (l lc : Nat) (Y : Nat → Int) (hL : Nums .u8 w base L l lc Y) (hll : l * 1 ≤ reachBytes) : Calls Try.prog 18 #[.pointer (some ⟨g, 0, none⟩), .pointer (some ⟨x, 0, none⟩), .agg #[.int .i64 4, .bool b, .int .i64 N, .slice L l lc]] w fun e w' => Step w base g m x r s e w' := by
  have h5 := h.le5
  have hlm : l ≤ 140737488351232 := by unfold reachBytes at hll; omega
  have hlc : l ≤ lc := hL.1
  have hcm : lc ≤ 9223372036854775807 := hL.2.1
  have hal : Below w.heap.size w (w.alloc (.cells #[.int .i64 4, .bool b, .int .i64 N, .slice L l lc] 28)) := (Below.refl _ _).alloc (Nat.le_refl _) _
  have HP := Lib.hid (h.below hal h.lt.1 h.lt.2)
  have HX := Lib.hid (hx.below hal)
  have HB := Lib.hid (hal.mono hb)
  have HS := Lib.hid (show base ≤ (w.alloc (.cells #[.int .i64 4, .bool b, .int .i64 N, .slice L l lc] 28)).heap.size from by simp; omega)
  obtain ⟨gl, ml⟩ := h.lt
  have HCB := Lib.hid (show (w.alloc (.cells #[.int .i64 4, .bool b, .int .i64 N, .slice L l lc] 28)).heap.size = w.heap.size + 1 ∧ (w.alloc (.cells #[.int .i64 4, .bool b, .int .i64 N, .slice L l lc] 28)).cell? ⟨w.heap.size, 1, none⟩ = some (.bool b) from ⟨by simp, (cell_of_row _ _ 1 _ _ _ (heap_alloc_new w _)).trans rfl⟩)
  have HNX := Lib.hid (show w.heap.size ≠ g ∧ w.heap.size ≠ m ∧ w.heap.size ≠ x ∧ inB A ≠ some w.heap.size from ⟨by have := h.lt.1; omega, by have := h.lt.2; omega, by have := hx.blk.lt; omega, fun e => by have := (hx.own.lt _ e).2; omega⟩)
  clear hal h hx
  have cb : (w.alloc (.cells #[.int .i64 4, .bool b, .int .i64 N, .slice L l lc] 28)).cell? ⟨w.heap.size, 3, none⟩ = some (.slice L l lc) := (cell_of_row _ _ 3 _ _ _ (heap_alloc_new w _)).trans rfl
  have HCC := Lib.hid cb
  have HL := Lib.hid (hL.below (HB.out))
  have HW := Lib.hid (show (w.alloc (.cells #[.int .i64 4, .bool b, .int .i64 N, .slice L l lc] 28)).heap.size = w.heap.size + 1 from by simp)
  have HL1 := Lib.hid (show 0 + l ≤ maxLen by unfold maxLen; omega)
  have HL2 := Lib.hid (show (0 + l) * 1 ≤ 140737488355328 by omega)
  clear cb hL
  go_enter Try.func18, Try.ntmps18
  go_wp2_with (at_builtin; go_must (refine wpList_app rfl (.tmp 90) (.tmp 92) 26 5 rfl (.int .u8 0) 1 ty26 i5 rfl (w.heap.size + 1) _ _ _ rfl _ _ _ rfl (fun _ => .int .u8 0) (own_empty _ (heap_at (by simp)) (Nat.le_refl _)) (fun i => .int .u8 (Y i)) ?_ HL1.out HL2.out (by simp) ?_; (focus (intro hn; obtain ⟨ad, e, hb', hc⟩ := HL.out.2.2.2 hn; exact ⟨ad, e, fun i hi => ⟨(World.cell?_alloc_lt _ _ _ (by rw [block_of_add]; have := HS.out; omega)).trans (hc i hi), rfl⟩⟩)); intro A6 c6 w6 hO6 hg6 hb6; have HO6 := Lib.hid hO6; have HG6 := Lib.hid hg6; have HI6 := Lib.hid hb6; clear hO6 hg6 hb6))
  have hold : ∀ k, k < w.heap.size + 1 → w6.heap[k]? = (w.alloc (.cells #[.int .i64 4, .bool b, .int .i64 N, .slice L l lc] 28)).heap[k]? := fun k hk => by
    refine (HG6.out.block k (by simp; omega) (by simp [inB]; omega)).trans (heap_past (by simp; omega))
  have hz6 : w.heap.size + 2 ≤ w6.heap.size := by have := HG6.out.size; simp at this; omega
  have h6 := HO6.out
  rw [Nat.zero_add] at h6
  have HO6 := Lib.hid (h6.ext (U := fun i => .int .u8 (Y i)) fun i hi => by unfold catV; rw [if_neg (by omega), Nat.sub_zero])
  have HP6 := Lib.hid (HP.out.heap (hold g (by omega)) (hold m (by omega)))
  have HX6 := Lib.hid (HX.out.kept (hold x (by have := HX.out.blk.lt; have := HW.out; omega)) (fun k e => hold k (by have := (HX.out.own.lt k e).2; have := HW.out; omega)))
  have HB6 := Lib.hid (HB.out.trans (show Below base _ w6 from ⟨HG6.out.os, HG6.out.tape, HG6.out.output, by have := HW.out; omega, fun k hk => hold k (by omega)⟩))
  have cb6 := (World.cell?_of_block (a := ⟨w.heap.size, 3, none⟩) (hold w.heap.size (by omega))).trans HCC.out
  have HC6 := Lib.hid cb6
  have HXA := Lib.hid (show x < w.heap.size + 1 ∧ ∀ k, inB A = some k → k < w.heap.size + 1 from ⟨by have := HX.out.blk.lt; have := HW.out; omega, fun k e => by have := (HX.out.own.lt k e).2; have := HW.out; omega⟩)
  have HSX := Lib.hid (show Src w6 g A6 l Y from fun hn => by
    obtain ⟨g0, e, hc⟩ := HO6.out.cells hn
    have := (HO6.out.lt g0 (by rw [e]; rfl)).1
    exact ⟨_, e, by show g0 ≠ g; omega, hc⟩)
  have hA6 : l ≤ c6 ∧ c6 ≤ 9223372036854775807 := HO6.out.le
  obtain ⟨ha6, hb6⟩ := hA6
  clear hold h6 cb6
  refine (write_any g m n Q r s w6 HP6.out A6 l c6 Y h1 ha6 hb6 HSX.out).mono ?_
  rintro e w7 ⟨rfl, hp, hk⟩
  have HP7 := Lib.hid hp
  have HX7 := Lib.hid (HX6.out.keep hk)
  have HB7 := Lib.hid (HB6.out.trans (hk.below hbg hbm (by omega)))
  have hs7 : base ≤ w7.heap.size := by have := hk.size; omega
  have cb7 := (World.cell?_of_block (a := ⟨w.heap.size, 3, none⟩) (hk.block w.heap.size (by omega) HNX.out.1 HNX.out.2.1)).trans HC6.out
  have HC7 := Lib.hid cb7
  have HO7 := Lib.hid (HO6.out.heap (w' := w7) fun k e => hk.block k (HO6.out.lt k e).2 (by have := (HO6.out.lt k e).1; omega) (by have := (HO6.out.lt k e).1; omega))
  have hz7 : w.heap.size + 2 ≤ w7.heap.size := by have := hk.size; omega
  have HL7 := Lib.hid (show Rd w7 L l Y from fun hn => by
    obtain ⟨ad, e, hb', hc⟩ := HL.out.2.2.2 hn
    have hh : Below base (w.alloc (.cells #[.int .i64 4, .bool b, .int .i64 N, .slice L l lc] 28)) w6 := ⟨HG6.out.os, HG6.out.tape, HG6.out.output, by have := HW.out; omega, fun k hk => (HG6.out.block k (by simp; omega) (by simp [inB]; omega)).trans (heap_past (by simp; omega))⟩
    exact ⟨ad, e, fun i hi => ((hh.trans (hk.below hbg hbm (by omega))).cell (by rw [block_of_add]; exact hb')).trans (hc i hi)⟩)
  clear hp hk
  go_wp2_with fail
  refine (rwrite_any base x g m n c A Q r s w7 HX7.out L l lc Y h1 hlc hcm HL7.out h5 hs7 (by omega) (by omega)).mono ?_
  rintro e w8 ⟨rfl, ⟨A', c', hp, hnew⟩, hk⟩
  have HX8 := Lib.hid hp
  have HP8 := Lib.hid (hk.pipe HX7.out HP7.out)
  have HB8 := Lib.hid (HB7.out.trans (hk.below HX7.out hs7))
  have cb8 := (World.cell?_of_block (a := ⟨w.heap.size, 3, none⟩) (hk.block w.heap.size (by omega) HNX.out.2.2.1 HNX.out.2.2.2)).trans HC7.out
  have HO8 := Lib.hid (HO7.out.heap (w' := w8) fun k e => hk.block k (HO7.out.lt k e).2 (by have := (HO7.out.lt k e).1; have := HXA.out.1; omega) (fun e2 => by have := (HO7.out.lt k e).1; have := HXA.out.2 k e2; omega))
  have HL8 := Lib.hid (show Rd w8 L l Y from fun hn => by
    obtain ⟨ad, e, hb', hc⟩ := HL.out.2.2.2 hn
    obtain ⟨ad2, e2, hc2⟩ := HL7.out hn
    have e3 : ad2 = ad := by rw [e] at e2; injection e2 with e2; exact e2.symm
    subst e3
    exact ⟨ad2, e, fun i hi => ((hk.below HX7.out hs7).cell (by rw [block_of_add]; exact hb')).trans (hc2 i hi)⟩)
  have HR8 := Lib.hid (show Rd w8 A6 l Y from fun hn => by
    obtain ⟨g0, e, hc⟩ := HO8.out.cells hn
    exact ⟨_, e, hc⟩)
  have hz8 : w.heap.size + 2 ≤ w8.heap.size := by have := hk.size; omega
  have HNA := Lib.hid (show ∀ k, inB A6 = some k → inB A' ≠ some k from fun k e e2 => by
    rcases hnew k e2 with e3 | e3
    · have := (HO8.out.lt k e).1; have := HXA.out.2 k e3; omega
    · have := (HO7.out.lt k e).2; omega)
  clear hp hk cb7 hnew
  have hcN : n + wrote r n l ≤ 512 := HP8.out.le5
  generalize wroteE r n l = EE at *
  generalize wrote r n l = C at *
  go_wp2_with fail
  refine (same_yes A6 L l c6 lc Y Y w8 HR8.out HL8.out (fun _ _ => rfl)).mono ?_
  rintro e w9 ⟨rfl, rfl⟩
  go_wp2_with fail
  refine (spoils_ok A6 l c6 w8 (by omega) (fun hn => by
    obtain ⟨g0, cur, e, hb', hc⟩ := HO8.out.blk hn
    exact ⟨g0, cur, e, hb', fun i hi => ⟨_, hc i hi⟩⟩)).mono ?_
  rintro e w9 ⟨rfl, hg, hs⟩
  have hrow : ∀ k, k < w8.heap.size → inB A6 ≠ some k → w9.heap[k]? = w8.heap[k]? := fun k hk hne => hg.block k hk (fun e => hne e.symm)
  have hlo : ∀ k, k < w.heap.size + 1 → inB A6 ≠ some k := fun k hk e => by have := (HO8.out.lt k e).1; omega
  have HP9 := Lib.hid (HP8.out.heap (hrow g (by omega) (hlo g (by omega))) (hrow m (by omega) (hlo m (by omega))))
  have HX9 := Lib.hid (HX8.out.kept (hrow x HX8.out.blk.lt (hlo x HXA.out.1)) (fun k e => hrow k (HX8.out.own.lt k e).2 (fun e2 => HNA.out k e2 e)))
  have HB9 := Lib.hid (HB8.out.trans (show Below base w8 w9 from ⟨hg.os, hg.tape, hg.output, hg.size, fun k hk => hrow k (by omega) (hlo k (by omega))⟩))
  clear hg hs hrow hlo
  go_wp2
  go_ret
  exact ⟨by first | rfl | simp, ⟨n + C, _, r, s, A', c', HP9.out, HX9.out, by omega, by omega, by omega, by omega⟩, HB9.out⟩
set_option maxRecDepth 100000 in
set_option maxHeartbeats 2000000 in
theorem step_look (base g m x n c : Nat) (A : Option Addr) (Q : Nat → Int) (r s : Int) (w : World) (h : PipeAt w g m Q n r s) (hx : RefA w base x g m A n c Q r s) (hbg : base ≤ g) (hbm : base ≤ m) (hb : base ≤ w.heap.size) (h1 : 0 ≤ r) (h2 : r < 2147483647) (h3 : 0 ≤ s) (h4 : s < 2147483647) (k : Int) (k1 : k ≠ 1) (k2 : k ≠ 2) (k3 : k ≠ 3) (k4 : k ≠ 4) (k5 : k ≠ 5) (b : Bool) (N : Int) (L : Option Addr) (l lc : Nat) : Calls Try.prog 18 #[.pointer (some ⟨g, 0, none⟩), .pointer (some ⟨x, 0, none⟩), .agg #[.int .i64 k, .bool b, .int .i64 N, .slice L l lc]] w fun e w' => Step w base g m x r s e w' := by
  have hal : Below w.heap.size w (w.alloc (.cells #[.int .i64 k, .bool b, .int .i64 N, .slice L l lc] 28)) := (Below.refl _ _).alloc (Nat.le_refl _) _
  have HP := Lib.hid (h.below hal h.lt.1 h.lt.2)
  have HX := Lib.hid (hx.below hal)
  have HB := Lib.hid (hal.mono hb)
  have HS := Lib.hid (show base ≤ (w.alloc (.cells #[.int .i64 k, .bool b, .int .i64 N, .slice L l lc] 28)).heap.size from by simp; omega)
  obtain ⟨gl, ml⟩ := h.lt
  have HCB := Lib.hid (show (w.alloc (.cells #[.int .i64 k, .bool b, .int .i64 N, .slice L l lc] 28)).heap.size = w.heap.size + 1 ∧ (w.alloc (.cells #[.int .i64 k, .bool b, .int .i64 N, .slice L l lc] 28)).cell? ⟨w.heap.size, 1, none⟩ = some (.bool b) from ⟨by simp, (cell_of_row _ _ 1 _ _ _ (heap_alloc_new w _)).trans rfl⟩)
  have HNX := Lib.hid (show w.heap.size ≠ g ∧ w.heap.size ≠ m ∧ w.heap.size ≠ x ∧ inB A ≠ some w.heap.size from ⟨by have := h.lt.1; omega, by have := h.lt.2; omega, by have := hx.blk.lt; omega, fun e => by have := (hx.own.lt _ e).2; omega⟩)
  clear hal h hx
  have f1 : (k == 1) = false := beq_eq_false_iff_ne.2 k1
  have f2 : (k == 2) = false := beq_eq_false_iff_ne.2 k2
  have f3 : (k == 3) = false := beq_eq_false_iff_ne.2 k3
  have f4 : (k == 4) = false := beq_eq_false_iff_ne.2 k4
  have f5 : (k == 5) = false := beq_eq_false_iff_ne.2 k5
  clear k1 k2 k3 k4 k5
  go_enter Try.func18, Try.ntmps18
  go_wp2_with fail
  refine (ends_ok g m n Q r s _ HP.out).mono ?_
  rintro e w5 ⟨rfl, hB⟩
  have HP5 := Lib.hid (HP.out.below hB HP.out.lt.1 HP.out.lt.2)
  have HX5 := Lib.hid (HX.out.below hB)
  have HB5 := Lib.hid (HB.out.trans (hB.mono HS.out))
  obtain ⟨gr, gn, gc, gf⟩ := HX5.out.blk.all
  have c0 := (gc 0).trans (show _ = some (.slice A n c) from rfl)
  have c1 := (gc 1).trans (show _ = some (.int .i64 r) from rfl)
  have c2 := (gc 2).trans (show _ = some (.int .i64 s) from rfl)
  clear hB gr gn gc gf
  go_wp2_with fail
  go_quiet ((go_at_call 13; refine Calls.quiet_of_same ((len_ok g m n Q r s _ ?_).mono fun _ _ ⟨a, b⟩ => ⟨a, b.symm⟩); exact HP5.out))
  go_wp2
  go_ret
  exact ⟨by first | rfl | simp, ⟨n, Q, r, s, A, c, HP5.out, HX5.out.kept rfl (fun _ _ => rfl), by omega, by omega, by omega, by omega⟩, below_drewN HB5.out _⟩
theorem step_any (base g m x n c : Nat) (A : Option Addr) (Q : Nat → Int) (r s : Int) (w : World) (h : PipeAt w g m Q n r s) (hx : RefA w base x g m A n c Q r s) (hbg : base ≤ g) (hbm : base ≤ m) (hb : base ≤ w.heap.size) (h1 : 0 ≤ r) (h2 : r < 2147483647) (h3 : 0 ≤ s) (h4 : s < 2147483647) (k : Int) (b : Bool) (N : Int) (L : Option Addr) (l lc : Nat) (Y : Nat → Int) (hL : Nums .u8 w base L l lc Y) (hll : l * 1 ≤ reachBytes) : Calls Try.prog 18 #[.pointer (some ⟨g, 0, none⟩), .pointer (some ⟨x, 0, none⟩), .agg #[.int .i64 k, .bool b, .int .i64 N, .slice L l lc]] w fun e w' => Step w base g m x r s e w' := by
  by_cases k1 : k = 1
  · subst k1; exact step_open base g m x n c A Q r s w h hx hbg hbm hb h1 h2 h3 h4 b N L l lc
  · by_cases k2 : k = 2
    · subst k2; exact step_close base g m x n c A Q r s w h hx hbg hbm hb h1 h2 h3 h4 b N L l lc
    · by_cases k3 : k = 3
      · subst k3; exact step_read base g m x n c A Q r s w h hx hbg hbm hb h1 h2 h3 h4 b N L l lc
      · by_cases k4 : k = 4
        · subst k4; exact step_write base g m x n c A Q r s w h hx hbg hbm hb h1 h2 h3 h4 b N L l lc Y hL hll
        · by_cases k5 : k = 5
          · subst k5; exact step_ready base g m x n c A Q r s w h hx hbg hbm hb h1 h2 h3 h4 b N L l lc
          · exact step_look base g m x n c A Q r s w h hx hbg hbm hb h1 h2 h3 h4 k k1 k2 k3 k4 k5 b N L l lc
end Go.Proofs.Ytmifomppnmhmpaa
