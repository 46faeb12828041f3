import Derived.Test.YtngjpokbjnjodaaLives
import Derived.Deep.QuietTactic
import Derived.BigQuiet
import Derived.RangeFuncNested
import Derived.RangeFuncBound
import Derived.RangeFuncCalls
import Derived.RangeFuncLeaves
import Derived.RangeFuncFrom
import Derived.OwnWalkIn
import Derived.TacticsInMore
import Derived.Shelf.Abstract
import Derived.Shelf.RegionOpen
/- PtabNobody: a nil table. -/
namespace Go.Proofs.Ytngjpokbjnjodaa
open Go.RowKit Go.BigFrame
set_option linter.unusedVariables false
set_option linter.unusedSimpArgs false
attribute [local go_sem] szIs_lit row_at row_past row_alloc nf_alloc row_set nf_set row_cell nf_cell row_drew nf_drew row_drewN nf_drewN cell_setRow frozen_setRow nlt1 nlt2 nlt3 nlt4 nne1 nne2 nne3 nen1 nen2 nen3
attribute [local go_sem] by_get by_set
open Go.Shelf
attribute [local go_sem] Oper.semAt_some
section
variable (w : World)
theorem get_nil (p e : Int) (c : Bool) (w : World) : Calls Try.prog 31 #[.pointer none, .int .i64 p] w fun r w' => r = .returned (.tuple #[.int .u32 0, .int .i64 6]) ∧ w = w' := by
  have HM := Lib.hid (made_nil w)
  go_enter Try.func31, Try.ntmps31
  go_wp2_with fail
  refine HM.out.mono ?_
  rintro r w' ⟨rfl, rfl⟩
  go_wp2
  go_ret2
  exact ⟨by first | rfl | simp, rfl⟩
theorem trans_nil (p e : Int) (c : Bool) (w : World) : Calls Try.prog 32 #[.pointer none, .int .u32 e, .bool c] w fun r w' => r = .returned (.tuple #[.int .i64 0, .int .i64 6]) ∧ w = w' := by
  have HM := Lib.hid (made_nil w)
  go_enter Try.func32, Try.ntmps32
  go_wp2_with fail
  refine HM.out.mono ?_
  rintro r w' ⟨rfl, rfl⟩
  go_wp2
  go_ret2
  exact ⟨by first | rfl | simp, rfl⟩
theorem root_nil (p e : Int) (c : Bool) (w : World) : Calls Try.prog 33 #[.pointer none] w fun r w' => r = .returned (.int .i64 (-1)) ∧ w = w' := by
  have HM := Lib.hid (made_nil w)
  go_enter Try.func33, Try.ntmps33
  go_wp2_with fail
  refine HM.out.mono ?_
  rintro r w' ⟨rfl, rfl⟩
  go_wp2
  go_ret
  exact ⟨by first | rfl | simp, rfl⟩
theorem needs_nil (p e : Int) (c : Bool) (w : World) : Calls Try.prog 34 #[.pointer none, .int .i64 p] w fun r w' => r = .returned (.bool false) ∧ w = w' := by
  have HM := Lib.hid (made_nil w)
  go_enter Try.func34, Try.ntmps34
  go_wp2_with fail
  refine HM.out.mono ?_
  rintro r w' ⟨rfl, rfl⟩
  go_wp2
  go_ret
  exact ⟨by first | rfl | simp, rfl⟩
theorem leaves_nil (p e : Int) (c : Bool) (w : World) : Calls Try.prog 25 #[.pointer none] w fun r w' => r = .returned (.slice none 0 0) ∧ w = w' := by
  have HM := Lib.hid (made_nil w)
  go_enter Try.func25, Try.ntmps25
  go_wp2_with fail
  refine HM.out.mono ?_
  rintro r w' ⟨rfl, rfl⟩
  go_wp2
  go_ret
  exact ⟨by first | rfl | simp, rfl⟩
theorem all_nil (w : World) : Calls Try.prog 24 #[.pointer none] w fun r w' => (∃ x, r = .returned (.func (.func 48) #[] #[.pointer (some ⟨x, 0, none⟩)]) ∧ Blk w' x #[.pointer none] ∧ w.heap.size ≤ x) ∧ Below w.heap.size w w' := by
  go_enter Try.func24, Try.ntmps24
  go_wp2
  go_ret
  exact ⟨⟨_, by first | rfl | simp, ⟨by go_simp, by go_simp⟩, Nat.le_refl _⟩, (Below.refl _ _).alloc (Nat.le_refl _) _⟩
end
abbrev ecs (x : Int × Int) : Array Value := #[.int .i64 x.1, .int .u32 x.2]
theorem all_nil_stops (n x : Nat) (Kp : World → World → Prop) (w : World) (hx : Blk w x #[.pointer none]) : SeqStopsK Fence.wide n Try.prog 48 #[.pointer (some ⟨x, 0, none⟩)] ecs Kp (fun xs => xs = []) (fun _ => False) 0 w := fun l J Jx W hW hJ hJx hY h0 => by
  refine callsIn_wide.2 ?_
  have hc : W.cell? ⟨x, 0, none⟩ = some (.pointer none) := ((hx.below hW hx.lt).all.2.2.1 0).trans rfl
  have HM := Lib.hid (made_nil W)
  have H0 := Lib.hid h0
  clear hY h0 hJ hJx hW hx
  simp only [List.append_toArray, List.cons_append, List.nil_append]
  go_enter Try.func48, Try.ntmps48
  go_wp2_with fail
  refine HM.out.mono ?_
  rintro r w' ⟨rfl, rfl⟩
  go_wp2
  refine bodyPost_ret (results_none rfl _ _ _) rfl ?_
  exact ⟨⟨_, rfl⟩, .inl ⟨[], rfl, H0.out⟩⟩
/-- A range over a function that gives nothing. -/
theorem wp_range_none {g : Operand} {ps : Array Tmp} {body : Code} {Q : Exit → Act → World → Prop} {a : Act} {w : World} {gf : Nat} {lb : Array Value} (hg : a.eval g = .func (.func gf) #[] lb) (eg : ∀ args w, (callFunc gf args).run Try.prog w = .ok (.enter gf args) w)
    {encs : Int × Int → Array Value} (hseq : SeqStopsK Fence.wide 7 Try.prog gf lb encs (Below w.heap.size) (fun xs => xs = []) (fun _ => False) 0 w) (hps : ∀ x, (encs x).size = ps.size)
    (hdone : ∀ (D : Nat) (W : World), w.heap.size ≤ D → Below w.heap.size w W → W.heap[D]? = some (.deferred (some [])) → Q .normal { a with defers := { target := .collected D, args := #[] } :: a.defers } W) :
    (Code.rangeFunc g ps Code.skip body).wp Try.prog Q a w := by
  refine (wpIn_wide (n := 8)).1 (wpIn_rangeFunc_ownF (α := Int × Int) rfl (by omega) hg trivial eg hseq belowK_t (belowK_b (Nat.le_refl _)) (Below.refl _ _) hps (fun pre W => Below w.heap.size w W) (fun _ _ _ => False) (ownFrom_below (Nat.le_refl _) (Nat.le_refl _)) (fun _ _ _ _ _ hs _ _ => hs) (Below.refl _ _)
    (fun x => { tmps := (ps.zip (encs x)).foldl (fun t (p, v) => t.setIfInBounds p v) a.tmps, defers := [] }) ?assign ?body (fun D xs W hD _ hB hK => hdone D W hD hB hK) ?stop)
  case assign =>
    intro l x W K hK
    exact wpIn_skip hK
  case body =>
    intro l pre x W _ h
    exact absurd h (by simp)
  case stop =>
    intro D c pre W _ h
    exact h.elim
set_option maxHeartbeats 4000000 in
set_option maxRecDepth 100000 in
theorem nobody_walk (page e addr : Int) (w : World) : Calls Try.prog 8 #[.int .i64 page, .int .u32 e, .int .u32 addr] w fun r w' => r = .returned (.bool true) ∧ Below w.heap.size w w' := by
  refine (callsIn_wide (n := 8)).1 ?_
  refine callsIn_of_wp_marks Try.func8 rfl trivial ?_
  simp only [Try.ntmps8, List.size_toArray, List.length_cons, List.length_nil, Nat.reduceAdd, Nat.reduceSub, Array.replicate_succ, Array.replicate_zero, List.push_toArray, List.append_toArray, List.nil_append, List.cons_append]
  refine wpIn_wide.2 ?_
  obtain ⟨w0, hw0⟩ : ∃ w0, w.alloc (.cells #[.bool false] 4) = w0 := ⟨_, rfl⟩
  have hB0 : Below w.heap.size w w0 := by rw [← hw0]; exact (Below.refl _ _).alloc (Nat.le_refl _) _
  have hC0 : Blk w0 w.heap.size #[.bool false] := by rw [← hw0]; exact Blk.of_heap (heap_at (by simp))
  have HB0 := Lib.hid hB0
  have HC0 := Lib.hid hC0
  clear hB0 hC0
  go_wp2_with (rw [hw0])
  refine (lives_ok w0).mono ?_
  rintro r w1 ⟨rfl, hb1⟩
  have HB1 := Lib.hid (HB0.out.trans (Below.mono hb1 HB0.out.size))
  have HC1 := Lib.hid (HC0.out.below hb1 HC0.out.lt)
  clear hb1 hw0
  go_wp2_with fail
  refine (newt_nil page w1).mono ?_
  rintro r w' ⟨rfl, rfl⟩
  go_wp2_with fail
  refine (set_nil page e 1 w1).mono ?_
  rintro r w' ⟨rfl, rfl⟩
  go_wp2_with fail
  refine (get_nil page 0 true w1).mono ?_
  rintro r w' ⟨rfl, rfl⟩
  go_wp2_with fail
  refine (trans_nil 0 addr true w1).mono ?_
  rintro r w' ⟨rfl, rfl⟩
  go_wp2_with fail
  refine (all_nil w1).mono ?_
  rintro r w2 ⟨⟨x, rfl, hx, hx2⟩, hb2⟩
  have HB2 := Lib.hid (HB1.out.trans (Below.mono hb2 HB1.out.size))
  have HC2 := Lib.hid (HC1.out.below hb2 HC1.out.lt)
  have HX := Lib.hid hx
  clear hb2 hx hx2
  go_wp2_with fail
  refine wp_range_none (gf := 48) (lb := #[.pointer (some ⟨x, 0, none⟩)]) rfl (enters_of Try.func48 (by kernel_rfl) rfl) (all_nil_stops _ x (Below w2.heap.size) w2 HX.out) (fun _ => rfl) ?done
  case done =>
    intro D W hD hB hK
    have HB3 := Lib.hid (HB2.out.trans (Below.mono hB HB2.out.size))
    have HC3 := Lib.hid (HC2.out.below hB HC2.out.lt)
    have HK := Lib.hid hK
    have HD := Lib.hid (show w.heap.size < D by have := HC2.out.lt; omega)
    obtain ⟨gr, gn, gc, gf⟩ := HC3.out.all
    have c0 : W.cell? ⟨w.heap.size, 0, none⟩ = some (.bool false) := (gc 0).trans rfl
    have f0 : W.frozen? ⟨w.heap.size, 0, none⟩ = false := gf 0
    have hK' := (KeepsOthers.setCell W ⟨w.heap.size, 0, none⟩ (.bool true)).same D _ hK rfl
    have hc5 := cell_kept (World.cell?_setCell_same' W ⟨w.heap.size, 0, none⟩ (.bool true) (by rw [c0]; rfl)) (grownBy_putObj' _ D (.deferred none)) (fun r e => by cases e; exact ⟨_, hK', rfl⟩)
    have HC5 := Lib.hid hc5
    have HK5 := Lib.hid hK'
    clear hK' hc5 hK hB hD gr gn gc gf
    go_wp2_with fail
    refine (root_nil 0 0 true W).mono ?_
    rintro r w' ⟨rfl, rfl⟩
    go_wp2_with fail
    refine (needs_nil page 0 true W).mono ?_
    rintro r w' ⟨rfl, rfl⟩
    go_wp2_with fail
    refine (leaves_nil 0 0 true W).mono ?_
    rintro r w' ⟨rfl, rfl⟩
    go_wp2
    refine ⟨by simp, .inl ⟨_, _, rfl, run_takeDeferred HK5.out, ?_⟩⟩
    have hc5 := HC5.out
    refine ⟨.bool true, ?_, rfl, (HB3.out.setCell (p := ⟨w.heap.size, 0, none⟩) (Nat.le_refl _) _).trans (belowK_b (w := w) (Nat.le_refl _) _ D _ _ (by have := HD.out; omega) HK5.out rfl rfl)⟩
    simp [results, Try.f8, go_sem, hc5]
end Go.Proofs.Ytngjpokbjnjodaa
