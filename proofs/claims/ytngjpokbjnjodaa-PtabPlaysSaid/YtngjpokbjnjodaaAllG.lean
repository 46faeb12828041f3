import Derived.Test.YtngjpokbjnjodaaApart
import Derived.Deep.LoopGhost
import Derived.RangeFuncNested
import Derived.RangeFuncBound
import Derived.RangeFuncCalls
import Derived.RangeFuncLeaves
import Derived.RangeFuncFrom
import Derived.OwnWalkIn
import Derived.TacticsInMore
import Derived.Shelf.Abstract
import Derived.Shelf.RegionOpen
import Derived.LoopIn
import Derived.LoopTactic
/- All of a table, gone over by any body. -/
namespace Go.Proofs.Ytngjpokbjnjodaa
open Go.RowKit Go.BigFrame
set_option linter.unusedVariables false
set_option linter.unusedSimpArgs false
attribute [local go_sem] szIs_lit row_at row_past row_alloc nf_alloc row_set nf_set row_cell nf_cell row_drew nf_drew row_drewN nf_drewN cell_setRow frozen_setRow nlt1 nlt2 nlt3 nlt4 nne1 nne2 nne3 nen1 nen2 nen3
attribute [local go_sem] by_get by_set
attribute [local go_sem] Oper.semAt_some
open Go.Shelf
/-- The pages below j that have entries. -/
def ents (E : Nat → Int) (j : Nat) : List (Int × Int) := (List.range j).filterMap fun p => if E p = 0 then none else some ((p : Int), E p)
theorem ents_zero {E : Nat → Int} {j : Nat} (h : E j = 0) : ents E (j + 1) = ents E j := by
  unfold ents; rw [List.range_succ, List.filterMap_append]; simp [h]
theorem ents_some {E : Nat → Int} {j : Nat} (h : E j ≠ 0) : ents E (j + 1) = ents E j ++ [((j : Int), E j)] := by
  unfold ents; rw [List.range_succ, List.filterMap_append]; simp [h]
theorem ents_len (E : Nat → Int) (j : Nat) : (ents E j).length ≤ j := Nat.le_trans (List.length_filterMap_le _ _) (by simp)
section
variable {g b F t root : Nat} {L : Nat → Option Nat} {E : Nat → Int}
set_option maxHeartbeats 2000000 in
set_option maxRecDepth 20000 in
theorem all_stops (n x : Nat) (w0 : World) (hT : TS w0 g b F t root L E) (hx : Blk w0 x #[.pointer (some ⟨t, 0, none⟩)]) :
    SeqStopsK Fence.wide n Try.prog 48 #[.pointer (some ⟨x, 0, none⟩)] ecs (Below w0.heap.size) (fun xs => xs = ents E 256) (fun pre => ∃ j, j < 256 ∧ E j ≠ 0 ∧ pre = ents E (j + 1)) 256 w0 := fun l J Jx W hW hJ hJx hY h0 => by
  have hX := hx.below hW hx.lt
  have hc : W.cell? ⟨x, 0, none⟩ = some (.pointer (some ⟨t, 0, none⟩)) := (hX.all.2.2.1 0).trans rfl
  have HT := Lib.hid hT
  have HX := Lib.hid hx
  have HM := Lib.hid (made_ok (hT.below hW).ht)
  have HJ := Lib.hid (show ∀ pre W1 W', J pre W1 → Below W1.heap.size W1 W' → J pre W' from fun pre W1 W' h hb => hJ pre W1 W' none h (grown_none hb) (fun r e => by cases e))
  have HY := Lib.hid hY
  have HW := Lib.hid hW
  have H0 := Lib.hid h0
  clear hY h0 hJ hJx hW hx hX hT
  refine callsIn_of_wp Try.func48 rfl trivial ?_ rfl
  simp only [Try.ntmps48, List.size_toArray, List.length_cons, List.length_nil, Nat.reduceAdd, Nat.reduceSub, Array.replicate_succ, Array.replicate_zero, List.push_toArray, List.append_toArray, List.nil_append, List.cons_append]
  gi_wp2_with fail
  refine ⟨trivial, (fun h => absurd h (by decide)), (callsIn_wide.2 HM.out).mono ?_⟩
  rintro r w' ⟨rfl, rfl⟩
  gi_wp2_with fail
  gi_loopw [8] (fun i_ wr => ∃ (j : Nat), i_ = .int .i64 (j : Int) ∧ j ≤ 256 ∧ Below w0.heap.size w0 wr ∧ J (ents E j) wr) (fun i_ _ => 256 - (intOf i_).toNat)
  case atStart => exact ⟨0, rfl, by omega, HW.out, H0.out⟩
  case round =>
    obtain ⟨j, rfl, hj, hb, hjj⟩ := hrel
    have HB := Lib.hid hb
    have HJJ := Lib.hid hjj
    clear hb hc hjj
    by_cases hlt : j < 256
    · obtain ⟨TT, hTT⟩ : ∃ TT : World → Prop, TT = fun u => Below w0.heap.size w0 u ∧ J (ents E j) u := ⟨_, rfl⟩
      have HTT := Lib.hid (show ∀ u, TT u → TS u g b F t root L E ∧ Blk u x #[.pointer (some ⟨t, 0, none⟩)] ∧ Below w0.heap.size w0 u ∧ J (ents E j) u from fun u h => by rw [hTT] at h; exact ⟨HT.out.below h.1, HX.out.below h.1 HX.out.lt, h.1, h.2⟩)
      have HTB := Lib.hid (show ∀ u, Below w0.heap.size w0 u → J (ents E j) u → TT u from fun u h1 h2 => by rw [hTT]; exact ⟨h1, h2⟩)
      have k0 : TT wr.drew := HTB.out _ (HB.out.trans (Below.mono (Below.refl _ _).drew HB.out.size)) (HJ.out _ _ _ HJJ.out (Below.refl _ _).drew)
      clear hTT
      generalize he : E j = ej at *
      have HE := Lib.hid he
      clear he
      gi_wp2_with fail
      refine wpIn_wide.2 ?_
      refine wp_theta [9] [9] (fun i v => i = 9 → v = .int .u32 ej) (fun ρ D u => TT u) (TT) ?_ ?_ ?_ ?_ ?_ ?_ ?_ ?_ ?_ ?_
      · kernel_rfl
      · kernel_rfl
      · kernel_rfl
      · kernel_rfl
      · kernel_rfl
      · kernel_rfl
      · exact fun i hi => ⟨_, fun _ => rfl⟩
      · exact k0
      · exact fun ρ D u h => h
      · intro θ hθ
        simp only [SegsT, List.take_succ_cons, List.take_zero, List.drop_succ_cons, List.drop_zero, Nat.sub_zero, Nat.reduceSub, Nat.reduceAdd, List.drop_nil, List.take_nil]
        haveI i1 : Nonempty (Wd TT) := ⟨⟨_, k0⟩⟩
        have l2 : ∀ s : Wd TT, s.val.cell? ⟨x, 0, none⟩ = some (.pointer (some ⟨t, 0, none⟩)) := fun s => ((HTT.out _ s.prop).2.1.all.2.2.1 0).trans rfl
        have l0 : ∀ s : Wd TT, s.val.cell? ⟨t, 0, none⟩ = some (.pointer (some ⟨g, 0, none⟩)) := fun s => ((HTT.out _ s.prop).1.ht.all.2.2.1 0).trans rfl
        have l1 : ∀ s : Wd TT, s.val.cell? ⟨t, 1, none⟩ = some (.int .i64 (root : Int)) := fun s => ((HTT.out _ s.prop).1.ht.all.2.2.1 1).trans rfl
        clear k0
        have t9 := hθ 9 (by decide) rfl
        repeat (go_big_quiet_step (fail))
        refine wpQuiet_nil ?_
        rw [if_pos (by decide)]
        refine ⟨thOK_call [] [] 20 _ _ (by kernel_rfl) rfl (by kernel_rfl) #[.pointer (some ⟨g, 0, none⟩), .int .i64 (root : Int), .int .i64 (j : Int)] (by kernel_rfl) (by kernel_rfl) (fun ρ D u hq hK => ?_), ?_⟩
        · obtain ⟨g1, g2, g3, g4⟩ := HTT.out u hK
          have hwk := g1.walk j hlt
          rw [HE.out] at hwk
          refine hwk.mono ?_
          rintro r u' ⟨rfl, hb⟩
          exact ⟨_, rfl, fun _ => rfl, HTB.out _ (g3.trans (Below.mono hb g3.size)) (HJ.out _ _ _ g4 hb)⟩
        rw [t9]
        try go_frame
        repeat (go_big_quiet_step (fail))
        refine wpQuiet_nil ?_
        intro u hK
        have HBU := Lib.hid (HTT.out u hK).2.2.1
        have HJU := Lib.hid (HTT.out u hK).2.2.2
        clear hK t9 l0 l1 l2 i1 hθ HTT HTB
        by_cases hz : ej = 0
        · have k2 : (ej != 0) = false := by simp [hz]
          have HEN := Lib.hid (ents_zero (E := E) (j := j) (HE.out.trans hz))
          clear hz
          gi_wp2_with fail
          refine ⟨fun _ h => (by cases h), ?_⟩
          gi_wp2_with fail
          go_roundw
          case rel => exact ⟨j + 1, by go_num, by omega, HBU.out, by rw [HEN.out]; exact HJU.out⟩
          case measure => simp [intOf]; omega
        · have k2 : (ej != 0) = true := by simp [hz]
          have HEN := Lib.hid (ents_some (E := E) (j := j) (by rw [HE.out]; exact hz))
          have HNZ := Lib.hid (show E j ≠ 0 by rw [HE.out]; exact hz)
          clear hz
          obtain ⟨fn, tmps, assign, body, hy, hR⟩ := HY.out (ents E j) ((j : Int), ej) u HJU.out (by have := ents_len E j; omega)
          simp only [ecs] at hy
          gi_wp2_with fail
          refine ⟨(fun h => absurd h (by decide)), hR.mono ?_⟩
          rintro e W' (⟨rfl, hJ', hk'⟩ | ⟨rfl, hJx'⟩)
          · have HJ2 := Lib.hid hJ'
            have HK2 := Lib.hid (HBU.out.trans hk')
            clear hJ' hk' hR hy
            gi_wp2_with fail
            go_roundw
            case rel => exact ⟨j + 1, by go_num, by omega, HK2.out, by rw [HEN.out, HE.out]; exact HJ2.out⟩
            case measure => simp [intOf]; omega
          · have HJ2 := Lib.hid hJx'
            clear hJx' hR hy
            gi_wp2_with fail
            refine bodyPost_ret (results_none rfl _ _ _) rfl ?_
            exact ⟨⟨_, rfl⟩, .inr ⟨_, ⟨j, hlt, HNZ.out, by rw [HEN.out, HE.out]⟩, HJ2.out⟩⟩
    · obtain rfl : j = 256 := by omega
      gi_wp2
      go_end0
      exact ⟨⟨_, rfl⟩, .inl ⟨_, rfl, HJJ.out⟩⟩
end
end Go.Proofs.Ytngjpokbjnjodaa
