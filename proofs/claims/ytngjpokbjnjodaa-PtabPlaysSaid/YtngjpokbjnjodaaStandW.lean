import Derived.Test.YtngjpokbjnjodaaStandP
import Derived.Deep.QuietTactic
import Derived.BigQuiet
import Derived.Deep.LoopGhost
import Derived.Maps.RangeWalk
import Derived.LoopN
import Derived.LoopIn
import Derived.LoopTactic
import Derived.RangeFuncNested
import Derived.RangeFuncBound
import Derived.RangeFuncCalls
import Derived.RangeFuncLeaves
import Derived.RangeFuncFrom
import Derived.OwnWalkIn
import Derived.TacticsInMore
import Derived.Shelf.Abstract
import Derived.Shelf.RegionOpen
/- What stands: the walk. -/
namespace Go.Proofs.Ytngjpokbjnjodaa
open Go.RowKit Go.BigFrame
set_option linter.unusedVariables false
set_option linter.unusedSimpArgs false
attribute [local go_sem] szIs_lit row_at row_past row_alloc nf_alloc row_set nf_set row_cell nf_cell row_drew nf_drew row_drewN nf_drewN cell_setRow frozen_setRow nlt1 nlt2 nlt3 nlt4 nne1 nne2 nne3 nen1 nen2 nen3
attribute [local go_sem] by_get by_set
open Go.Shelf
attribute [local go_sem] Oper.semAt_some
section
variable {w : World} {B bb g b t x F root : Nat} {L : Nat → Option Nat} {E : Nat → Int}
set_option maxHeartbeats 8000000 in
set_option maxRecDepth 100000 in
theorem stands_ok (h : J2 w B bb g b t x F root L E) (stop : Int) : Calls Try.prog 30 #[.pointer (some ⟨bb, 0, none⟩), .int .i64 stop] w fun r w' => r = .returned (.bool true) ∧ Below w.heap.size w w' := by
  refine (callsIn_wide (n := 8)).1 ?_
  refine callsIn_of_wp_marks Try.func30 rfl trivial ?_
  simp only [Try.ntmps30, List.size_toArray, List.length_cons, List.length_nil, Nat.reduceAdd, Nat.reduceSub, Array.replicate_succ, Array.replicate_zero, List.push_toArray, List.append_toArray, List.nil_append, List.cons_append]
  refine wpIn_wide.2 ?_
  obtain ⟨w0, hw0⟩ : ∃ w0, ((w.alloc (.cells #[.pointer (some ⟨bb, 0, none⟩)] 60)).alloc (.cells #[.int .i64 stop] 3)).alloc (.cells #[.bool false] 4) = w0 := ⟨_, rfl⟩
  have hB0 : Below w.heap.size w w0 := by rw [← hw0]; exact (((Below.refl _ _).alloc (Nat.le_refl _) _).alloc (by simp) _).alloc (by simp <;> omega) _
  have hA : SA w w0 B bb g b t x F root w.heap.size (w.heap.size + 1) (w.heap.size + 2) L E stop := by
    refine ⟨h.below hB0, ?_, ?_, ?_, hB0, by omega⟩
    · rw [← hw0]
      exact ((Blk.of_heap (heap_at rfl) : Blk (w.alloc (.cells #[.pointer (some ⟨bb, 0, none⟩)] 60)) w.heap.size #[.pointer (some ⟨bb, 0, none⟩)]).below ((Below.refl _ _).alloc (Nat.le_refl _) _) (by simp)).below ((Below.refl _ _).alloc (Nat.le_refl _) _) (by simp; omega)
    · rw [← hw0]
      exact (Blk.of_heap (heap_at (by simp)) : Blk ((w.alloc (.cells #[.pointer (some ⟨bb, 0, none⟩)] 60)).alloc (.cells #[.int .i64 stop] 3)) (w.heap.size + 1) #[.int .i64 stop]).below ((Below.refl _ _).alloc (Nat.le_refl _) _) (by simp)
    · rw [← hw0]
      exact Blk.of_heap (heap_at (by simp))
  have HA := Lib.hid hA
  have a0 : w0.cell? ⟨w.heap.size, 0, none⟩ = some (.pointer (some ⟨bb, 0, none⟩)) := (hA.hb.all.2.2.1 0).trans rfl
  have a1 : w0.cell? ⟨bb, 1, none⟩ = some (.pointer (some ⟨t, 0, none⟩)) := (hA.j.hb.all.2.2.1 1).trans rfl
  clear hA hB0 h
  go_wp2_with (rw [hw0])
  clear hw0
  refine (leaves_ok HA.out.j.ts).mono ?_
  rintro r w1 ⟨⟨A, c, rfl, hrw, hblk⟩, hb1⟩
  have hA1 := HA.out.below hb1
  have HA1 := Lib.hid hA1
  have HRW := Lib.hid hrw
  obtain ⟨LA, lc, r1, r2, r3⟩ := hA1.j.rt.ex
  have hlen : (frL L 4).length = (lvL L).length := by rw [frL_lvL, List.length_map]
  rw [hlen] at HRW
  rw [hlen]
  have HRX := Lib.hid r2
  have HROOT := Lib.hid (fun u (hu : J2 u B bb g b t x F root L E) => root_ok hu.ts)
  clear a0 a1 HA hrw hblk hb1 hlen
  have a0 : w1.cell? ⟨w.heap.size, 0, none⟩ = some (.pointer (some ⟨bb, 0, none⟩)) := (hA1.hb.all.2.2.1 0).trans rfl
  have a1 : w1.cell? ⟨bb, 1, none⟩ = some (.pointer (some ⟨t, 0, none⟩)) := (hA1.j.hb.all.2.2.1 1).trans rfl
  have a2 : w1.cell? ⟨bb, 2, none⟩ = some (.pointer (some ⟨x, 0, none⟩)) := (hA1.j.hb.all.2.2.1 2).trans rfl
  have a3 : w1.cell? ⟨x, 2, none⟩ = some (.slice LA (lvL L).length lc) := (r1.all.2.2.1 2).trans (by unfold rrow; rw [List.getElem?_toArray]; rfl)
  have a4 : w1.cell? ⟨x, 1, none⟩ = some (.int .i64 (root : Int)) := (r1.all.2.2.1 1).trans (by unfold rrow; rw [List.getElem?_toArray]; rfl)
  have hl4 := lvL_len L
  clear hA1 r1 r2 r3
  generalize hm : (lvL L).length = m at *
  have HM := Lib.hid hm
  clear hm
  go_wp2_with fail
  go_quiet ((go_at_call 33; refine Calls.quiet_of_same ((root_ok (HA1.out.below (below_drewN (Below.refl _ _) _)).j.ts).mono fun _ _ ⟨a, b⟩ => ⟨a, b.symm⟩)))
  go_wp2_with fail
  go_loopg [6] m (fun k i_ wr => ∃ i : Nat, i_ = .int .i64 (i : Int) ∧ k = m - i ∧ i ≤ m ∧ ∃ q, wr = w1.drewN q)
  case atStart => exact ⟨0, rfl, rfl, by omega, _, rfl⟩
  case round =>
    obtain ⟨i, rfl, hk, hi, q, rfl⟩ := hrel
    have HK := Lib.hid hk
    clear hk
    by_cases hlt : i < m
    · obtain ⟨kf, hkf⟩ : ∃ kf, (lvL L)[i]? = some kf := ⟨_, List.getElem?_eq_getElem (by rw [HM.out]; exact hlt)⟩
      obtain ⟨ab, rfl⟩ := HRW.out.some_ (by omega)
      obtain ⟨lb, rfl⟩ := HRX.out.some_ (by omega)
      have d0 : w1.cell? ⟨ab, i, none⟩ = some (.int .i64 (kf.2 : Int)) := by
        have := HRW.out.cell i (by omega)
        rw [frL_lvL] at this
        rw [this]; unfold nv; rw [List.getElem?_map, List.getElem?_map, hkf]; rfl
      have d1 : w1.cell? ⟨lb, i * 2 + 1, none⟩ = some (.int .i64 (kf.2 : Int)) := (HRX.out.cell (i * 2 + 1) (by omega)).trans (lv_get _ i kf hkf).2
      clear hkf
      generalize ((kf.2 : Nat) : Int) = y at *
      go_wp2_with fail
      go_quiet (fail)
      go_wp2_with fail
      go_roundg (m - (i + 1))
      case measure => have := HK.out; omega
      case rel => exact ⟨i + 1, by go_num, rfl, by omega, _, rfl⟩
    · obtain rfl : i = m := by omega
      have HS0 := Lib.hid (show Below w1.heap.size w1 ((w1.drewN q).alloc (.cells #[.slice none 0 0] 41)) from (below_drewN (Below.refl _ _) q).alloc (by simp) _)
      have HP0 := Lib.hid (show Blk ((w1.drewN q).alloc (.cells #[.slice none 0 0] 41)) w1.heap.size #[.slice none 0 0] from Blk.of_heap (heap_at (by simp)))
      clear a0 a1 a2 a3 a4 HRW HRX HROOT HM
      go_wp2_with fail
      go_loopg [8] 256 (fun k j_ wr => ∃ (j n pc : Nat) (PA : Option Addr), j_ = .int .i64 (j : Int) ∧ k = 256 - j ∧ j ≤ 256 ∧ n = (ents E j).length ∧ Below w1.heap.size w1 wr ∧ Blk wr w1.heap.size #[.slice PA n pc] ∧ Rw wr 3 1 PA n pc (pgv (ents E j)) ∧ ∀ k, blkOf PA = some k → w1.heap.size < k)
      case atStart => exact ⟨0, 0, 0, none, rfl, rfl, by omega, rfl, HS0.out, HP0.out, Rw.nil _ _ _, by simp [blkOf]⟩
      case round =>
        obtain ⟨j, n, pc, PA, rfl, hk, hj, hn, hb, hp, hq, hz⟩ := hrel
        have HK := Lib.hid hk
        have HN := Lib.hid hn
        have HB := Lib.hid hb
        have HP := Lib.hid hp
        have HQ := Lib.hid hq
        have HZ := Lib.hid hz
        have HA2 := Lib.hid (HA1.out.below hb)
        have hpl := hp.lt
        clear hk hn hb hp hq hz HS0 HP0
        by_cases hlt : j < 256
        · have hnl : n ≤ 256 := by rw [HN.out]; exact Nat.le_trans (ents_len E j) hj
          obtain ⟨LA2, lc2, r1, -, -⟩ := HA2.out.j.rt.ex
          have b0 : wr.cell? ⟨w.heap.size, 0, none⟩ = some (.pointer (some ⟨bb, 0, none⟩)) := (HA2.out.hb.all.2.2.1 0).trans rfl
          have b1 : wr.cell? ⟨bb, 2, none⟩ = some (.pointer (some ⟨x, 0, none⟩)) := (HA2.out.j.hb.all.2.2.1 2).trans rfl
          have b2 : wr.cell? ⟨x, 3 + j, none⟩ = some (.int .u32 (E j)) := (r1.all.2.2.1 (3 + j)).trans (rrow_get _ _ _ _ j hlt)
          clear r1
          generalize he : E j = ej at *
          have HE := Lib.hid he
          clear he
          by_cases hz : ej = 0
          · have k2 : (ej == 0) = true := by simpa using hz
            have hen := ents_zero (E := E) (j := j) (HE.out.trans hz)
            have HN2 := Lib.hid (show n = (ents E (j + 1)).length by rw [hen]; exact HN.out)
            have HQ2 := Lib.hid (show Rw wr 3 1 PA n pc (pgv (ents E (j + 1))) by rw [hen]; exact HQ.out)
            clear hz hen HN HQ
            have HN := HN2
            have HQ := HQ2
            have HZ2 := HZ
            clear HN2 HQ2
            go_wp2_with fail
            generalize wr = V at *
            obtain ⟨TT, hTT⟩ : ∃ TT : World → Prop, TT = fun u => Below V.heap.size V u := ⟨_, rfl⟩
            have HTT := Lib.hid (show ∀ u, TT u → SA w u B bb g b t x F root w.heap.size (w.heap.size + 1) (w.heap.size + 2) L E stop ∧ Below V.heap.size V u from fun u h => by rw [hTT] at h; exact ⟨HA2.out.below h, h⟩)
            have HTB := Lib.hid (show ∀ u, Below V.heap.size V u → TT u from fun u h => by rw [hTT]; exact h)
            have k0 : TT V.drew := HTB.out _ (Below.refl _ _).drew
            clear hTT
            refine wp_theta [12] [12] (fun i v => i = 12 → v = .int .u32 ej) (fun ρ D u => TT u) (TT) ?_ ?_ ?_ ?_ ?_ ?_ ?_ ?_ ?_ ?_
            · kernel_rfl
            · kernel_rfl
            · kernel_rfl
            · kernel_rfl
            · kernel_rfl
            · kernel_rfl
            · exact fun i hi => ⟨_, fun _ => rfl⟩
            · exact k0
            · exact fun ρ D u h => h
            · intro θ hθ
              simp only [SegsT, List.take_succ_cons, List.take_zero, List.drop_succ_cons, List.drop_zero, Nat.sub_zero, Nat.reduceSub, Nat.reduceAdd, List.drop_nil, List.take_nil]
              haveI i1 : Nonempty (Wd TT) := ⟨⟨_, k0⟩⟩
              have l0 : ∀ s : Wd TT, s.val.cell? ⟨w.heap.size, 0, none⟩ = some (.pointer (some ⟨bb, 0, none⟩)) := fun s => ((HTT.out _ s.prop).1.hb.all.2.2.1 0).trans rfl
              have l1 : ∀ s : Wd TT, s.val.cell? ⟨bb, 0, none⟩ = some (.pointer (some ⟨g, 0, none⟩)) := fun s => ((HTT.out _ s.prop).1.j.hb.all.2.2.1 0).trans rfl
              have l2 : ∀ s : Wd TT, s.val.cell? ⟨bb, 2, none⟩ = some (.pointer (some ⟨x, 0, none⟩)) := fun s => ((HTT.out _ s.prop).1.j.hb.all.2.2.1 2).trans rfl
              have l3 : ∀ s : Wd TT, s.val.cell? ⟨x, 1, none⟩ = some (.int .i64 (root : Int)) := fun s => by
                obtain ⟨LA3, lc3, r1, -, -⟩ := (HTT.out _ s.prop).1.j.rt.ex
                exact (r1.all.2.2.1 1).trans (by unfold rrow; rw [List.getElem?_toArray]; rfl)
              have l4 : ∀ s : Wd TT, s.val.cell? ⟨x, 3 + j, none⟩ = some (.int .u32 ej) := fun s => by
                obtain ⟨LA3, lc3, r1, -, -⟩ := (HTT.out _ s.prop).1.j.rt.ex
                exact (r1.all.2.2.1 (3 + j)).trans ((rrow_get _ _ _ _ j hlt).trans (by rw [HE.out]))
              have t12 := hθ 12 (by decide) rfl
              clear k0
              repeat (go_big_quiet_step (fail))
              refine wpQuiet_nil ?_
              rw [if_pos (by decide)]
              refine ⟨thOK_call [] [] 20 _ _ (by kernel_rfl) rfl (by kernel_rfl) #[.pointer (some ⟨g, 0, none⟩), .int .i64 (root : Int), .int .i64 (j : Int)] (by kernel_rfl) (by kernel_rfl) (fun ρ D u hq hK => ?_), ?_⟩
              · obtain ⟨g1, g2⟩ := HTT.out u hK
                have hwk := g1.j.ts.walk j hlt
                rw [HE.out] at hwk
                refine hwk.mono ?_
                rintro r u' ⟨rfl, hb⟩
                exact ⟨_, rfl, fun _ => rfl, HTB.out _ (g2.trans (Below.mono hb g2.size))⟩
              rw [t12]
              try go_frame
              repeat (go_big_quiet_step (fail))
              refine wpQuiet_nil ?_
              intro u hK
              have HBU := Lib.hid (HTT.out u hK).2
              clear hK t12 l0 l1 l2 l3 l4 i1 hθ HTT HTB
              go_wp2_with fail
              go_roundg (256 - (j + 1))
              case measure => have := HK.out; omega
              case rel => exact ⟨j + 1, n, pc, PA, by go_num, rfl, by omega, HN.out, HB.out.trans (Below.mono HBU.out HB.out.size), HP.out.below HBU.out HP.out.lt, HQ.out.below HBU.out, HZ2.out⟩
          · have k2 : (ej == 0) = false := by simpa using hz
            have hen := ents_some (E := E) (j := j) (by rw [HE.out]; exact hz)
            rw [HE.out] at hen
            have HEN := Lib.hid hen
            clear hz hen
            have hB2 : Below wr.heap.size wr (wr.alloc (.cells #[.int .i64 (j : Int)] 3)) := (Below.refl _ _).alloc (Nat.le_refl _) _
            obtain ⟨A2, c2, w2, e1, e2, e3, e4⟩ := rw_append (P := Try.prog) intT 41 (HQ.out.below hB2) (some ⟨wr.heap.size, 0, none⟩) 1 1 [.int .i64 (j : Int)] rfl (Rd.of_cells (fun j u hu => by
              cases j with
              | zero => simp at hu; subst hu; simp [go_sem]
              | succ j => simp at hu) (by simp [Value.oneCell'])) (by intro e; cases e) (by unfold maxLen; omega) (by omega)
            have hbs := bs41 (j : Int)
            have HE1 := Lib.hid e1
            -- the world behind the store
            have hpB : Blk w2 w1.heap.size #[.slice PA n pc] := by
              have h9 := HP.out.below hB2 hpl
              have hx := e3.block w1.heap.size h9.lt (fun e9 => by have := HZ.out _ e9; omega)
              exact ⟨(row_heap hx).trans h9.1, (nf_heap hx).trans h9.2⟩
            have hpc : w2.cell? ⟨w1.heap.size, 0, none⟩ = some (.slice PA n pc) := (hpB.all.2.2.1 0).trans rfl
            have hpf : w2.frozen? ⟨w1.heap.size, 0, none⟩ = false := hpB.all.2.2.2 0
            have b3 : wr.cell? ⟨w1.heap.size, 0, none⟩ = some (.slice PA n pc) := (HP.out.all.2.2.1 0).trans rfl
            have HV1 := Lib.hid (show Below w1.heap.size w1 (w2.setCell ⟨w1.heap.size, 0, none⟩ (.slice A2 (n + 1) c2)) from by
              refine Below.setCell (p := ⟨w1.heap.size, 0, none⟩) ?_ (Nat.le_refl _) _
              refine (HB.out.trans (Below.mono hB2 HB.out.size)).trans (e3.below (fun k hk q => ?_) (by simp; have := HB.out.size; omega))
              have := HZ.out k q; omega)
            have HV2 := Lib.hid (show Blk (w2.setCell ⟨w1.heap.size, 0, none⟩ (.slice A2 (n + 1) c2)) w1.heap.size #[.slice A2 (n + 1) c2] from hpB.put 0 _)
            have hne : ∀ k, blkOf A2 = some k → w1.heap.size < k := fun k q => by
              rcases e4 with e | e
              · exact HZ.out k (e ▸ q)
              · rw [e] at q; injection q with q; simp at q; omega
            have HV3 := Lib.hid (show Rw (w2.setCell ⟨w1.heap.size, 0, none⟩ (.slice A2 (n + 1) c2)) 3 1 A2 (n + 1) c2 (pgv (ents E (j + 1))) from by
              rw [HEN.out]
              have : pgv (ents E j ++ [((j : Int), ej)]) = pgv (ents E j) ++ [.int .i64 (j : Int)] := by simp [pgv]
              rw [this]
              exact e2.heap fun k hk => heap_setCell_other _ ⟨w1.heap.size, 0, none⟩ k _ (fun e9 => by have := hne k hk; simp at e9; omega))
            have HN2 := Lib.hid (show n + 1 = (ents E (j + 1)).length by rw [HEN.out, List.length_append, HN.out]; rfl)
            have HZ2 := Lib.hid hne
            have hsz2 : w1.heap.size < w2.heap.size := hpB.lt
            clear e1 e2 e3 e4 hpB hne hB2 HZ
            go_wp2_with (at_builtin; (refine wpList_run rfl (s := Builtin.append_ #[41, 41] 41 #[.slice PA n pc, .slice (some ⟨wr.heap.size, 0, none⟩) 1 1]) (by kernel_rfl) HE1.out ?_))
            clear HB HP HQ HN HA2 b0 b1 b2 b3 hpc hpf HE1 hbs hpl hnl
            have HB := HV1
            have HP := HV2
            have HQ := HV3
            have HN := HN2
            have HA2 := Lib.hid (HA1.out.below HV1.out)
            clear HV1 HV2 HV3 HN2
            generalize w2.setCell ⟨w1.heap.size, 0, none⟩ (.slice A2 (n + 1) c2) = V at *
            obtain ⟨TT, hTT⟩ : ∃ TT : World → Prop, TT = fun u => Below V.heap.size V u := ⟨_, rfl⟩
            have HTT := Lib.hid (show ∀ u, TT u → SA w u B bb g b t x F root w.heap.size (w.heap.size + 1) (w.heap.size + 2) L E stop ∧ Below V.heap.size V u from fun u h => by rw [hTT] at h; exact ⟨HA2.out.below h, h⟩)
            have HTB := Lib.hid (show ∀ u, Below V.heap.size V u → TT u from fun u h => by rw [hTT]; exact h)
            have k0 : TT V.drew := HTB.out _ (Below.refl _ _).drew
            clear hTT
            refine wp_theta [12] [12] (fun i v => i = 12 → v = .int .u32 ej) (fun ρ D u => TT u) (TT) ?_ ?_ ?_ ?_ ?_ ?_ ?_ ?_ ?_ ?_
            · kernel_rfl
            · kernel_rfl
            · kernel_rfl
            · kernel_rfl
            · kernel_rfl
            · kernel_rfl
            · exact fun i hi => ⟨_, fun _ => rfl⟩
            · exact k0
            · exact fun ρ D u h => h
            · intro θ hθ
              simp only [SegsT, List.take_succ_cons, List.take_zero, List.drop_succ_cons, List.drop_zero, Nat.sub_zero, Nat.reduceSub, Nat.reduceAdd, List.drop_nil, List.take_nil]
              haveI i1 : Nonempty (Wd TT) := ⟨⟨_, k0⟩⟩
              have l0 : ∀ s : Wd TT, s.val.cell? ⟨w.heap.size, 0, none⟩ = some (.pointer (some ⟨bb, 0, none⟩)) := fun s => ((HTT.out _ s.prop).1.hb.all.2.2.1 0).trans rfl
              have l1 : ∀ s : Wd TT, s.val.cell? ⟨bb, 0, none⟩ = some (.pointer (some ⟨g, 0, none⟩)) := fun s => ((HTT.out _ s.prop).1.j.hb.all.2.2.1 0).trans rfl
              have l2 : ∀ s : Wd TT, s.val.cell? ⟨bb, 2, none⟩ = some (.pointer (some ⟨x, 0, none⟩)) := fun s => ((HTT.out _ s.prop).1.j.hb.all.2.2.1 2).trans rfl
              have l3 : ∀ s : Wd TT, s.val.cell? ⟨x, 1, none⟩ = some (.int .i64 (root : Int)) := fun s => by
                obtain ⟨LA3, lc3, r1, -, -⟩ := (HTT.out _ s.prop).1.j.rt.ex
                exact (r1.all.2.2.1 1).trans (by unfold rrow; rw [List.getElem?_toArray]; rfl)
              have l4 : ∀ s : Wd TT, s.val.cell? ⟨x, 3 + j, none⟩ = some (.int .u32 ej) := fun s => by
                obtain ⟨LA3, lc3, r1, -, -⟩ := (HTT.out _ s.prop).1.j.rt.ex
                exact (r1.all.2.2.1 (3 + j)).trans ((rrow_get _ _ _ _ j hlt).trans (by rw [HE.out]))
              have t12 := hθ 12 (by decide) rfl
              clear k0
              repeat (go_big_quiet_step (fail))
              refine wpQuiet_nil ?_
              rw [if_pos (by decide)]
              refine ⟨thOK_call [] [] 20 _ _ (by kernel_rfl) rfl (by kernel_rfl) #[.pointer (some ⟨g, 0, none⟩), .int .i64 (root : Int), .int .i64 (j : Int)] (by kernel_rfl) (by kernel_rfl) (fun ρ D u hq hK => ?_), ?_⟩
              · obtain ⟨g1, g2⟩ := HTT.out u hK
                have hwk := g1.j.ts.walk j hlt
                rw [HE.out] at hwk
                refine hwk.mono ?_
                rintro r u' ⟨rfl, hb⟩
                exact ⟨_, rfl, fun _ => rfl, HTB.out _ (g2.trans (Below.mono hb g2.size))⟩
              rw [t12]
              try go_frame
              repeat (go_big_quiet_step (fail))
              refine wpQuiet_nil ?_
              intro u hK
              have HBU := Lib.hid (HTT.out u hK).2
              clear hK t12 l0 l1 l2 l3 l4 i1 hθ HTT HTB
              go_wp2_with fail
              go_roundg (256 - (j + 1))
              case measure => have := HK.out; omega
              case rel => exact ⟨j + 1, (n + 1), c2, A2, by go_num, rfl, by omega, HN.out, HB.out.trans (Below.mono HBU.out HB.out.size), HP.out.below HBU.out HP.out.lt, HQ.out.below HBU.out, HZ2.out⟩
        · obtain rfl : j = 256 := by omega
          have b0 : wr.cell? ⟨w.heap.size, 0, none⟩ = some (.pointer (some ⟨bb, 0, none⟩)) := (HA2.out.hb.all.2.2.1 0).trans rfl
          have b1 : wr.cell? ⟨bb, 1, none⟩ = some (.pointer (some ⟨t, 0, none⟩)) := (HA2.out.j.hb.all.2.2.1 1).trans rfl
          go_wp2_with fail
          refine (all_ok t wr).mono ?_
          rintro r w3 ⟨⟨xa, rfl, hx, hx2⟩, hb3⟩
          have HSV := Lib.hid (show SV w w3 B bb g b t x F root w.heap.size (w.heap.size + 1) (w.heap.size + 2) w1.heap.size xa n PA pc L E stop from ⟨HA2.out.below hb3, HP.out.below hb3 HP.out.lt, HQ.out.below hb3, HN.out, hx⟩)
          have hkr : w1.heap.size < w3.heap.size := (HSV.out).hp.lt
          clear HA2 HP HQ HN HB HZ HK b0 b1 hx hx2 hb3 hpl
          go_wp2_with fail
          have HSV0 := Lib.hid (HSV.out.below ((Below.refl w3.heap.size w3).alloc (Nat.le_refl _) (.cells #[.int .i64 0] 3)))
          have HKR := Lib.hid (show Blk (w3.alloc (.cells #[.int .i64 0] 3)) w3.heap.size #[.int .i64 0] from Blk.of_heap (heap_at rfl))
          clear HSV
          generalize w3.alloc (.cells #[.int .i64 0] 3) = V0 at *
          generalize w3.heap.size = kr at *
          generalize w1.heap.size = pB at *
          have c0 : V0.cell? ⟨kr, 0, none⟩ = some (.int .i64 0) := (HKR.out.all.2.2.1 0).trans rfl
          generalize hes : ents E 256 = es at *
          have HES := Lib.hid hes
          clear hes
          refine wp_loop_rounds 3 ?_
          have HSV0 := HSV0
          have c00 := c0
          clear c0
          refine rounds_two (fun a' W' => ∃ (v0 v1 v5 v6 v8 v11 v12 v13 v14 v15 v16 v17 v18 v19 v20 v21 v22 v23 v24 v25 v26 v27 v28 v29 v30 v31 v32 v33 v34 v35 v36 v37 v38 v39 v40 v41 v42 v43 v44 v45 v46 v47 v48 v49 v50 v51 v52 v53 v54 v55 v56 v57 v58 v59 v60 v61 v62 v63 v64 v65 v66 v67 v68 v69 v70 v71 v72 v73 v74 v75 v76 v77 v78 v79 v80 v81 v82 v83 v84 v85 v86 v87 v88 v89 v90 v91 v92 v93 v94 v95 v96 v97 v98 v99 v100 v101 v102 v103 v104 v105 v106 v107 v108 v109 v110 v111 v112 v113 v114 v115 v116 v117 v118 v119 v120 v121 v122 v123 v124 v125 v126 v127 v128 v129 v130 v131 v132 v133 v134 v135 v136 v137 v138 v139 v140 v141 v142 v143 v144 v145 v146 v147 v148 v149 v150 v151 v152 v153 v154 v155 v156 v157 v158 v159 v160 v161 v162 v163 v164 v165 v166 v167 : Value) (kr9 D9 : Nat), a' = { tmps := #[v0, v1, .pointer (some ⟨w.heap.size, 0, none⟩), .pointer (some ⟨w.heap.size + 1, 0, none⟩), .pointer (some ⟨w.heap.size + 1 + 1, 0, none⟩), v5, v6, .pointer (some ⟨pB, 0, none⟩), v8, .func (.func 48) #[] #[.pointer (some ⟨xa, 0, none⟩)], .pointer (some ⟨kr9, 0, none⟩), v11, v12, v13, v14, v15, v16, v17, v18, v19, v20, v21, v22, v23, v24, v25, v26, v27, v28, v29, v30, v31, v32, v33, v34, v35, v36, v37, v38, v39, v40, v41, v42, v43, v44, v45, v46, v47, v48, v49, v50, v51, v52, v53, v54, v55, v56, v57, v58, v59, v60, v61, v62, v63, v64, v65, v66, v67, v68, v69, v70, v71, v72, v73, v74, v75, v76, v77, v78, v79, v80, v81, v82, v83, v84, v85, v86, v87, v88, v89, v90, v91, v92, v93, v94, v95, v96, v97, v98, v99, v100, v101, v102, v103, v104, v105, v106, v107, v108, v109, v110, v111, v112, v113, v114, v115, v116, v117, v118, v119, v120, v121, v122, v123, v124, v125, v126, v127, v128, v129, v130, v131, v132, v133, v134, v135, v136, v137, v138, v139, v140, v141, v142, v143, v144, v145, v146, v147, v148, v149, v150, v151, v152, v153, v154, v155, v156, v157, v158, v159, v160, v161, v162, v163, v164, v165, v166, v167], defers := [{ target := .collected D9, args := #[] }] } ∧ SV w W' B bb g b t x F root w.heap.size (w.heap.size + 1) (w.heap.size + 2) pB xa n PA pc L E stop ∧ W'.cell? ⟨kr9, 0, none⟩ = some (.int .i64 1) ∧ w.heap.size + 3 ≤ D9 ∧ W'.heap[D9]? = some (.deferred (some []))) ?two ?three
          case two =>
            intro a9 VR hti
            iterate 162 (refine Exists.elim hti ?_; clear hti; intro _ hti)
            obtain ⟨kr9, D9, rfl, hs9, c01, hd1, hd2⟩ := hti
            have HSV1 := Lib.hid hs9
            have HD9 := Lib.hid (And.intro hd1 hd2)
            clear hs9 hd1 hd2 c00 HKR
            rw [rounds_succ]
            go_wp2_with fail
            have hiv : Blk ((VR).alloc (.cells #[.int .i64 0] 3)) (VR).heap.size #[.int .i64 0] := Blk.of_heap (heap_at rfl)
            have hbv : Below (VR).heap.size (VR) ((VR).alloc (.cells #[.int .i64 0] 3)) := (Below.refl _ _).alloc (Nat.le_refl _) _
            generalize hvv : (VR).alloc (.cells #[.int .i64 0] 3) = VV at *
            clear hvv
            have HVV := Lib.hid hbv.size
            refine (wpIn_wide (n := 8)).1 (wpIn_rangeFunc_ownF (α := Int × Int) rfl (by omega) (gf := 48) (lb := #[.pointer (some ⟨xa, 0, none⟩)]) rfl trivial (enters_of Try.func48 (by kernel_rfl) rfl) (all_stops 7 xa VR HSV1.out.a.j.ts HSV1.out.hx) belowK_t (belowK_b hbv.size) hbv (fun _ => rfl)
              (IId es VR) (IXd es VR 1 stop)
              (OwnFrom.and (Own.from (fun s A B row hs hg hr => ⟨hs.1, cell_kept hs.2.1 hg hr, (frozen_kept hs.2.1 hg hr).trans hs.2.2⟩) _) (ownFrom_below (Nat.le_refl _) hbv.size))
              (fun c s A B row hs hg hr => by
                rcases hs with h | ⟨h1, h2, h3, h4, h5, h6⟩
                · exact Or.inl h
                · exact Or.inr ⟨h1, h2, h3, h4, cell_kept h5 hg (fun r e => (hr r e).2), ownFrom_below (Nat.le_refl _) hbv.size s A B row h6 hg hr⟩)
              ⟨⟨List.nil_prefix, (hiv.all.2.2.1 0).trans rfl, hiv.all.2.2.2 0⟩, hbv⟩ ?act1 ?assign1 ?body1 ?done1 ?stop1)
            case assign1 =>
              intro l x W K hK
              gi_wp2_with fail
              exact hK
            case body1 =>
              rintro l pre x W ⟨⟨hpre, hci, hfi⟩, hB⟩ hlen'
              obtain ⟨x1, x2⟩ := x
              have hs := HSV1.out.below hB
              have q0 : W.cell? ⟨w.heap.size, 0, none⟩ = some (.pointer (some ⟨bb, 0, none⟩)) := (hs.a.hb.all.2.2.1 0).trans rfl
              have q1 : W.cell? ⟨pB, 0, none⟩ = some (.slice PA n pc) := (hs.hp.all.2.2.1 0).trans rfl
              have q2 : W.cell? ⟨bb, 2, none⟩ = some (.pointer (some ⟨x, 0, none⟩)) := (hs.a.j.hb.all.2.2.1 2).trans rfl
              have q3 : W.cell? ⟨w.heap.size + 1, 0, none⟩ = some (.int .i64 stop) := (hs.a.hs.all.2.2.1 0).trans rfl
              have q4 : W.cell? ⟨kr9, 0, none⟩ = some (.int .i64 1) := (hB.cell (p := ⟨kr9, 0, none⟩) (cell_lt c01)).trans c01
              have q5 : W.cell? ⟨w.heap.size + 2, 0, none⟩ = some (.bool false) := (hs.a.hr.all.2.2.1 0).trans rfl
              have q6 : W.frozen? ⟨w.heap.size + 2, 0, none⟩ = false := hs.a.hr.all.2.2.2 0
              have HS := Lib.hid hs
              have HPRE := Lib.hid hpre
              have HLN0 := Lib.hid (show (pre ++ [(x1, x2)]).length = pre.length + 1 by simp)
              have HBB := Lib.hid hB
              have hne1 : (VR).heap.size ≠ kr9 := fun e => by have := cell_lt c01; simp at this; omega
              have hne2 : kr9 ≠ (VR).heap.size := fun e => hne1 e.symm
              have hne3 : w.heap.size + 1 ≠ (VR).heap.size := fun e => by have := HSV1.out.a.hs.lt; omega
              have hne4 : (VR).heap.size ≠ w.heap.size + 1 := fun e => hne3 e.symm
              clear hs hpre hB hlen'
              generalize hk : pre.length = k at *
              have HKK := Lib.hid hk
              have hnl : n ≤ 256 := by rw [HSV1.out.hn]; exact ents_len E 256
              clear hk
              by_cases h1 : k < n
              · have hkb : k < 256 := by omega
                obtain ⟨ab, rfl⟩ := HS.out.hq.some_ (by omega)
                have hl : es.length = n := by rw [HSV1.out.hn, HES.out]
                obtain ⟨⟨p1, e1⟩, he1⟩ : ∃ pe, es[k]? = some pe := ⟨_, List.getElem?_eq_getElem (by omega)⟩
                obtain ⟨q, hq, hp1, he2⟩ : ∃ q : Nat, q < 256 ∧ p1 = q ∧ e1 = E q := ents_mem (by rw [HES.out]; exact List.mem_of_getElem? he1)
                subst hp1
                have q7 : W.cell? ⟨ab, k, none⟩ = some (.int .i64 (q : Int)) := by
                  rw [HS.out.hq.cell k (by omega), HES.out]
                  unfold pgv; rw [List.getElem?_map, he1]; rfl
                have HE1 := Lib.hid he1
                clear he1 hl
                by_cases h2 : x1 = (q : Int)
                · subst h2
                  obtain ⟨LA5, lc5, r5, -, -⟩ := HS.out.a.j.rt.ex
                  have q8 : W.cell? ⟨x, 3 + q, none⟩ = some (.int .u32 e1) := (r5.all.2.2.1 (3 + q)).trans ((rrow_get _ _ _ _ q hq).trans (by rw [he2]))
                  clear r5 he2
                  by_cases h3 : x2 = e1
                  · subst h3
                    have HGOOD := Lib.hid (show pre ++ [((q : Int), x2)] <+: es from pre_snoc HPRE.out (by rw [HKK.out]; exact HE1.out))
                    have HLN := Lib.hid (show (((pre ++ [((q : Int), x2)]).length : Nat) : Int) = (k : Int) + 1 by rw [HLN0.out]; push_cast; rfl)
                    have HCI := Lib.hid (World.cell?_setCell_same' W ⟨(VR).heap.size, 0, none⟩ (.int .i64 ((k : Int) + 1)) (by rw [hci]; rfl))
                    have HFI := Lib.hid (show (W.setCell ⟨(VR).heap.size, 0, none⟩ (.int .i64 ((k : Int) + 1))).frozen? ⟨(VR).heap.size, 0, none⟩ = false by rw [World.frozen?_setCell]; exact hfi)
                    have HKP := Lib.hid (show Below (VR).heap.size W (W.setCell ⟨(VR).heap.size, 0, none⟩ (.int .i64 ((k : Int) + 1))) from (Below.refl _ _).setCell (p := ⟨(VR).heap.size, 0, none⟩) (Nat.le_refl _) _)
                    have HBW := Lib.hid (HBB.out.trans HKP.out)
                    gi_wp2_with fail
                    exact ⟨KeepsOthers.setCell _ _ _, HKP.out, ⟨HGOOD.out, by rw [HLN.out]; exact HCI.out, HFI.out⟩, HBW.out⟩
                  · have k3 : (x2 != e1) = true := by simp [h3]
                    have HBAD := Lib.hid (show ¬ pre ++ [((q : Int), x2)] <+: es from fun hp => by
                      have := pre_at hp
                      rw [HKK.out, HE1.out] at this
                      injection this with this; injection this with _ this; exact h3 this.symm)
                    clear h3
                    gi_wp2_with fail
                    exact ⟨KeepsOthers.setCell _ _ _, Or.inl ⟨rfl, HBAD.out⟩⟩
                · have k2 : (x1 != (q : Int)) = true := by simp [h2]
                  have HBAD := Lib.hid (show ¬ pre ++ [(x1, x2)] <+: es from fun hp => by
                    have := pre_at hp
                    rw [HKK.out, HE1.out] at this
                    injection this with this; injection this with this _; exact h2 this.symm)
                  clear h2 he2
                  gi_wp2_with fail
                  exact ⟨KeepsOthers.setCell _ _ _, Or.inl ⟨rfl, HBAD.out⟩⟩
              · have HBAD := Lib.hid (show ¬ pre ++ [(x1, x2)] <+: es from fun hp => by
                  have := hp.length_le
                  rw [HLN0.out] at this
                  have hl : es.length = n := by rw [HSV1.out.hn, HES.out]
                  omega)
                gi_wp2_with fail
                exact ⟨KeepsOthers.setCell _ _ _, Or.inl ⟨rfl, HBAD.out⟩⟩
            case done1 =>
              rintro D1 xs W1 hD rfl' ⟨⟨hpre, hci, hfi⟩, hB⟩ hK
              have hlx : xs.length = n := by rw [rfl', HSV1.out.hn]
              have HDD1 := Lib.hid (And.intro hD hK)
              have HBR1 := Lib.hid hB
              have hs := HSV1.out.below hB
              have q1 : W1.cell? ⟨pB, 0, none⟩ = some (.slice PA n pc) := (hs.hp.all.2.2.1 0).trans rfl
              have q3 : W1.cell? ⟨w.heap.size + 1, 0, none⟩ = some (.int .i64 stop) := (hs.a.hs.all.2.2.1 0).trans rfl
              have q4 : W1.cell? ⟨kr9, 0, none⟩ = some (.int .i64 1) := (hB.cell (p := ⟨kr9, 0, none⟩) (cell_lt c01)).trans c01
              rw [hlx] at hci
              have HS := Lib.hid hs
              clear hpre hfi hB hK hlx rfl' hs hD hiv hbv
              go_wp2_with fail
              have hal : Below W1.heap.size W1 (W1.alloc (.cells #[.int .i64 2] 3)) := (Below.refl _ _).alloc (Nat.le_refl _) _
              have HSE := Lib.hid (HS.out.below hal)
              have c2 : (W1.alloc (.cells #[.int .i64 2] 3)).cell? ⟨W1.heap.size, 0, none⟩ = some (.int .i64 2) := ((Blk.of_heap (heap_at rfl) : Blk (W1.alloc (.cells #[.int .i64 2] 3)) W1.heap.size #[.int .i64 2]).all.2.2.1 0).trans rfl
              have HDA := Lib.hid (show w.heap.size + 3 ≤ D1 ∧ (W1.alloc (.cells #[.int .i64 2] 3)).heap[D1]? = some (.deferred (some [])) from ⟨by
                have := HDD1.out.1
                have := HVV.out
                have := HSV1.out.a.hr.lt
                omega, (hal.block D1 (Array.getElem?_eq_some_iff.1 HDD1.out.2).1).trans HDD1.out.2⟩)
              have HDB := Lib.hid (show w.heap.size + 3 ≤ D9 ∧ (W1.alloc (.cells #[.int .i64 2] 3)).heap[D9]? = some (.deferred (some [])) from ⟨HD9.out.1, by
                have h9 := (Array.getElem?_eq_some_iff.1 HD9.out.2).1
                have h8 := (HBR1.out.block D9 h9).trans HD9.out.2
                exact (hal.block D9 (Array.getElem?_eq_some_iff.1 h8).1).trans h8⟩)
              have HDN := Lib.hid (show D1 ≠ D9 from fun e => by
                have h9 := (Array.getElem?_eq_some_iff.1 HD9.out.2).1
                have := HDD1.out.1
                have := HVV.out
                omega)
              clear hal HS HDD1 HD9 HBR1 HVV
              generalize W1.alloc (.cells #[.int .i64 2] 3) = V9 at *
              generalize W1.heap.size = kr2 at *
              have r0 : V9.cell? ⟨w.heap.size + 2, 0, none⟩ = some (.bool false) := (HSE.out.a.hr.all.2.2.1 0).trans rfl
              have r1 : V9.frozen? ⟨w.heap.size + 2, 0, none⟩ = false := HSE.out.a.hr.all.2.2.2 0
              rw [rounds_succ]
              go_wp2_with fail
              have hset : ∀ k, k ≠ w.heap.size + 2 → (V9.setCell ⟨w.heap.size + 2, 0, none⟩ (.bool true)).heap[k]? = V9.heap[k]? := fun k hk => heap_setCell_other V9 ⟨w.heap.size + 2, 0, none⟩ k _ hk
              have hcell : (V9.setCell ⟨w.heap.size + 2, 0, none⟩ (.bool true)).cell? ⟨w.heap.size + 2, 0, none⟩ = some (.bool true) := World.cell?_setCell_same' _ _ _ (by rw [r0]; rfl)
              have hbl : Below w.heap.size w (V9.setCell ⟨w.heap.size + 2, 0, none⟩ (.bool true)) := HSE.out.a.bl.setCell (p := ⟨w.heap.size + 2, 0, none⟩) (by simp) _
              have hlt2 := HSE.out.a.hr.lt
              refine leaves_all (B := w.heap.size + 3) [D1, D9] _ (by simp [HDN.out]) (fun D hD => ?_) (by simp; omega) (fun W' hW => ?_)
              · simp at hD
                rcases hD with rfl | rfl
                · exact ⟨HDA.out.1, (hset _ (by have := HDA.out.1; omega)).trans HDA.out.2⟩
                · exact ⟨HDB.out.1, (hset _ (by have := HDB.out.1; omega)).trans HDB.out.2⟩
              · have hc9 := (hW.cell (p := ⟨w.heap.size + 2, 0, none⟩) (by simp)).trans hcell
                refine ⟨.bool true, ?_, rfl, hbl.trans (Below.mono hW (by omega))⟩
                simp [results, Try.f30, go_sem, hc9]
            case stop1 =>
              rintro D1 c pre W1 hD ⟨j, hj, hne, rfl'⟩ hix hK
              rcases hix with ⟨rfl, hnp⟩ | ⟨rfl, h10, _⟩
              · exact absurd (by rw [rfl', ← HES.out, show 256 = (j + 1) + (255 - j) by omega]; exact ents_pre E (j + 1) (255 - j)) hnp
              · exact absurd h10 (by decide)
          case three =>
            intro key
            have KEY := Lib.hid key
            clear key
            rw [rounds_succ]
            go_wp2_with fail
            have hiv : Blk ((V0).alloc (.cells #[.int .i64 0] 3)) (V0).heap.size #[.int .i64 0] := Blk.of_heap (heap_at rfl)
            have hbv : Below (V0).heap.size (V0) ((V0).alloc (.cells #[.int .i64 0] 3)) := (Below.refl _ _).alloc (Nat.le_refl _) _
            generalize hvv : (V0).alloc (.cells #[.int .i64 0] 3) = VV at *
            clear hvv
            have HVV := Lib.hid hbv.size
            refine (wpIn_wide (n := 8)).1 (wpIn_rangeFunc_ownF (α := Int × Int) rfl (by omega) (gf := 48) (lb := #[.pointer (some ⟨xa, 0, none⟩)]) rfl trivial (enters_of Try.func48 (by kernel_rfl) rfl) (all_stops 7 xa V0 HSV0.out.a.j.ts HSV0.out.hx) belowK_t (belowK_b hbv.size) hbv (fun _ => rfl)
              (IId es V0) (IXd es V0 0 stop)
              (OwnFrom.and (Own.from (fun s A B row hs hg hr => ⟨hs.1, cell_kept hs.2.1 hg hr, (frozen_kept hs.2.1 hg hr).trans hs.2.2⟩) _) (ownFrom_below (Nat.le_refl _) hbv.size))
              (fun c s A B row hs hg hr => by
                rcases hs with h | ⟨h1, h2, h3, h4, h5, h6⟩
                · exact Or.inl h
                · exact Or.inr ⟨h1, h2, h3, h4, cell_kept h5 hg (fun r e => (hr r e).2), ownFrom_below (Nat.le_refl _) hbv.size s A B row h6 hg hr⟩)
              ⟨⟨List.nil_prefix, (hiv.all.2.2.1 0).trans rfl, hiv.all.2.2.2 0⟩, hbv⟩ ?act0 ?assign0 ?body0 ?done0 ?stop0)
            case assign0 =>
              intro l x W K hK
              gi_wp2_with fail
              exact hK
            case body0 =>
              rintro l pre x W ⟨⟨hpre, hci, hfi⟩, hB⟩ hlen'
              obtain ⟨x1, x2⟩ := x
              have hs := HSV0.out.below hB
              have q0 : W.cell? ⟨w.heap.size, 0, none⟩ = some (.pointer (some ⟨bb, 0, none⟩)) := (hs.a.hb.all.2.2.1 0).trans rfl
              have q1 : W.cell? ⟨pB, 0, none⟩ = some (.slice PA n pc) := (hs.hp.all.2.2.1 0).trans rfl
              have q2 : W.cell? ⟨bb, 2, none⟩ = some (.pointer (some ⟨x, 0, none⟩)) := (hs.a.j.hb.all.2.2.1 2).trans rfl
              have q3 : W.cell? ⟨w.heap.size + 1, 0, none⟩ = some (.int .i64 stop) := (hs.a.hs.all.2.2.1 0).trans rfl
              have q4 : W.cell? ⟨kr, 0, none⟩ = some (.int .i64 0) := (hB.cell (p := ⟨kr, 0, none⟩) (cell_lt c00)).trans c00
              have q5 : W.cell? ⟨w.heap.size + 2, 0, none⟩ = some (.bool false) := (hs.a.hr.all.2.2.1 0).trans rfl
              have q6 : W.frozen? ⟨w.heap.size + 2, 0, none⟩ = false := hs.a.hr.all.2.2.2 0
              have HS := Lib.hid hs
              have HPRE := Lib.hid hpre
              have HLN0 := Lib.hid (show (pre ++ [(x1, x2)]).length = pre.length + 1 by simp)
              have HBB := Lib.hid hB
              have hne1 : (V0).heap.size ≠ kr := fun e => by have := cell_lt c00; simp at this; omega
              have hne2 : kr ≠ (V0).heap.size := fun e => hne1 e.symm
              have hne3 : w.heap.size + 1 ≠ (V0).heap.size := fun e => by have := HSV0.out.a.hs.lt; omega
              have hne4 : (V0).heap.size ≠ w.heap.size + 1 := fun e => hne3 e.symm
              clear hs hpre hB hlen'
              generalize hk : pre.length = k at *
              have HKK := Lib.hid hk
              have hnl : n ≤ 256 := by rw [HSV0.out.hn]; exact ents_len E 256
              clear hk
              by_cases h1 : k < n
              · have hkb : k < 256 := by omega
                obtain ⟨ab, rfl⟩ := HS.out.hq.some_ (by omega)
                have hl : es.length = n := by rw [HSV0.out.hn, HES.out]
                obtain ⟨⟨p1, e1⟩, he1⟩ : ∃ pe, es[k]? = some pe := ⟨_, List.getElem?_eq_getElem (by omega)⟩
                obtain ⟨q, hq, hp1, he2⟩ : ∃ q : Nat, q < 256 ∧ p1 = q ∧ e1 = E q := ents_mem (by rw [HES.out]; exact List.mem_of_getElem? he1)
                subst hp1
                have q7 : W.cell? ⟨ab, k, none⟩ = some (.int .i64 (q : Int)) := by
                  rw [HS.out.hq.cell k (by omega), HES.out]
                  unfold pgv; rw [List.getElem?_map, he1]; rfl
                have HE1 := Lib.hid he1
                clear he1 hl
                by_cases h2 : x1 = (q : Int)
                · subst h2
                  obtain ⟨LA5, lc5, r5, -, -⟩ := HS.out.a.j.rt.ex
                  have q8 : W.cell? ⟨x, 3 + q, none⟩ = some (.int .u32 e1) := (r5.all.2.2.1 (3 + q)).trans ((rrow_get _ _ _ _ q hq).trans (by rw [he2]))
                  clear r5 he2
                  by_cases h3 : x2 = e1
                  · subst h3
                    have HGOOD := Lib.hid (show pre ++ [((q : Int), x2)] <+: es from pre_snoc HPRE.out (by rw [HKK.out]; exact HE1.out))
                    have HLN := Lib.hid (show (((pre ++ [((q : Int), x2)]).length : Nat) : Int) = (k : Int) + 1 by rw [HLN0.out]; push_cast; rfl)
                    have HCI := Lib.hid (World.cell?_setCell_same' W ⟨(V0).heap.size, 0, none⟩ (.int .i64 ((k : Int) + 1)) (by rw [hci]; rfl))
                    have HFI := Lib.hid (show (W.setCell ⟨(V0).heap.size, 0, none⟩ (.int .i64 ((k : Int) + 1))).frozen? ⟨(V0).heap.size, 0, none⟩ = false by rw [World.frozen?_setCell]; exact hfi)
                    have HKP := Lib.hid (show Below (V0).heap.size W (W.setCell ⟨(V0).heap.size, 0, none⟩ (.int .i64 ((k : Int) + 1))) from (Below.refl _ _).setCell (p := ⟨(V0).heap.size, 0, none⟩) (Nat.le_refl _) _)
                    have HBW := Lib.hid (HBB.out.trans HKP.out)
                    by_cases h4 : ((k : Int) + 1) = stop
                    · have k4 : (((k : Int) + 1) == stop) = true := by simpa using h4
                      have HST := Lib.hid h4
                      clear h4
                      gi_wp2_with fail
                      exact ⟨KeepsOthers.setCell _ _ _, Or.inr ⟨rfl, rfl, HGOOD.out, by rw [HLN.out]; push_cast; exact HST.out, by rw [HLN.out]; exact HCI.out, HBW.out⟩⟩
                    · have k4 : (((k : Int) + 1) == stop) = false := by simpa using h4
                      clear h4
                      gi_wp2_with fail
                      exact ⟨KeepsOthers.setCell _ _ _, HKP.out, ⟨HGOOD.out, by rw [HLN.out]; exact HCI.out, HFI.out⟩, HBW.out⟩
                  · have k3 : (x2 != e1) = true := by simp [h3]
                    have HBAD := Lib.hid (show ¬ pre ++ [((q : Int), x2)] <+: es from fun hp => by
                      have := pre_at hp
                      rw [HKK.out, HE1.out] at this
                      injection this with this; injection this with _ this; exact h3 this.symm)
                    clear h3
                    gi_wp2_with fail
                    exact ⟨KeepsOthers.setCell _ _ _, Or.inl ⟨rfl, HBAD.out⟩⟩
                · have k2 : (x1 != (q : Int)) = true := by simp [h2]
                  have HBAD := Lib.hid (show ¬ pre ++ [(x1, x2)] <+: es from fun hp => by
                    have := pre_at hp
                    rw [HKK.out, HE1.out] at this
                    injection this with this; injection this with this _; exact h2 this.symm)
                  clear h2 he2
                  gi_wp2_with fail
                  exact ⟨KeepsOthers.setCell _ _ _, Or.inl ⟨rfl, HBAD.out⟩⟩
              · have HBAD := Lib.hid (show ¬ pre ++ [(x1, x2)] <+: es from fun hp => by
                  have := hp.length_le
                  rw [HLN0.out] at this
                  have hl : es.length = n := by rw [HSV0.out.hn, HES.out]
                  omega)
                gi_wp2_with fail
                exact ⟨KeepsOthers.setCell _ _ _, Or.inl ⟨rfl, HBAD.out⟩⟩
            case done0 =>
              rintro D0 xs W0 hD rfl' ⟨⟨hpre, hci, hfi⟩, hB⟩ hK
              have hlx : xs.length = n := by rw [rfl', HSV0.out.hn]
              have HDD0 := Lib.hid (And.intro hD hK)
              have HBR0 := Lib.hid hB
              have hs := HSV0.out.below hB
              have q1 : W0.cell? ⟨pB, 0, none⟩ = some (.slice PA n pc) := (hs.hp.all.2.2.1 0).trans rfl
              have q3 : W0.cell? ⟨w.heap.size + 1, 0, none⟩ = some (.int .i64 stop) := (hs.a.hs.all.2.2.1 0).trans rfl
              have q4 : W0.cell? ⟨kr, 0, none⟩ = some (.int .i64 0) := (hB.cell (p := ⟨kr, 0, none⟩) (cell_lt c00)).trans c00
              rw [hlx] at hci
              have HS := Lib.hid hs
              clear hpre hfi hB hK hlx rfl' hs hD hiv hbv
              go_wp2_with fail
              have hal : Below W0.heap.size W0 (W0.alloc (.cells #[.int .i64 1] 3)) := (Below.refl _ _).alloc (Nat.le_refl _) _
              refine KEY.out _ _ ⟨_, _, _, _, _, _, _, _, _, _, _, _, _, _, _, _, _, _, _, _, _, _, _, _, _, _, _, _, _, _, _, _, _, _, _, _, _, _, _, _, _, _, _, _, _, _, _, _, _, _, _, _, _, _, _, _, _, _, _, _, _, _, _, _, _, _, _, _, _, _, _, _, _, _, _, _, _, _, _, _, _, _, _, _, _, _, _, _, _, _, _, _, _, _, _, _, _, _, _, _, _, _, _, _, _, _, _, _, _, _, _, _, _, _, _, _, _, _, _, _, _, _, _, _, _, _, _, _, _, _, _, _, _, _, _, _, _, _, _, _, _, _, _, _, _, _, _, _, _, _, _, _, _, _, _, _, _, _, _, _, _, _, W0.heap.size, D0, rfl, HS.out.below hal, ((Blk.of_heap (heap_at rfl) : Blk (W0.alloc (.cells #[.int .i64 1] 3)) W0.heap.size #[.int .i64 1]).all.2.2.1 0).trans rfl, ?_, (hal.block D0 (Array.getElem?_eq_some_iff.1 HDD0.out.2).1).trans HDD0.out.2⟩
              have := HDD0.out.1
              have := HVV.out
              have := HSV0.out.a.hr.lt
              omega
            case stop0 =>
              rintro D0 c pre W0 hD ⟨j, hj, hne, rfl'⟩ hix hK
              rcases hix with ⟨rfl, hnp⟩ | ⟨rfl, -, hpre, hst, hci, hB⟩
              · exact absurd (by rw [rfl', ← HES.out, show 256 = (j + 1) + (255 - j) by omega]; exact ents_pre E (j + 1) (255 - j)) hnp
              · have HDD0 := Lib.hid (And.intro hD hK)
                have HBR0 := Lib.hid hB
                have hs := HSV0.out.below hB
                have q1 : W0.cell? ⟨pB, 0, none⟩ = some (.slice PA n pc) := (hs.hp.all.2.2.1 0).trans rfl
                have q3 : W0.cell? ⟨w.heap.size + 1, 0, none⟩ = some (.int .i64 stop) := (hs.a.hs.all.2.2.1 0).trans rfl
                have q4 : W0.cell? ⟨kr, 0, none⟩ = some (.int .i64 0) := (hB.cell (p := ⟨kr, 0, none⟩) (cell_lt c00)).trans c00
                rw [hst] at hci
                have HS := Lib.hid hs
                clear hpre hst hB hK rfl' hs hD hiv hbv hne
                refine wpIn_wide.2 ?_
                by_cases h5 : stop = (n : Int)
                · have k5 : (stop == (n : Int)) = true := by simpa using h5
                  subst h5
                  go_wp2_with fail
                  have hal : Below W0.heap.size W0 (W0.alloc (.cells #[.int .i64 1] 3)) := (Below.refl _ _).alloc (Nat.le_refl _) _
                  refine KEY.out _ _ ⟨_, _, _, _, _, _, _, _, _, _, _, _, _, _, _, _, _, _, _, _, _, _, _, _, _, _, _, _, _, _, _, _, _, _, _, _, _, _, _, _, _, _, _, _, _, _, _, _, _, _, _, _, _, _, _, _, _, _, _, _, _, _, _, _, _, _, _, _, _, _, _, _, _, _, _, _, _, _, _, _, _, _, _, _, _, _, _, _, _, _, _, _, _, _, _, _, _, _, _, _, _, _, _, _, _, _, _, _, _, _, _, _, _, _, _, _, _, _, _, _, _, _, _, _, _, _, _, _, _, _, _, _, _, _, _, _, _, _, _, _, _, _, _, _, _, _, _, _, _, _, _, _, _, _, _, _, _, _, _, _, _, _, W0.heap.size, D0, rfl, HS.out.below hal, ((Blk.of_heap (heap_at rfl) : Blk (W0.alloc (.cells #[.int .i64 1] 3)) W0.heap.size #[.int .i64 1]).all.2.2.1 0).trans rfl, ?_, (hal.block D0 (Array.getElem?_eq_some_iff.1 HDD0.out.2).1).trans HDD0.out.2⟩
                  have := HDD0.out.1
                  have := HVV.out
                  have := HSV0.out.a.hr.lt
                  omega
                · have k5 : (stop == (n : Int)) = false := by simpa using h5
                  have k6 : (stop != (n : Int)) = true := by simp [h5]
                  clear h5
                  go_wp2_with fail
                  have hal : Below W0.heap.size W0 (W0.alloc (.cells #[.int .i64 1] 3)) := (Below.refl _ _).alloc (Nat.le_refl _) _
                  refine KEY.out _ _ ⟨_, _, _, _, _, _, _, _, _, _, _, _, _, _, _, _, _, _, _, _, _, _, _, _, _, _, _, _, _, _, _, _, _, _, _, _, _, _, _, _, _, _, _, _, _, _, _, _, _, _, _, _, _, _, _, _, _, _, _, _, _, _, _, _, _, _, _, _, _, _, _, _, _, _, _, _, _, _, _, _, _, _, _, _, _, _, _, _, _, _, _, _, _, _, _, _, _, _, _, _, _, _, _, _, _, _, _, _, _, _, _, _, _, _, _, _, _, _, _, _, _, _, _, _, _, _, _, _, _, _, _, _, _, _, _, _, _, _, _, _, _, _, _, _, _, _, _, _, _, _, _, _, _, _, _, _, _, _, _, _, _, _, W0.heap.size, D0, rfl, HS.out.below hal, ((Blk.of_heap (heap_at rfl) : Blk (W0.alloc (.cells #[.int .i64 1] 3)) W0.heap.size #[.int .i64 1]).all.2.2.1 0).trans rfl, ?_, (hal.block D0 (Array.getElem?_eq_some_iff.1 HDD0.out.2).1).trans HDD0.out.2⟩
                  have := HDD0.out.1
                  have := HVV.out
                  have := HSV0.out.a.hr.lt
                  omega
end
end Go.Proofs.Ytngjpokbjnjodaa
