import Derived.Test.YtngjpokbjnjodaaStepP
import Derived.Deep.QuietTactic
import Derived.BigQuiet
import Derived.Maps.RangeWalk
/- One call of both tables: the walk. -/
namespace Go.Proofs.Ytngjpokbjnjodaa
open Go.RowKit Go.BigFrame
set_option linter.unusedVariables false
set_option linter.unusedSimpArgs false
attribute [local go_sem] szIs_lit row_at row_past row_alloc nf_alloc row_set nf_set row_cell nf_cell row_drew nf_drew row_drewN nf_drewN cell_setRow frozen_setRow nlt1 nlt2 nlt3 nlt4 nne1 nne2 nne3 nen1 nen2 nen3
attribute [local go_sem] by_get by_set
section
variable {w : World} {B bb g b t x F root : Nat} {L : Nat → Option Nat} {E : Nat → Int}
set_option maxHeartbeats 4000000 in
set_option maxRecDepth 100000 in
theorem step_ok (hbw : B ≤ w.heap.size) (h : J2 w B bb g b t x F root L E) (kind page entry spare addr : Int) (wr : Bool) (he : 0 ≤ entry ∧ entry ≤ 4294967295) (ha : 0 ≤ addr ∧ addr ≤ 4294967295)
    (hst : ∀ u, J2 u B bb g b t x F root L E → Calls Try.prog 30 #[.pointer (some ⟨bb, 0, none⟩), .int .i64 page] u fun r w' => r = .returned (.bool true) ∧ Below u.heap.size u w') :
    Calls Try.prog 29 #[.pointer (some ⟨bb, 0, none⟩), .agg (opC kind page entry spare addr wr)] w fun r w' => r = .returned (.bool true) ∧ (∃ L' E', J2 w' B bb g b t x F root L' E') ∧ Below B w w' := by
  have HST := Lib.hid hst
  have HBW := Lib.hid hbw
  have HE := Lib.hid he
  have HA := Lib.hid ha
  obtain ⟨oc, hoc⟩ : ∃ oc, oc = opC kind page entry spare addr wr := ⟨_, rfl⟩
  have ⟨w0, hw0⟩ : ∃ w0, w.alloc (.cells (opC kind page entry spare addr wr) 56) = w0 := ⟨_, rfl⟩
  have hB0 : Below w.heap.size w w0 := by rw [← hw0]; exact (Below.refl _ _).alloc (Nat.le_refl _) _
  have hO : Blk w0 w.heap.size (opC kind page entry spare addr wr) := by rw [← hw0]; exact Blk.of_heap (heap_at rfl)
  have hoo : w.heap.size ≠ x := fun e => by have := h.rt.lt; omega
  have hoZ : ∀ k, Zs bb g b t x k → k ≠ w.heap.size := fun k hk => by have := h.lts k hk; omega
  have HX := Lib.hid (And.intro hoo hoZ)
  obtain ⟨TT, hTT⟩ : ∃ TT : World → Prop, TT = fun u => J2 u B bb g b t x F root L E ∧ Blk u w.heap.size (opC kind page entry spare addr wr) ∧ Below w.heap.size w u := ⟨_, rfl⟩
  have HTT := Lib.hid (show ∀ u, TT u → J2 u B bb g b t x F root L E ∧ Blk u w.heap.size (opC kind page entry spare addr wr) ∧ Below w.heap.size w u from fun u h => by rw [hTT] at h; exact h)
  have HTB := Lib.hid (show ∀ u u', TT u → Below u.heap.size u u' → TT u' from fun u u' h hb => by rw [hTT] at h ⊢; exact ⟨h.1.below hb, h.2.1.below hb h.2.1.lt, h.2.2.trans (Below.mono hb h.2.2.size)⟩)
  have HTW := Lib.hid (show TT w0 by rw [hTT]; exact ⟨h.below hB0, hO, hB0⟩)
  clear hst hbw he ha h hoo hoZ hTT hoc
  have HCC := Lib.hid (show ∀ u, TT u → Blk u bb (bothS g t x) ∧ Blk u w.heap.size (opC kind page entry spare addr wr) from fun u h => ⟨(HTT.out u h).1.hb, (HTT.out u h).2.1⟩)
  have HJ0 := Lib.hid (HTT.out _ HTW.out).1
  have HBB := Lib.hid (show Below B w w0 from Below.mono (HTT.out _ HTW.out).2.2 HBW.out)
  have HB2 := Lib.hid (show B ≤ w0.heap.size from Nat.le_trans HBW.out (HTT.out _ HTW.out).2.2.size)
  have z0 : w0.cell? ⟨w.heap.size, 0, none⟩ = some (.int .i64 kind) := (hO.all.2.2.1 0).trans rfl
  have z1 : w0.cell? ⟨w.heap.size, 1, none⟩ = some (.int .i64 page) := (hO.all.2.2.1 1).trans rfl
  have z3 : w0.cell? ⟨w.heap.size, 3, none⟩ = some (.int .i64 spare) := (hO.all.2.2.1 3).trans rfl
  clear hO hB0
  unfold opC at hw0
  go_enter Try.func29, Try.ntmps29
  unfold opC
  go_wp2_with (rw [hw0])
  · have HAP := Lib.hid (show Calls Try.prog 54 #[.pointer (some ⟨bb, 0, none⟩), .int .i64 spare] w0 fun r w' => r = .returned (.bool (!(spare == (root : Int)) && !hasF (lvL L) spare)) ∧ w0 = w' from by
      obtain ⟨A, c, r1, r2, r3⟩ := HJ0.out.rt.ex
      exact apart_ok HJ0.out.hb r1 r2 rfl (by have := lvL_len L; omega) spare)
    refine HAP.out.mono ?_
    rintro r u ⟨rfl, rfl⟩
    generalize hap : (!(spare == (root : Int)) && !hasF (lvL L) spare) = ap
    cases ap with
    | false =>
      clear hap
      go_wp2_with fail
      go_ret
      exact ⟨by first | rfl | simp, ⟨L, E, HJ0.out⟩, HBB.out⟩
    | true =>
      have HSP := Lib.hid (show ∀ s : Nat, spare = s → s ≠ root ∧ ∀ k, k < 4 → L k ≠ some s from fun s hs => by
        subst hs
        simp only [Bool.and_eq_true, Bool.not_eq_true', beq_eq_false_iff_ne] at hap
        exact ⟨fun e => hap.1 (by rw [e]), hasF_lvL hap.2⟩)
      clear hap HAP
      go_wp2_with fail
      have k0 : TT w0.drew := HTB.out _ _ HTW.out (Below.refl _ _).drew
      clear z0 z1 z3
      refine wp_theta [10] [10] (fun i v => i = 10 → ∃ (uu : Bool) (vv : Int), v = .tuple #[.bool uu, .int .i64 vv]) (fun ρ D u => CB bb w.heap.size (bothS g t x) (opC kind page entry spare addr wr) u ∧ (D 10 = false → TT u) ∧ (D 10 = true → ∃ (uu : Bool) (vv : Int) (L' : Nat → Option Nat) (E' : Nat → Int), ρ 10 = .tuple #[.bool uu, .int .i64 vv] ∧ Mid w u B bb g b t x F root w.heap.size (opC kind page entry spare addr wr) L E page entry spare uu vv L' E')) (CB bb w.heap.size (bothS g t x) (opC kind page entry spare addr wr)) ?_ ?_ ?_ ?_ ?_ ?_ ?_ ?_ ?_ ?_
      · kernel_rfl
      · kernel_rfl
      · kernel_rfl
      · kernel_rfl
      · kernel_rfl
      · kernel_rfl
      · exact fun i hi => ⟨.tuple #[.bool false, .int .i64 0], fun _ => ⟨_, _, rfl⟩⟩
      · exact ⟨HCC.out _ k0, fun _ => k0, by simp⟩
      · exact fun ρ D u h => h.1
      · intro θ hθ
        simp only [SegsT, List.take_succ_cons, List.take_zero, List.drop_succ_cons, List.drop_zero, Nat.sub_zero, Nat.reduceSub, Nat.reduceAdd, List.drop_nil, List.take_nil]
        haveI i1 : Nonempty (Wd (CB bb w.heap.size (bothS g t x) (opC kind page entry spare addr wr))) := ⟨⟨_, HCC.out _ k0⟩⟩
        have lb1 : ∀ s : Wd (CB bb w.heap.size (bothS g t x) (opC kind page entry spare addr wr)), s.val.cell? ⟨bb, 1, none⟩ = some (.pointer (some ⟨t, 0, none⟩)) := fun s => (s.prop.1.all.2.2.1 1).trans rfl
        have lb2 : ∀ s : Wd (CB bb w.heap.size (bothS g t x) (opC kind page entry spare addr wr)), s.val.cell? ⟨bb, 2, none⟩ = some (.pointer (some ⟨x, 0, none⟩)) := fun s => (s.prop.1.all.2.2.1 2).trans rfl
        have lo1 : ∀ s : Wd (CB bb w.heap.size (bothS g t x) (opC kind page entry spare addr wr)), s.val.cell? ⟨w.heap.size, 1, none⟩ = some (.int .i64 page) := fun s => (s.prop.2.all.2.2.1 1).trans rfl
        have lo2 : ∀ s : Wd (CB bb w.heap.size (bothS g t x) (opC kind page entry spare addr wr)), s.val.cell? ⟨w.heap.size, 2, none⟩ = some (.int .u32 entry) := fun s => (s.prop.2.all.2.2.1 2).trans rfl
        have lo3 : ∀ s : Wd (CB bb w.heap.size (bothS g t x) (opC kind page entry spare addr wr)), s.val.cell? ⟨w.heap.size, 3, none⟩ = some (.int .i64 spare) := fun s => (s.prop.2.all.2.2.1 3).trans rfl
        have lo4 : ∀ s : Wd (CB bb w.heap.size (bothS g t x) (opC kind page entry spare addr wr)), s.val.cell? ⟨w.heap.size, 4, none⟩ = some (.int .u32 addr) := fun s => (s.prop.2.all.2.2.1 4).trans rfl
        have lo5 : ∀ s : Wd (CB bb w.heap.size (bothS g t x) (opC kind page entry spare addr wr)), s.val.cell? ⟨w.heap.size, 5, none⟩ = some (.bool wr) := fun s => (s.prop.2.all.2.2.1 5).trans rfl
        obtain ⟨uu, vv, t1⟩ := hθ 10 (by decide) rfl
        clear k0
        repeat (go_big_quiet_step (fail))
        refine wpQuiet_nil ?_
        rw [if_pos (by decide)]
        refine ⟨thOK_call [] [] 23 _ _ (by kernel_rfl) rfl (by kernel_rfl) #[.pointer (some ⟨t, 0, none⟩), .int .i64 page, .int .u32 entry, .int .i64 spare] (by kernel_rfl) (by kernel_rfl) (fun ρ D u hq hK => ?_), ?_⟩
        · have hT := HTT.out u (hK.2.1 hq.now)
          have hJ := hT.1
          refine (set_all hJ.ts page entry spare HE.out HSP.out).mono ?_
          rintro r u' ⟨uu', vv', L', E', rfl, q1, q2, q3⟩
          have hob : w.heap.size ≠ b := fun e => HX.out.2 b (.inr (.inr (.inl rfl))) e.symm
          exact ⟨_, rfl, fun _ => ⟨_, _, rfl⟩, ⟨hJ.hb.only q2 hJ.hb.lt hJ.d1, hT.2.1.only q2 hT.2.1.lt hob⟩, by simp [upd], fun _ => ⟨uu', vv', L', E', by simp [setV], ⟨hJ.hb.only q2 hJ.hb.lt hJ.d1, hT.2.1.only q2 hT.2.1.lt hob, q1, hJ.rt.only q2 (Ne.symm hJ.d3) (.inr (.inr (.inl rfl))), fun k hk => Nat.lt_of_lt_of_le (hJ.lts k hk) q2.size, q3, below_only (Below.mono hT.2.2 HBW.out) q2 hJ.b1 (Nat.le_trans HBW.out hT.2.2.size), Nat.le_trans (Nat.le_trans HBW.out hT.2.2.size) q2.size, HX.out.1⟩⟩⟩
        rw [t1]
        try go_frame
        repeat (go_big_quiet_step (fail))
        refine wpQuiet_nil ?_
        intro u hK
        obtain ⟨uu', vv', L', E', e1, hM⟩ := hK.2.2 rfl
        have e2 : θ 10 = .tuple #[.bool uu', .int .i64 vv'] := e1
        rw [t1] at e2
        obtain ⟨rfl, rfl⟩ : uu = uu' ∧ vv = vv' := by simpa using e2
        have HM := Lib.hid hM
        clear hK e1 e2 hM t1 lb1 lb2 lo1 lo2 lo3 lo4 lo5 i1 hθ
        go_wp2_with fail
        have k1 : Mid w u.drew B bb g b t x F root w.heap.size (opC kind page entry spare addr wr) L E page entry spare uu vv L' E' := HM.out.below (Below.refl _ _).drew
        refine wp_theta [10] [10] (fun i v => i = 10 → v = .tuple #[.bool uu, .int .i64 vv]) (fun ρ D u => CB bb w.heap.size (bothS g t x) (opC kind page entry spare addr wr) u ∧ (D 10 = false → Mid w u B bb g b t x F root w.heap.size (opC kind page entry spare addr wr) L E page entry spare uu vv L' E') ∧ (D 10 = true → J2 u B bb g b t x F root L' E' ∧ Below B w u)) (CB bb w.heap.size (bothS g t x) (opC kind page entry spare addr wr)) ?_ ?_ ?_ ?_ ?_ ?_ ?_ ?_ ?_ ?_
        · kernel_rfl
        · kernel_rfl
        · kernel_rfl
        · kernel_rfl
        · kernel_rfl
        · kernel_rfl
        · exact fun i hi => ⟨_, fun _ => rfl⟩
        · exact ⟨⟨k1.hb, k1.ho⟩, fun _ => k1, by simp⟩
        · exact fun ρ D u h => h.1
        · intro θ hθ
          simp only [SegsT, List.take_succ_cons, List.take_zero, List.drop_succ_cons, List.drop_zero, Nat.sub_zero, Nat.reduceSub, Nat.reduceAdd, List.drop_nil, List.take_nil]
          haveI i1 : Nonempty (Wd (CB bb w.heap.size (bothS g t x) (opC kind page entry spare addr wr))) := ⟨⟨_, k1.hb, k1.ho⟩⟩
          have lb1 : ∀ s : Wd (CB bb w.heap.size (bothS g t x) (opC kind page entry spare addr wr)), s.val.cell? ⟨bb, 1, none⟩ = some (.pointer (some ⟨t, 0, none⟩)) := fun s => (s.prop.1.all.2.2.1 1).trans rfl
          have lb2 : ∀ s : Wd (CB bb w.heap.size (bothS g t x) (opC kind page entry spare addr wr)), s.val.cell? ⟨bb, 2, none⟩ = some (.pointer (some ⟨x, 0, none⟩)) := fun s => (s.prop.1.all.2.2.1 2).trans rfl
          have lo1 : ∀ s : Wd (CB bb w.heap.size (bothS g t x) (opC kind page entry spare addr wr)), s.val.cell? ⟨w.heap.size, 1, none⟩ = some (.int .i64 page) := fun s => (s.prop.2.all.2.2.1 1).trans rfl
          have lo2 : ∀ s : Wd (CB bb w.heap.size (bothS g t x) (opC kind page entry spare addr wr)), s.val.cell? ⟨w.heap.size, 2, none⟩ = some (.int .u32 entry) := fun s => (s.prop.2.all.2.2.1 2).trans rfl
          have lo3 : ∀ s : Wd (CB bb w.heap.size (bothS g t x) (opC kind page entry spare addr wr)), s.val.cell? ⟨w.heap.size, 3, none⟩ = some (.int .i64 spare) := fun s => (s.prop.2.all.2.2.1 3).trans rfl
          have lo4 : ∀ s : Wd (CB bb w.heap.size (bothS g t x) (opC kind page entry spare addr wr)), s.val.cell? ⟨w.heap.size, 4, none⟩ = some (.int .u32 addr) := fun s => (s.prop.2.all.2.2.1 4).trans rfl
          have lo5 : ∀ s : Wd (CB bb w.heap.size (bothS g t x) (opC kind page entry spare addr wr)), s.val.cell? ⟨w.heap.size, 5, none⟩ = some (.bool wr) := fun s => (s.prop.2.all.2.2.1 5).trans rfl
          have t1 := hθ 10 (by decide) rfl
          clear k1
          repeat (go_big_quiet_step (fail))
          refine wpQuiet_nil ?_
          rw [if_pos (by decide)]
          refine ⟨thOK_call [] [] 55 _ _ (by kernel_rfl) rfl (by kernel_rfl) #[.pointer (some ⟨x, 0, none⟩), .int .i64 page, .int .u32 entry, .int .i64 spare] (by kernel_rfl) (by kernel_rfl) (fun ρ D u hq hK => ?_), ?_⟩
          · have hM := hK.2.1 hq.now
            refine (rset_all hM.rt (.inr (.inr (.inr (.inr rfl)))) hM.lts page entry spare vv uu HE.out hM.sr).mono ?_
            rintro r u' ⟨rfl, q1, q2⟩
            have hJ := HJ0.out
            exact ⟨_, rfl, fun _ => rfl, ⟨hM.hb.only q2 hM.hb.lt hJ.d2, hM.ho.only q2 hM.ho.lt hM.on⟩, by simp [upd], fun _ => ⟨⟨hM.hb.only q2 hM.hb.lt hJ.d2, hM.ts.only q2 hJ.d5 hJ.d3 hJ.d4, q1, hJ.d1, hJ.d2, hJ.d3, hJ.d4, hJ.d5, hJ.b1, hJ.b2, hM.sr.eb HE.out hJ.eb⟩, below_only hM.bl q2 hJ.b2 hM.hB⟩⟩
          rw [t1]
          try go_frame
          repeat (go_big_quiet_step (fail))
          refine wpQuiet_nil ?_
          intro u hK
          have HF := Lib.hid (hK.2.2 rfl)
          clear hK t1 lb1 lb2 lo1 lo2 lo3 lo4 lo5 i1 hθ
          go_wp2_with fail
          go_ret
          exact ⟨by first | rfl | simp, ⟨L', E', HF.out.1⟩, HF.out.2⟩
  · have HSP := Lib.hid (show ∀ s : Nat, spare = s → s ≠ root ∧ ∀ k, k < 4 → L k ≠ some s from fun s hs => by omega)
    have k0 : TT w0.drew := HTB.out _ _ HTW.out (Below.refl _ _).drew
    clear z0 z1 z3
    refine wp_theta [10] [10] (fun i v => i = 10 → ∃ (uu : Bool) (vv : Int), v = .tuple #[.bool uu, .int .i64 vv]) (fun ρ D u => CB bb w.heap.size (bothS g t x) (opC kind page entry spare addr wr) u ∧ (D 10 = false → TT u) ∧ (D 10 = true → ∃ (uu : Bool) (vv : Int) (L' : Nat → Option Nat) (E' : Nat → Int), ρ 10 = .tuple #[.bool uu, .int .i64 vv] ∧ Mid w u B bb g b t x F root w.heap.size (opC kind page entry spare addr wr) L E page entry spare uu vv L' E')) (CB bb w.heap.size (bothS g t x) (opC kind page entry spare addr wr)) ?_ ?_ ?_ ?_ ?_ ?_ ?_ ?_ ?_ ?_
    · kernel_rfl
    · kernel_rfl
    · kernel_rfl
    · kernel_rfl
    · kernel_rfl
    · kernel_rfl
    · exact fun i hi => ⟨.tuple #[.bool false, .int .i64 0], fun _ => ⟨_, _, rfl⟩⟩
    · exact ⟨HCC.out _ k0, fun _ => k0, by simp⟩
    · exact fun ρ D u h => h.1
    · intro θ hθ
      simp only [SegsT, List.take_succ_cons, List.take_zero, List.drop_succ_cons, List.drop_zero, Nat.sub_zero, Nat.reduceSub, Nat.reduceAdd, List.drop_nil, List.take_nil]
      haveI i1 : Nonempty (Wd (CB bb w.heap.size (bothS g t x) (opC kind page entry spare addr wr))) := ⟨⟨_, HCC.out _ k0⟩⟩
      have lb1 : ∀ s : Wd (CB bb w.heap.size (bothS g t x) (opC kind page entry spare addr wr)), s.val.cell? ⟨bb, 1, none⟩ = some (.pointer (some ⟨t, 0, none⟩)) := fun s => (s.prop.1.all.2.2.1 1).trans rfl
      have lb2 : ∀ s : Wd (CB bb w.heap.size (bothS g t x) (opC kind page entry spare addr wr)), s.val.cell? ⟨bb, 2, none⟩ = some (.pointer (some ⟨x, 0, none⟩)) := fun s => (s.prop.1.all.2.2.1 2).trans rfl
      have lo1 : ∀ s : Wd (CB bb w.heap.size (bothS g t x) (opC kind page entry spare addr wr)), s.val.cell? ⟨w.heap.size, 1, none⟩ = some (.int .i64 page) := fun s => (s.prop.2.all.2.2.1 1).trans rfl
      have lo2 : ∀ s : Wd (CB bb w.heap.size (bothS g t x) (opC kind page entry spare addr wr)), s.val.cell? ⟨w.heap.size, 2, none⟩ = some (.int .u32 entry) := fun s => (s.prop.2.all.2.2.1 2).trans rfl
      have lo3 : ∀ s : Wd (CB bb w.heap.size (bothS g t x) (opC kind page entry spare addr wr)), s.val.cell? ⟨w.heap.size, 3, none⟩ = some (.int .i64 spare) := fun s => (s.prop.2.all.2.2.1 3).trans rfl
      have lo4 : ∀ s : Wd (CB bb w.heap.size (bothS g t x) (opC kind page entry spare addr wr)), s.val.cell? ⟨w.heap.size, 4, none⟩ = some (.int .u32 addr) := fun s => (s.prop.2.all.2.2.1 4).trans rfl
      have lo5 : ∀ s : Wd (CB bb w.heap.size (bothS g t x) (opC kind page entry spare addr wr)), s.val.cell? ⟨w.heap.size, 5, none⟩ = some (.bool wr) := fun s => (s.prop.2.all.2.2.1 5).trans rfl
      obtain ⟨uu, vv, t1⟩ := hθ 10 (by decide) rfl
      clear k0
      repeat (go_big_quiet_step (fail))
      refine wpQuiet_nil ?_
      rw [if_pos (by decide)]
      refine ⟨thOK_call [] [] 23 _ _ (by kernel_rfl) rfl (by kernel_rfl) #[.pointer (some ⟨t, 0, none⟩), .int .i64 page, .int .u32 entry, .int .i64 spare] (by kernel_rfl) (by kernel_rfl) (fun ρ D u hq hK => ?_), ?_⟩
      · have hT := HTT.out u (hK.2.1 hq.now)
        have hJ := hT.1
        refine (set_all hJ.ts page entry spare HE.out HSP.out).mono ?_
        rintro r u' ⟨uu', vv', L', E', rfl, q1, q2, q3⟩
        have hob : w.heap.size ≠ b := fun e => HX.out.2 b (.inr (.inr (.inl rfl))) e.symm
        exact ⟨_, rfl, fun _ => ⟨_, _, rfl⟩, ⟨hJ.hb.only q2 hJ.hb.lt hJ.d1, hT.2.1.only q2 hT.2.1.lt hob⟩, by simp [upd], fun _ => ⟨uu', vv', L', E', by simp [setV], ⟨hJ.hb.only q2 hJ.hb.lt hJ.d1, hT.2.1.only q2 hT.2.1.lt hob, q1, hJ.rt.only q2 (Ne.symm hJ.d3) (.inr (.inr (.inl rfl))), fun k hk => Nat.lt_of_lt_of_le (hJ.lts k hk) q2.size, q3, below_only (Below.mono hT.2.2 HBW.out) q2 hJ.b1 (Nat.le_trans HBW.out hT.2.2.size), Nat.le_trans (Nat.le_trans HBW.out hT.2.2.size) q2.size, HX.out.1⟩⟩⟩
      rw [t1]
      try go_frame
      repeat (go_big_quiet_step (fail))
      refine wpQuiet_nil ?_
      intro u hK
      obtain ⟨uu', vv', L', E', e1, hM⟩ := hK.2.2 rfl
      have e2 : θ 10 = .tuple #[.bool uu', .int .i64 vv'] := e1
      rw [t1] at e2
      obtain ⟨rfl, rfl⟩ : uu = uu' ∧ vv = vv' := by simpa using e2
      have HM := Lib.hid hM
      clear hK e1 e2 hM t1 lb1 lb2 lo1 lo2 lo3 lo4 lo5 i1 hθ
      go_wp2_with fail
      have k1 : Mid w u.drew B bb g b t x F root w.heap.size (opC kind page entry spare addr wr) L E page entry spare uu vv L' E' := HM.out.below (Below.refl _ _).drew
      refine wp_theta [10] [10] (fun i v => i = 10 → v = .tuple #[.bool uu, .int .i64 vv]) (fun ρ D u => CB bb w.heap.size (bothS g t x) (opC kind page entry spare addr wr) u ∧ (D 10 = false → Mid w u B bb g b t x F root w.heap.size (opC kind page entry spare addr wr) L E page entry spare uu vv L' E') ∧ (D 10 = true → J2 u B bb g b t x F root L' E' ∧ Below B w u)) (CB bb w.heap.size (bothS g t x) (opC kind page entry spare addr wr)) ?_ ?_ ?_ ?_ ?_ ?_ ?_ ?_ ?_ ?_
      · kernel_rfl
      · kernel_rfl
      · kernel_rfl
      · kernel_rfl
      · kernel_rfl
      · kernel_rfl
      · exact fun i hi => ⟨_, fun _ => rfl⟩
      · exact ⟨⟨k1.hb, k1.ho⟩, fun _ => k1, by simp⟩
      · exact fun ρ D u h => h.1
      · intro θ hθ
        simp only [SegsT, List.take_succ_cons, List.take_zero, List.drop_succ_cons, List.drop_zero, Nat.sub_zero, Nat.reduceSub, Nat.reduceAdd, List.drop_nil, List.take_nil]
        haveI i1 : Nonempty (Wd (CB bb w.heap.size (bothS g t x) (opC kind page entry spare addr wr))) := ⟨⟨_, k1.hb, k1.ho⟩⟩
        have lb1 : ∀ s : Wd (CB bb w.heap.size (bothS g t x) (opC kind page entry spare addr wr)), s.val.cell? ⟨bb, 1, none⟩ = some (.pointer (some ⟨t, 0, none⟩)) := fun s => (s.prop.1.all.2.2.1 1).trans rfl
        have lb2 : ∀ s : Wd (CB bb w.heap.size (bothS g t x) (opC kind page entry spare addr wr)), s.val.cell? ⟨bb, 2, none⟩ = some (.pointer (some ⟨x, 0, none⟩)) := fun s => (s.prop.1.all.2.2.1 2).trans rfl
        have lo1 : ∀ s : Wd (CB bb w.heap.size (bothS g t x) (opC kind page entry spare addr wr)), s.val.cell? ⟨w.heap.size, 1, none⟩ = some (.int .i64 page) := fun s => (s.prop.2.all.2.2.1 1).trans rfl
        have lo2 : ∀ s : Wd (CB bb w.heap.size (bothS g t x) (opC kind page entry spare addr wr)), s.val.cell? ⟨w.heap.size, 2, none⟩ = some (.int .u32 entry) := fun s => (s.prop.2.all.2.2.1 2).trans rfl
        have lo3 : ∀ s : Wd (CB bb w.heap.size (bothS g t x) (opC kind page entry spare addr wr)), s.val.cell? ⟨w.heap.size, 3, none⟩ = some (.int .i64 spare) := fun s => (s.prop.2.all.2.2.1 3).trans rfl
        have lo4 : ∀ s : Wd (CB bb w.heap.size (bothS g t x) (opC kind page entry spare addr wr)), s.val.cell? ⟨w.heap.size, 4, none⟩ = some (.int .u32 addr) := fun s => (s.prop.2.all.2.2.1 4).trans rfl
        have lo5 : ∀ s : Wd (CB bb w.heap.size (bothS g t x) (opC kind page entry spare addr wr)), s.val.cell? ⟨w.heap.size, 5, none⟩ = some (.bool wr) := fun s => (s.prop.2.all.2.2.1 5).trans rfl
        have t1 := hθ 10 (by decide) rfl
        clear k1
        repeat (go_big_quiet_step (fail))
        refine wpQuiet_nil ?_
        rw [if_pos (by decide)]
        refine ⟨thOK_call [] [] 55 _ _ (by kernel_rfl) rfl (by kernel_rfl) #[.pointer (some ⟨x, 0, none⟩), .int .i64 page, .int .u32 entry, .int .i64 spare] (by kernel_rfl) (by kernel_rfl) (fun ρ D u hq hK => ?_), ?_⟩
        · have hM := hK.2.1 hq.now
          refine (rset_all hM.rt (.inr (.inr (.inr (.inr rfl)))) hM.lts page entry spare vv uu HE.out hM.sr).mono ?_
          rintro r u' ⟨rfl, q1, q2⟩
          have hJ := HJ0.out
          exact ⟨_, rfl, fun _ => rfl, ⟨hM.hb.only q2 hM.hb.lt hJ.d2, hM.ho.only q2 hM.ho.lt hM.on⟩, by simp [upd], fun _ => ⟨⟨hM.hb.only q2 hM.hb.lt hJ.d2, hM.ts.only q2 hJ.d5 hJ.d3 hJ.d4, q1, hJ.d1, hJ.d2, hJ.d3, hJ.d4, hJ.d5, hJ.b1, hJ.b2, hM.sr.eb HE.out hJ.eb⟩, below_only hM.bl q2 hJ.b2 hM.hB⟩⟩
        rw [t1]
        try go_frame
        repeat (go_big_quiet_step (fail))
        refine wpQuiet_nil ?_
        intro u hK
        have HF := Lib.hid (hK.2.2 rfl)
        clear hK t1 lb1 lb2 lo1 lo2 lo3 lo4 lo5 i1 hθ
        go_wp2_with fail
        go_ret
        exact ⟨by first | rfl | simp, ⟨L', E', HF.out.1⟩, HF.out.2⟩
  · obtain ⟨ge, gv, hp1, hp2⟩ := get_any (B := B) (bb := bb) (g := g) (b := b) (t := t) (x := x) (F := F) (root := root) (L := L) (E := E) page HJ0.out
    have HP1 := Lib.hid hp1
    have HP2 := Lib.hid hp2
    clear hp1 hp2 z0 z1 z3
    have k0 : TT w0.drew := HTB.out _ _ HTW.out (Below.refl _ _).drew
    refine wp_theta [6] [6] (fun i v => i = 6 → v = .tuple #[.int .u32 ge, .int .i64 gv]) (fun ρ D u => TT u) (TT) ?_ ?_ ?_ ?_ ?_ ?_ ?_ ?_ ?_ ?_
    · kernel_rfl
    · kernel_rfl
    · kernel_rfl
    · kernel_rfl
    · kernel_rfl
    · kernel_rfl
    · exact fun i hi => ⟨_, fun _ => rfl⟩
    · exact k0
    · exact fun ρ D u h => h
    · intro θ hθ
      simp only [SegsT, List.take_succ_cons, List.take_zero, List.drop_succ_cons, List.drop_zero, Nat.sub_zero, Nat.reduceSub, Nat.reduceAdd, List.drop_nil, List.take_nil]
      haveI i1 : Nonempty (Wd TT) := ⟨⟨_, k0⟩⟩
      have lb1 : ∀ s : Wd (TT), s.val.cell? ⟨bb, 1, none⟩ = some (.pointer (some ⟨t, 0, none⟩)) := fun s => ((HCC.out _ s.prop).1.all.2.2.1 1).trans rfl
      have lb2 : ∀ s : Wd (TT), s.val.cell? ⟨bb, 2, none⟩ = some (.pointer (some ⟨x, 0, none⟩)) := fun s => ((HCC.out _ s.prop).1.all.2.2.1 2).trans rfl
      have lo1 : ∀ s : Wd (TT), s.val.cell? ⟨w.heap.size, 1, none⟩ = some (.int .i64 page) := fun s => ((HCC.out _ s.prop).2.all.2.2.1 1).trans rfl
      have lo2 : ∀ s : Wd (TT), s.val.cell? ⟨w.heap.size, 2, none⟩ = some (.int .u32 entry) := fun s => ((HCC.out _ s.prop).2.all.2.2.1 2).trans rfl
      have lo3 : ∀ s : Wd (TT), s.val.cell? ⟨w.heap.size, 3, none⟩ = some (.int .i64 spare) := fun s => ((HCC.out _ s.prop).2.all.2.2.1 3).trans rfl
      have lo4 : ∀ s : Wd (TT), s.val.cell? ⟨w.heap.size, 4, none⟩ = some (.int .u32 addr) := fun s => ((HCC.out _ s.prop).2.all.2.2.1 4).trans rfl
      have lo5 : ∀ s : Wd (TT), s.val.cell? ⟨w.heap.size, 5, none⟩ = some (.bool wr) := fun s => ((HCC.out _ s.prop).2.all.2.2.1 5).trans rfl
      have t1 := hθ 6 (by decide) rfl
      clear k0
      repeat (go_big_quiet_step (fail))
      refine wpQuiet_nil ?_
      rw [if_pos (by decide)]
      refine ⟨thOK_call [] [] 31 _ _ (by kernel_rfl) rfl (by kernel_rfl) #[.pointer (some ⟨t, 0, none⟩), .int .i64 page] (by kernel_rfl) (by kernel_rfl) (fun ρ D u hq hK => ?_), ?_⟩
      · have hJ := (HTT.out u hK).1
        refine (HP1.out u hJ).mono ?_
        rintro r u' ⟨rfl, hb⟩
        exact ⟨_, rfl, fun _ => rfl, HTB.out _ _ hK hb⟩
      rw [t1]
      try go_frame
      repeat (go_big_quiet_step (fail))
      refine wpQuiet_nil ?_
      intro u hK
      have HTW := Lib.hid hK
      clear hK t1 lb1 lb2 lo1 lo2 lo3 lo4 lo5 i1 hθ
      go_wp2_with fail
      have k0 : TT u.drew := HTB.out _ _ HTW.out (Below.refl _ _).drew
      refine wp_theta [6] [6] (fun i v => i = 6 → v = .tuple #[.int .u32 ge, .int .i64 gv]) (fun ρ D u => TT u) (TT) ?_ ?_ ?_ ?_ ?_ ?_ ?_ ?_ ?_ ?_
      · kernel_rfl
      · kernel_rfl
      · kernel_rfl
      · kernel_rfl
      · kernel_rfl
      · kernel_rfl
      · exact fun i hi => ⟨_, fun _ => rfl⟩
      · exact k0
      · exact fun ρ D u h => h
      · intro θ hθ
        simp only [SegsT, List.take_succ_cons, List.take_zero, List.drop_succ_cons, List.drop_zero, Nat.sub_zero, Nat.reduceSub, Nat.reduceAdd, List.drop_nil, List.take_nil]
        haveI i1 : Nonempty (Wd TT) := ⟨⟨_, k0⟩⟩
        have lb1 : ∀ s : Wd (TT), s.val.cell? ⟨bb, 1, none⟩ = some (.pointer (some ⟨t, 0, none⟩)) := fun s => ((HCC.out _ s.prop).1.all.2.2.1 1).trans rfl
        have lb2 : ∀ s : Wd (TT), s.val.cell? ⟨bb, 2, none⟩ = some (.pointer (some ⟨x, 0, none⟩)) := fun s => ((HCC.out _ s.prop).1.all.2.2.1 2).trans rfl
        have lo1 : ∀ s : Wd (TT), s.val.cell? ⟨w.heap.size, 1, none⟩ = some (.int .i64 page) := fun s => ((HCC.out _ s.prop).2.all.2.2.1 1).trans rfl
        have lo2 : ∀ s : Wd (TT), s.val.cell? ⟨w.heap.size, 2, none⟩ = some (.int .u32 entry) := fun s => ((HCC.out _ s.prop).2.all.2.2.1 2).trans rfl
        have lo3 : ∀ s : Wd (TT), s.val.cell? ⟨w.heap.size, 3, none⟩ = some (.int .i64 spare) := fun s => ((HCC.out _ s.prop).2.all.2.2.1 3).trans rfl
        have lo4 : ∀ s : Wd (TT), s.val.cell? ⟨w.heap.size, 4, none⟩ = some (.int .u32 addr) := fun s => ((HCC.out _ s.prop).2.all.2.2.1 4).trans rfl
        have lo5 : ∀ s : Wd (TT), s.val.cell? ⟨w.heap.size, 5, none⟩ = some (.bool wr) := fun s => ((HCC.out _ s.prop).2.all.2.2.1 5).trans rfl
        have t1 := hθ 6 (by decide) rfl
        clear k0
        repeat (go_big_quiet_step (fail))
        refine wpQuiet_nil ?_
        rw [if_pos (by decide)]
        refine ⟨thOK_call [] [] 56 _ _ (by kernel_rfl) rfl (by kernel_rfl) #[.pointer (some ⟨x, 0, none⟩), .int .i64 page] (by kernel_rfl) (by kernel_rfl) (fun ρ D u hq hK => ?_), ?_⟩
        · have hJ := (HTT.out u hK).1
          refine (HP2.out u hJ).mono ?_
          rintro r u' ⟨rfl, hb⟩
          exact ⟨_, rfl, fun _ => rfl, HTB.out _ _ hK hb⟩
        rw [t1]
        try go_frame
        repeat (go_big_quiet_step (fail))
        refine wpQuiet_nil ?_
        intro u hK
        have HTW := Lib.hid hK
        clear hK t1 lb1 lb2 lo1 lo2 lo3 lo4 lo5 i1 hθ
        go_wp2_with fail
        go_ret
        exact ⟨by first | rfl | simp, ⟨L, E, (HTT.out _ HTW.out).1⟩, Below.mono (HTT.out _ HTW.out).2.2 HBW.out⟩
  · obtain ⟨nc, hp1, hp2⟩ := needs_any (B := B) (bb := bb) (g := g) (b := b) (t := t) (x := x) (F := F) (root := root) (L := L) (E := E) page HJ0.out
    have HP1 := Lib.hid hp1
    have HP2 := Lib.hid hp2
    clear hp1 hp2 z0 z1 z3
    have k0 : TT w0.drew := HTB.out _ _ HTW.out (Below.refl _ _).drew
    refine wp_theta [6, 13] [6, 13] (fun i v => (i = 6 → v = .bool nc) ∧ (i = 13 → v = .bool nc)) (fun ρ D u => TT u) (TT) ?_ ?_ ?_ ?_ ?_ ?_ ?_ ?_ ?_ ?_
    · kernel_rfl
    · kernel_rfl
    · kernel_rfl
    · kernel_rfl
    · kernel_rfl
    · kernel_rfl
    · exact fun i hi => ⟨.bool nc, fun _ => rfl, fun _ => rfl⟩
    · exact k0
    · exact fun ρ D u h => h
    · intro θ hθ
      simp only [SegsT, List.take_succ_cons, List.take_zero, List.drop_succ_cons, List.drop_zero, Nat.sub_zero, Nat.reduceSub, Nat.reduceAdd, List.drop_nil, List.take_nil]
      haveI i1 : Nonempty (Wd TT) := ⟨⟨_, k0⟩⟩
      have lb1 : ∀ s : Wd (TT), s.val.cell? ⟨bb, 1, none⟩ = some (.pointer (some ⟨t, 0, none⟩)) := fun s => ((HCC.out _ s.prop).1.all.2.2.1 1).trans rfl
      have lb2 : ∀ s : Wd (TT), s.val.cell? ⟨bb, 2, none⟩ = some (.pointer (some ⟨x, 0, none⟩)) := fun s => ((HCC.out _ s.prop).1.all.2.2.1 2).trans rfl
      have lo1 : ∀ s : Wd (TT), s.val.cell? ⟨w.heap.size, 1, none⟩ = some (.int .i64 page) := fun s => ((HCC.out _ s.prop).2.all.2.2.1 1).trans rfl
      have lo2 : ∀ s : Wd (TT), s.val.cell? ⟨w.heap.size, 2, none⟩ = some (.int .u32 entry) := fun s => ((HCC.out _ s.prop).2.all.2.2.1 2).trans rfl
      have lo3 : ∀ s : Wd (TT), s.val.cell? ⟨w.heap.size, 3, none⟩ = some (.int .i64 spare) := fun s => ((HCC.out _ s.prop).2.all.2.2.1 3).trans rfl
      have lo4 : ∀ s : Wd (TT), s.val.cell? ⟨w.heap.size, 4, none⟩ = some (.int .u32 addr) := fun s => ((HCC.out _ s.prop).2.all.2.2.1 4).trans rfl
      have lo5 : ∀ s : Wd (TT), s.val.cell? ⟨w.heap.size, 5, none⟩ = some (.bool wr) := fun s => ((HCC.out _ s.prop).2.all.2.2.1 5).trans rfl
      have t6 := (hθ 6 (by decide)).1 rfl
      have t13 := (hθ 13 (by decide)).2 rfl
      clear k0
      repeat (go_big_quiet_step (fail))
      refine wpQuiet_nil ?_
      rw [if_pos (by decide)]
      refine ⟨thOK_call [] [] 34 _ _ (by kernel_rfl) rfl (by kernel_rfl) #[.pointer (some ⟨t, 0, none⟩), .int .i64 page] (by kernel_rfl) (by kernel_rfl) (fun ρ D u hq hK => ?_), ?_⟩
      · have hJ := (HTT.out u hK).1
        refine (HP1.out u hJ).mono ?_
        rintro r u' ⟨rfl, hb⟩
        exact ⟨_, rfl, ⟨fun _ => rfl, by simp⟩, HTB.out _ _ hK hb⟩
      rw [t6]
      try go_frame
      repeat (go_big_quiet_step (fail))
      refine wpQuiet_nil ?_
      rw [if_pos (by decide)]
      refine ⟨thOK_call [] [] 57 _ _ (by kernel_rfl) rfl (by kernel_rfl) #[.pointer (some ⟨x, 0, none⟩), .int .i64 page] (by kernel_rfl) (by kernel_rfl) (fun ρ D u hq hK => ?_), ?_⟩
      · have hJ := (HTT.out u hK).1
        refine (HP2.out u hJ).mono ?_
        rintro r u' ⟨rfl, hb⟩
        exact ⟨_, rfl, ⟨by simp, fun _ => rfl⟩, HTB.out _ _ hK hb⟩
      rw [t13]
      try go_frame
      repeat (go_big_quiet_step (fail))
      refine wpQuiet_nil ?_
      intro u hK
      have HTW := Lib.hid hK
      clear hK t6 t13 lb1 lb2 lo1 lo2 lo3 lo4 lo5 i1 hθ
      go_wp2_with fail
      go_ret
      exact ⟨by first | rfl | simp, ⟨L, E, (HTT.out _ HTW.out).1⟩, Below.mono (HTT.out _ HTW.out).2.2 HBW.out⟩
  · obtain ⟨ge, gv, hp1, hp2⟩ := trans_any (B := B) (bb := bb) (g := g) (b := b) (t := t) (x := x) (F := F) (root := root) (L := L) (E := E) addr HA.out wr HJ0.out
    have HP1 := Lib.hid hp1
    have HP2 := Lib.hid hp2
    clear hp1 hp2 z0 z1 z3
    have k0 : TT w0.drew := HTB.out _ _ HTW.out (Below.refl _ _).drew
    refine wp_theta [8] [8] (fun i v => i = 8 → v = .tuple #[.int .i64 ge, .int .i64 gv]) (fun ρ D u => TT u) (TT) ?_ ?_ ?_ ?_ ?_ ?_ ?_ ?_ ?_ ?_
    · kernel_rfl
    · kernel_rfl
    · kernel_rfl
    · kernel_rfl
    · kernel_rfl
    · kernel_rfl
    · exact fun i hi => ⟨_, fun _ => rfl⟩
    · exact k0
    · exact fun ρ D u h => h
    · intro θ hθ
      simp only [SegsT, List.take_succ_cons, List.take_zero, List.drop_succ_cons, List.drop_zero, Nat.sub_zero, Nat.reduceSub, Nat.reduceAdd, List.drop_nil, List.take_nil]
      haveI i1 : Nonempty (Wd TT) := ⟨⟨_, k0⟩⟩
      have lb1 : ∀ s : Wd (TT), s.val.cell? ⟨bb, 1, none⟩ = some (.pointer (some ⟨t, 0, none⟩)) := fun s => ((HCC.out _ s.prop).1.all.2.2.1 1).trans rfl
      have lb2 : ∀ s : Wd (TT), s.val.cell? ⟨bb, 2, none⟩ = some (.pointer (some ⟨x, 0, none⟩)) := fun s => ((HCC.out _ s.prop).1.all.2.2.1 2).trans rfl
      have lo1 : ∀ s : Wd (TT), s.val.cell? ⟨w.heap.size, 1, none⟩ = some (.int .i64 page) := fun s => ((HCC.out _ s.prop).2.all.2.2.1 1).trans rfl
      have lo2 : ∀ s : Wd (TT), s.val.cell? ⟨w.heap.size, 2, none⟩ = some (.int .u32 entry) := fun s => ((HCC.out _ s.prop).2.all.2.2.1 2).trans rfl
      have lo3 : ∀ s : Wd (TT), s.val.cell? ⟨w.heap.size, 3, none⟩ = some (.int .i64 spare) := fun s => ((HCC.out _ s.prop).2.all.2.2.1 3).trans rfl
      have lo4 : ∀ s : Wd (TT), s.val.cell? ⟨w.heap.size, 4, none⟩ = some (.int .u32 addr) := fun s => ((HCC.out _ s.prop).2.all.2.2.1 4).trans rfl
      have lo5 : ∀ s : Wd (TT), s.val.cell? ⟨w.heap.size, 5, none⟩ = some (.bool wr) := fun s => ((HCC.out _ s.prop).2.all.2.2.1 5).trans rfl
      have t1 := hθ 8 (by decide) rfl
      clear k0
      repeat (go_big_quiet_step (fail))
      refine wpQuiet_nil ?_
      rw [if_pos (by decide)]
      refine ⟨thOK_call [] [] 32 _ _ (by kernel_rfl) rfl (by kernel_rfl) #[.pointer (some ⟨t, 0, none⟩), .int .u32 addr, .bool wr] (by kernel_rfl) (by kernel_rfl) (fun ρ D u hq hK => ?_), ?_⟩
      · have hJ := (HTT.out u hK).1
        refine (HP1.out u hJ).mono ?_
        rintro r u' ⟨rfl, hb⟩
        exact ⟨_, rfl, fun _ => rfl, HTB.out _ _ hK hb⟩
      rw [t1]
      try go_frame
      repeat (go_big_quiet_step (fail))
      refine wpQuiet_nil ?_
      intro u hK
      have HTW := Lib.hid hK
      clear hK t1 lb1 lb2 lo1 lo2 lo3 lo4 lo5 i1 hθ
      go_wp2_with fail
      have k0 : TT u.drew := HTB.out _ _ HTW.out (Below.refl _ _).drew
      refine wp_theta [8] [8] (fun i v => i = 8 → v = .tuple #[.int .i64 ge, .int .i64 gv]) (fun ρ D u => TT u) (TT) ?_ ?_ ?_ ?_ ?_ ?_ ?_ ?_ ?_ ?_
      · kernel_rfl
      · kernel_rfl
      · kernel_rfl
      · kernel_rfl
      · kernel_rfl
      · kernel_rfl
      · exact fun i hi => ⟨_, fun _ => rfl⟩
      · exact k0
      · exact fun ρ D u h => h
      · intro θ hθ
        simp only [SegsT, List.take_succ_cons, List.take_zero, List.drop_succ_cons, List.drop_zero, Nat.sub_zero, Nat.reduceSub, Nat.reduceAdd, List.drop_nil, List.take_nil]
        haveI i1 : Nonempty (Wd TT) := ⟨⟨_, k0⟩⟩
        have lb1 : ∀ s : Wd (TT), s.val.cell? ⟨bb, 1, none⟩ = some (.pointer (some ⟨t, 0, none⟩)) := fun s => ((HCC.out _ s.prop).1.all.2.2.1 1).trans rfl
        have lb2 : ∀ s : Wd (TT), s.val.cell? ⟨bb, 2, none⟩ = some (.pointer (some ⟨x, 0, none⟩)) := fun s => ((HCC.out _ s.prop).1.all.2.2.1 2).trans rfl
        have lo1 : ∀ s : Wd (TT), s.val.cell? ⟨w.heap.size, 1, none⟩ = some (.int .i64 page) := fun s => ((HCC.out _ s.prop).2.all.2.2.1 1).trans rfl
        have lo2 : ∀ s : Wd (TT), s.val.cell? ⟨w.heap.size, 2, none⟩ = some (.int .u32 entry) := fun s => ((HCC.out _ s.prop).2.all.2.2.1 2).trans rfl
        have lo3 : ∀ s : Wd (TT), s.val.cell? ⟨w.heap.size, 3, none⟩ = some (.int .i64 spare) := fun s => ((HCC.out _ s.prop).2.all.2.2.1 3).trans rfl
        have lo4 : ∀ s : Wd (TT), s.val.cell? ⟨w.heap.size, 4, none⟩ = some (.int .u32 addr) := fun s => ((HCC.out _ s.prop).2.all.2.2.1 4).trans rfl
        have lo5 : ∀ s : Wd (TT), s.val.cell? ⟨w.heap.size, 5, none⟩ = some (.bool wr) := fun s => ((HCC.out _ s.prop).2.all.2.2.1 5).trans rfl
        have t1 := hθ 8 (by decide) rfl
        clear k0
        repeat (go_big_quiet_step (fail))
        refine wpQuiet_nil ?_
        rw [if_pos (by decide)]
        refine ⟨thOK_call [] [] 58 _ _ (by kernel_rfl) rfl (by kernel_rfl) #[.pointer (some ⟨x, 0, none⟩), .int .u32 addr, .bool wr] (by kernel_rfl) (by kernel_rfl) (fun ρ D u hq hK => ?_), ?_⟩
        · have hJ := (HTT.out u hK).1
          refine (HP2.out u hJ).mono ?_
          rintro r u' ⟨rfl, hb⟩
          exact ⟨_, rfl, fun _ => rfl, HTB.out _ _ hK hb⟩
        rw [t1]
        try go_frame
        repeat (go_big_quiet_step (fail))
        refine wpQuiet_nil ?_
        intro u hK
        have HTW := Lib.hid hK
        clear hK t1 lb1 lb2 lo1 lo2 lo3 lo4 lo5 i1 hθ
        go_wp2_with fail
        go_ret
        exact ⟨by first | rfl | simp, ⟨L, E, (HTT.out _ HTW.out).1⟩, Below.mono (HTT.out _ HTW.out).2.2 HBW.out⟩
  · refine (HST.out _ HJ0.out).mono ?_
    rintro r u ⟨rfl, hb⟩
    have HTW := Lib.hid (HTB.out _ _ HTW.out hb)
    clear hb
    go_wp2_with fail
    go_ret
    exact ⟨by first | rfl | simp, ⟨L, E, (HTT.out _ HTW.out).1⟩, Below.mono (HTT.out _ HTW.out).2.2 HBW.out⟩
end
end Go.Proofs.Ytngjpokbjnjodaa
