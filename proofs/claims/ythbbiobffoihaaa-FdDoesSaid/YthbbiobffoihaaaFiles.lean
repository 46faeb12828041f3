import Derived.Test.YthbbiobffoihaaaAppD
/- files: its walk. -/
namespace Go.Proofs.Ythbbiobffoihaaa
open Go.RowKit Go.BigFrame
set_option linter.unusedVariables false
set_option linter.unusedSimpArgs false
attribute [local go_sem] szIs_lit row_at row_past row_alloc nf_alloc row_set nf_set row_cell nf_cell row_drew nf_drew row_drewN nf_drewN cell_setRow frozen_setRow nlt1 nlt2 nlt3 nlt4 nne1 nne2 nne3 nen1 nen2 nen3
set_option maxRecDepth 100000
theorem eql40 (a b c d e : Int) (w : World) : (binOp .eql 40 (.agg #[.int .i64 a, .int .i64 b, .int .i64 c, .int .i64 d, .int .i64 e]) (.agg #[.int .i64 a, .int .i64 b, .int .i64 c, .int .i64 d, .int .i64 e])).run Try.prog w = .ok (.bool true) w := by
  simp [go_sem]
theorem AKs.cast {wA u : World} {ob g r a n c y nx cy t : Nat} {tv xv : List Value} {DX : List Int} {L1 L2 : PL Fl} {v7 v8 v18 v19 v20 u7 u8 u18 u19 u20 : Option Value} {b23 b26 c23 c26 : Bool} (h : AKs wA ob g r a n c y nx cy t tv xv DX L1 L2 v7 v8 v18 v19 v20 b23 b26 u) (e7 : v7 = u7) (e8 : v8 = u8) (e18 : v18 = u18) (e19 : v19 = u19) (e20 : v20 = u20) (e23 : b23 = c23) (e26 : b26 = c26) : AKs wA ob g r a n c y nx cy t tv xv DX L1 L2 u7 u8 u18 u19 u20 c23 c26 u := by
  subst e7 e8 e18 e19 e20 e23 e26; exact h
def opv (b : Bool) (v : Value) : Option Value := if b = true then some v else none
def AKK (wA : World) (ob g r a n c y nx cy t : Nat) (tv xv : List Value) (DX : List Int) (L1 L2 : PL Fl) (p7 p8 p18 p19 p20 p23 p26 : Nat) (ρ : Nat → Value) (D : Nat → Bool) (u : World) : Prop :=
  AKs wA ob g r a n c y nx cy t tv xv DX L1 L2 (opv (D p7) (ρ p7)) (opv (D p8) (ρ p8)) (opv (D p18) (ρ p18)) (opv (D p19) (ρ p19)) (opv (D p20) (ρ p20)) (D p23) (D p26) u
def CO (ob r : Nat) (u : World) : Prop := u.cell? ⟨ob, 2, none⟩ = some (.pointer (some ⟨r, 0, none⟩))
theorem bs30 (v : Value) (hv : v.oneCell' = true) (w : World) : (Instr.buildSlice 30 1 #[(0, v)]).run Try.prog w = .ok (.slice (some ⟨w.heap.size, 0, none⟩) 1 1) (w.alloc (.cells #[v] 67)) := by
  cases v <;> simp [Value.oneCell'] at hv <;> simp [go_sem]
section
variable {w0 wA u u' : World} {ob g m a c r y cy oc : Nat} {ts : TS} {xs : List Nat} {L LF LR L' : PL Fl} {x0 x1 x2 x3 x4 : Int}
theorem BH.drew (h : BH w0 wA ob g m a c r y cy oc ts xs L x0 x1 x2 x3 x4) : BH w0 wA.drew ob g m a c r y cy oc ts xs L x0 x1 x2 x3 x4 := ⟨h.w2.drew, h.op, h.no, h.oge⟩
theorem ST.drew (h : ST wA ob g m r oc L x0 x1 x2 x3 x4 LF LR u) : ST wA ob g m r oc L x0 x1 x2 x3 x4 LF LR u.drew := ⟨h.fr.drew, h.rf.drew, ⟨h.cf.c0, h.cf.c2, h.cf.op⟩, h.ch.drew⟩
theorem CF.l (h : CF ob oc g r x0 x1 x2 x3 x4 u) : u.cell? ⟨oc, 0, none⟩ = some (.int .i64 x0) ∧ u.cell? ⟨oc, 1, none⟩ = some (.int .i64 x1) ∧ u.cell? ⟨oc, 2, none⟩ = some (.int .i64 x2) ∧ u.cell? ⟨oc, 3, none⟩ = some (.int .i64 x3) ∧ u.cell? ⟨oc, 4, none⟩ = some (.int .i64 x4) :=
  ⟨(h.op.all.2.2.1 0).trans rfl, (h.op.all.2.2.1 1).trans rfl, (h.op.all.2.2.1 2).trans rfl, (h.op.all.2.2.1 3).trans rfl, (h.op.all.2.2.1 4).trans rfl⟩
/-- One call that turns the world: ahead of it the world is known. -/
def KO (pc : Nat) (wA : World) (POST : World → Prop) (ρ : Nat → Value) (D : Nat → Bool) (u : World) : Prop := if D pc = true then POST u else u = wA
theorem KO.pre {pc : Nat} {POST : World → Prop} {ρ : Nat → Value} {D : Nat → Bool} (h : KO pc wA POST ρ D u) (hd : D pc = false) : u = wA := by unfold KO at h; rw [hd] at h; simpa using h
theorem KO.post {pc : Nat} {POST : World → Prop} {ρ : Nat → Value} {D : Nat → Bool} (h : KO pc wA POST ρ D u) (hd : D pc = true) : POST u := by unfold KO at h; rw [hd] at h; simpa using h
theorem KO.mk {pc : Nat} {POST : World → Prop} {ρ : Nat → Value} {D : Nat → Bool} (h : POST u) : KO pc wA POST ρ (upd D pc) u := by unfold KO; rw [upd_self]; simpa using h
theorem KO.start {pc : Nat} {POST : World → Prop} {ρ : Nat → Value} : KO pc wA POST ρ (fun _ => false) wA := by unfold KO; simp
theorem KO.or {pc : Nat} {POST X : World → Prop} {ρ : Nat → Value} {D : Nat → Bool} (h : KO pc wA POST ρ D u) (h1 : X wA) (h2 : ∀ u, POST u → X u) : X u := by
  unfold KO at h
  split at h
  · exact h2 u h
  · rw [h]; exact h1
theorem Firm.mono {n n' : Nat} {X : World → Prop} (h : Firm n X) (hn : n ≤ n') : Firm n' X := fun u u' hx hc => h u u' hx (hc.mono fun k _ q => Nat.le_trans hn q)
/-- .. and a variable's block. -/
def STV (X : World → Prop) (b : Nat) (cs : Array Value) (u : World) : Prop := X u ∧ Blk u b cs
theorem STV.firm {n b : Nat} {X : World → Prop} {cs : Array Value} (hb : b < n) (h : Firm n X) : Firm n (STV X b cs) := fun u u' hx hc => ⟨h u u' hx.1 hc, hx.2.ch hc (by omega)⟩
/-- Move of both. -/
def K2 (wA : World) (ob g m r oc : Nat) (L : PL Fl) (x0 x1 x2 x3 x4 : Int) (L' : PL Fl) (p q : Nat) (ρ : Nat → Value) (D : Nat → Bool) (u : World) : Prop := ST wA ob g m r oc L x0 x1 x2 x3 x4 (if D p = true then L' else L) (if D q = true then L' else L) u
theorem box69 (r : Nat) (w : World) : (Instr.box 69 (.agg #[.pointer (some ⟨r, 0, none⟩), .int .i64 0, .int .i64 0, .int .i64 0, .int .i64 0, .int .i64 0, .int .i64 0, .int .i64 0, .int .i64 0, .int .i64 0, .int .i64 0, .int .i64 0, .int .i64 0, .int .i64 0, .int .i64 0, .int .i64 0, .int .i64 0])).run Try.prog w = .ok (.pointer (some ⟨w.heap.size, 0, none⟩)) (w.alloc (.cells #[.pointer (some ⟨r, 0, none⟩), .int .i64 0, .int .i64 0, .int .i64 0, .int .i64 0, .int .i64 0, .int .i64 0, .int .i64 0, .int .i64 0, .int .i64 0, .int .i64 0, .int .i64 0, .int .i64 0, .int .i64 0, .int .i64 0, .int .i64 0, .int .i64 0] 69)) := rfl
/-- What a call of both leaves. -/
def SF (w0 w' : World) (ob g m r : Nat) (B : Int) : Prop := ∃ a c y cy ts xs L, W2 w0 w' ob g m a c r y cy ts xs L ∧ RB L B
set_option maxHeartbeats 8000000 in
theorem files_ok {w : World} (h : W2 w0 w ob g m a c r y cy ts xs L) {B : Int} (hR : RB L B) (hB1 : 1 ≤ B) (hB2 : B ≤ 1152921504606846976) (x0 x1 x2 x3 x4 : Int) : Calls Try.prog 34 #[.pointer (some ⟨ob, 0, none⟩), .agg #[.int .i64 x0, .int .i64 x1, .int .i64 x2, .int .i64 x3, .int .i64 x4]] w fun e w' => e = .returned (.bool true) ∧ SF w0 w' ob g m r (B + 16) := by
  have hb0 : Below w.heap.size w (w.alloc (.cells #[.int .i64 x0, .int .i64 x1, .int .i64 x2, .int .i64 x3, .int .i64 x4] 26)) := (Below.refl _ _).alloc (Nat.le_refl _) _
  have hk : Blk (w.alloc (.cells #[.int .i64 x0, .int .i64 x1, .int .i64 x2, .int .i64 x3, .int .i64 x4] 26)) w.heap.size #[.int .i64 x0, .int .i64 x1, .int .i64 x2, .int .i64 x3, .int .i64 x4] := Blk.of_heap (heap_at rfl)
  have hBH : BH w0 (w.alloc (.cells #[.int .i64 x0, .int .i64 x1, .int .i64 x2, .int .i64 x3, .int .i64 x4] 26)) ob g m a c r y cy w.heap.size ts xs L x0 x1 x2 x3 x4 :=
    ⟨h.below hb0, hk, fun q => Nat.lt_irrefl _ (h.lt q), h.lp.bel.size⟩
  generalize hu : w.alloc (.cells #[.int .i64 x0, .int .i64 x1, .int .i64 x2, .int .i64 x3, .int .i64 x4] 26) = u at *
  obtain ⟨oc, hoc⟩ : ∃ oc, oc = w.heap.size := ⟨_, rfl⟩
  rw [← hoc] at hBH
  have HB := Lib.hid hBH
  have HR := Lib.hid (And.intro hR (And.intro hB1 hB2))
  obtain ⟨q0, q1, q2, q3, q4⟩ := hBH.cf.l
  clear h hb0 hk hBH hR hB1 hB2
  have hoc' : w.heap.size = oc := hoc.symm
  clear hoc
  go_enter Try.func34, Try.ntmps34
  go_upto_region 2 with (rw [hu])
  clear hu hoc'
  by_cases h0 : x0 = 0
  · subst h0
    go_wp2_with fail
    clear q0 q1 q2 q3 q4
    generalize hwA : u.drew = wA at *
    have HA := Lib.hid (show BH w0 wA ob g m a c r y cy oc ts xs L 0 x1 x2 x3 x4 by rw [← hwA]; exact HB.out.drew)
    obtain ⟨v, er, hop⟩ := open_both HA.out HR.out.1 HR.out.2.1
    have HOP := Lib.hid hop
    clear hop
    refine wp_theta [10] [10] (fun i ww => ww = (.tuple #[.int .i64 v, .int .i64 er])) (KO 10 wA (fun u => ∃ L', ST wA ob g m r oc L 0 x1 x2 x3 x4 L' L u ∧ NewB wA g m L L' ∧ RB L' (B + 16) ∧ ∀ u2, ST wA ob g m r oc L 0 x1 x2 x3 x4 L' L u2 → Calls Try.prog 45 #[.pointer (some ⟨r, 0, none⟩), .int .i64 x3, .int .i64 x4, .int .i64 x2] u2 fun e u3 => e = .returned (.tuple #[.int .i64 v, .int .i64 er]) ∧ ST wA ob g m r oc L 0 x1 x2 x3 x4 L' L' u3)) (CF ob oc g r 0 x1 x2 x3 x4) ?_ ?_ ?_ ?_ ?_ ?_ ?_ ?_ ?_ ?_
    · kernel_rfl
    · kernel_rfl
    · kernel_rfl
    · kernel_rfl
    · kernel_rfl
    · kernel_rfl
    · exact fun i hi => ⟨_, rfl⟩
    · rw [hwA]; exact KO.start
    · exact fun ρ D u hK => hK.or (HA.out.cf) (fun u hp => by obtain ⟨L', h9, _⟩ := hp; exact h9.cf)
    · intro θ hθ
      simp only [SegsT, List.take_succ_cons, List.take_zero, List.drop_succ_cons, List.drop_zero, Nat.sub_zero, Nat.reduceSub, Nat.reduceAdd, List.drop_nil, List.take_nil]
      haveI i1 : Nonempty (Wd (CF ob oc g r 0 x1 x2 x3 x4)) := ⟨⟨wA, HA.out.cf⟩⟩
      have l0 : ∀ s : Wd (CF ob oc g r 0 x1 x2 x3 x4), s.val.cell? ⟨ob, 0, none⟩ = some (.pointer (some ⟨g, 0, none⟩)) := fun s => s.prop.c0
      have l1 : ∀ s : Wd (CF ob oc g r 0 x1 x2 x3 x4), s.val.cell? ⟨ob, 2, none⟩ = some (.pointer (some ⟨r, 0, none⟩)) := fun s => s.prop.c2
      have l2 : ∀ s : Wd (CF ob oc g r 0 x1 x2 x3 x4), s.val.cell? ⟨oc, 2, none⟩ = some (.int .i64 x2) := fun s => s.prop.l.2.2.1
      have l3 : ∀ s : Wd (CF ob oc g r 0 x1 x2 x3 x4), s.val.cell? ⟨oc, 3, none⟩ = some (.int .i64 x3) := fun s => s.prop.l.2.2.2.1
      have l4 : ∀ s : Wd (CF ob oc g r 0 x1 x2 x3 x4), s.val.cell? ⟨oc, 4, none⟩ = some (.int .i64 x4) := fun s => s.prop.l.2.2.2.2
      have tc := hθ 10 (by decide)
      repeat (go_big_quiet_step (fail))
      refine wpQuiet_nil ?_
      rw [if_pos (by decide)]
      refine ⟨thOK_call [] [] 8 _ _ (by kernel_rfl) rfl (by kernel_rfl) #[.pointer (some ⟨g, 0, none⟩), .int .i64 x3, .int .i64 x4, .int .i64 x2] (by kernel_rfl) (by kernel_rfl) (fun ρ D u hq hK => ?_), ?_⟩
      · have hu := hK.pre hq.now
        subst hu
        refine (HOP.out _ HA.out.st).mono ?_
        rintro e u2 ⟨rfl, hp⟩
        exact ⟨_, rfl, rfl, KO.mk hp⟩
      rw [tc]
      go_frame
      repeat (go_big_quiet_step (fail))
      refine wpQuiet_nil ?_
      intro u1 hK
      have hp := hK.post (by decide)
      clear hK hθ tc i1 l0 l1 l2 l3 l4
      obtain ⟨L', h1, h2, h3, h4⟩ := hp
      obtain ⟨wB, hwB⟩ : ∃ wB, wB = u1.drew := ⟨_, rfl⟩
      have HS := Lib.hid (show ST wA ob g m r oc L 0 x1 x2 x3 x4 L' L wB by rw [hwB]; exact h1.drew)
      have HN := Lib.hid (And.intro h2 h3)
      have HC := Lib.hid h4
      have hwB' : u1.drew = wB := hwB.symm
      clear h1 h2 h3 h4 hwB
      go_wp2_with fail
      refine wp_theta [10] [10] (fun i ww => ww = (.tuple #[.int .i64 v, .int .i64 er])) (KO 10 wB (fun u => ST wA ob g m r oc L 0 x1 x2 x3 x4 L' L' u)) (CF ob oc g r 0 x1 x2 x3 x4) ?_ ?_ ?_ ?_ ?_ ?_ ?_ ?_ ?_ ?_
      · kernel_rfl
      · kernel_rfl
      · kernel_rfl
      · kernel_rfl
      · kernel_rfl
      · kernel_rfl
      · exact fun i hi => ⟨_, rfl⟩
      · rw [hwB']; exact KO.start
      · exact fun ρ D u hK => hK.or (HS.out.cf) (fun u hp => hp.cf)
      · intro θ hθ
        simp only [SegsT, List.take_succ_cons, List.take_zero, List.drop_succ_cons, List.drop_zero, Nat.sub_zero, Nat.reduceSub, Nat.reduceAdd, List.drop_nil, List.take_nil]
        haveI i1 : Nonempty (Wd (CF ob oc g r 0 x1 x2 x3 x4)) := ⟨⟨wB, HS.out.cf⟩⟩
        have l0 : ∀ s : Wd (CF ob oc g r 0 x1 x2 x3 x4), s.val.cell? ⟨ob, 0, none⟩ = some (.pointer (some ⟨g, 0, none⟩)) := fun s => s.prop.c0
        have l1 : ∀ s : Wd (CF ob oc g r 0 x1 x2 x3 x4), s.val.cell? ⟨ob, 2, none⟩ = some (.pointer (some ⟨r, 0, none⟩)) := fun s => s.prop.c2
        have l2 : ∀ s : Wd (CF ob oc g r 0 x1 x2 x3 x4), s.val.cell? ⟨oc, 2, none⟩ = some (.int .i64 x2) := fun s => s.prop.l.2.2.1
        have l3 : ∀ s : Wd (CF ob oc g r 0 x1 x2 x3 x4), s.val.cell? ⟨oc, 3, none⟩ = some (.int .i64 x3) := fun s => s.prop.l.2.2.2.1
        have l4 : ∀ s : Wd (CF ob oc g r 0 x1 x2 x3 x4), s.val.cell? ⟨oc, 4, none⟩ = some (.int .i64 x4) := fun s => s.prop.l.2.2.2.2
        have tc := hθ 10 (by decide)
        repeat (go_big_quiet_step (fail))
        refine wpQuiet_nil ?_
        rw [if_pos (by decide)]
        refine ⟨thOK_call [] [] 45 _ _ (by kernel_rfl) rfl (by kernel_rfl) #[.pointer (some ⟨r, 0, none⟩), .int .i64 x3, .int .i64 x4, .int .i64 x2] (by kernel_rfl) (by kernel_rfl) (fun ρ D u hq hK => ?_), ?_⟩
        · have hu := hK.pre hq.now
          subst hu
          refine (HC.out _ HS.out).mono ?_
          rintro e u2 ⟨rfl, hp⟩
          exact ⟨_, rfl, rfl, KO.mk hp⟩
        rw [tc]
        go_frame
        repeat (go_big_quiet_step (fail))
        refine wpQuiet_nil ?_
        intro u3 hK
        have hp := hK.post (by decide)
        clear hK hθ tc i1 l0 l1 l2 l3 l4
        have HF := Lib.hid (hp.done HA.out HN.out.1)
        clear hp
        go_wp2_with fail
        go_ret
        exact ⟨by first | rfl | simp, _, _, _, _, _, _, _, HF.out, HN.out.2⟩
  have k0 : (x0 == 0) = false := by simpa using h0
  clear h0
  by_cases h1 : x0 = 1
  · subst h1
    go_wp2_with fail
    clear q0 q1 q2 q3 q4
    generalize hwA : u.drew = wA at *
    have HA := Lib.hid (show BH w0 wA ob g m a c r y cy oc ts xs L 1 x1 x2 x3 x4 by rw [← hwA]; exact HB.out.drew)
    obtain ⟨er, L', hsub, hrb, hpr, hrf⟩ := move_both HA.out HR.out.1 HR.out.2.1
    have HOP := Lib.hid (And.intro hsub (And.intro hrb (And.intro hpr hrf)))
    clear hsub hrb hpr hrf
    refine wp_theta [8, 17] [8, 17] (fun i v => v = .int .i64 er) (K2 wA ob g m r oc L 1 x1 x2 x3 x4 L' 8 17) (CF ob oc g r 1 x1 x2 x3 x4) ?_ ?_ ?_ ?_ ?_ ?_ ?_ ?_ ?_ ?_
    · kernel_rfl
    · kernel_rfl
    · kernel_rfl
    · kernel_rfl
    · kernel_rfl
    · kernel_rfl
    · exact fun i hi => ⟨_, rfl⟩
    · rw [hwA]; exact HA.out.st
    · exact fun ρ D u hK => ST.cf hK
    · intro θ hθ
      simp only [SegsT, List.take_succ_cons, List.take_zero, List.drop_succ_cons, List.drop_zero, Nat.sub_zero, Nat.reduceSub, Nat.reduceAdd, List.drop_nil, List.take_nil]
      haveI i1 : Nonempty (Wd (CF ob oc g r 1 x1 x2 x3 x4)) := ⟨⟨wA, HA.out.cf⟩⟩
      have l0 : ∀ s : Wd (CF ob oc g r 1 x1 x2 x3 x4), s.val.cell? ⟨ob, 0, none⟩ = some (.pointer (some ⟨g, 0, none⟩)) := fun s => s.prop.c0
      have l1 : ∀ s : Wd (CF ob oc g r 1 x1 x2 x3 x4), s.val.cell? ⟨ob, 2, none⟩ = some (.pointer (some ⟨r, 0, none⟩)) := fun s => s.prop.c2
      have l2 : ∀ s : Wd (CF ob oc g r 1 x1 x2 x3 x4), s.val.cell? ⟨oc, 2, none⟩ = some (.int .i64 x2) := fun s => s.prop.l.2.2.1
      have l4 : ∀ s : Wd (CF ob oc g r 1 x1 x2 x3 x4), s.val.cell? ⟨oc, 4, none⟩ = some (.int .i64 x4) := fun s => s.prop.l.2.2.2.2
      have t8 := hθ 8 (by decide)
      have t17 := hθ 17 (by decide)
      repeat (go_big_quiet_step (fail))
      refine wpQuiet_nil ?_
      rw [if_pos (by decide)]
      refine ⟨thOK_call [] [] 14 _ _ (by kernel_rfl) rfl (by kernel_rfl) #[.pointer (some ⟨g, 0, none⟩), .int .i64 x2, .int .i64 x4] (by kernel_rfl) (by kernel_rfl) (fun ρ D u hq hK => ?_), ?_⟩
      · unfold K2 at hK
        rw [hq.now, if_neg (by decide)] at hK
        refine (HOP.out.2.2.1 _ u hK).mono ?_
        rintro e u2 ⟨rfl, hp⟩
        exact ⟨_, rfl, rfl, by unfold K2; rw [upd_self, if_pos rfl, upd_ne (by decide)]; exact hp⟩
      rw [t8]
      go_frame
      repeat (go_big_quiet_step (fail))
      refine wpQuiet_nil ?_
      rw [if_pos (by decide)]
      refine ⟨thOK_call [] [] 46 _ _ (by kernel_rfl) rfl (by kernel_rfl) #[.pointer (some ⟨r, 0, none⟩), .int .i64 x2, .int .i64 x4] (by kernel_rfl) (by kernel_rfl) (fun ρ D u hq hK => ?_), ?_⟩
      · unfold K2 at hK
        rw [hq.now, if_neg (c := false = true) (by decide)] at hK
        refine (HOP.out.2.2.2 _ u (by split; exact .inr rfl; exact .inl rfl) hK).mono ?_
        rintro e u2 ⟨rfl, hp⟩
        exact ⟨_, rfl, rfl, by unfold K2; rw [upd_self, if_pos (c := true = true) rfl, upd_ne (by decide)]; exact hp⟩
      rw [t17]
      go_frame
      repeat (go_big_quiet_step (fail))
      refine wpQuiet_nil ?_
      intro u3 hK
      have hp : ST wA ob g m r oc L 1 x1 x2 x3 x4 L' L' u3 := hK
      have HF := Lib.hid (hp.done HA.out (fun k q => .inl (HOP.out.1 k q)))
      clear hp hK hθ t8 t17 i1 l0 l1 l2 l4
      go_wp2_with fail
      go_ret
      exact ⟨by first | rfl | simp, _, _, _, _, _, _, _, HF.out, HOP.out.2.1⟩
  have k1 : (x0 == 1) = false := by simpa using h1
  clear h1
  by_cases h2 : x0 = 2
  · subst h2
    go_wp2_with fail
    clear q0 q1 q2 q3 q4
    generalize hwA : u.drew = wA at *
    have HA := Lib.hid (show BH w0 wA ob g m a c r y cy oc ts xs L 2 x1 x2 x3 x4 by rw [← hwA]; exact HB.out.drew)
    obtain ⟨v0, v1, v2, v3, v4, er, bb, L', hsub, hrb, hpr, hrf⟩ := drop_both HA.out HR.out.1 HR.out.2.1 HR.out.2.2
    have HOP := Lib.hid (And.intro hsub (And.intro hrb (And.intro hpr hrf)))
    have hlt : ∀ k, FR.all g m L k → k < wA.heap.size := fun k q => HA.out.w2.lp.own.fr.lt q
    have HLT := Lib.hid hlt
    clear hsub hrb hpr hrf hlt
    refine wp_theta [6, 11] [6, 11, 12] (fun i ww => (i = 6 → ww = (.tuple #[.agg #[.int .i64 v0, .int .i64 v1, .int .i64 v2, .int .i64 v3, .int .i64 v4], .bool bb, .int .i64 er])) ∧ (i = 11 → ∃ b, ww = .pointer (some ⟨b, 0, none⟩) ∧ wA.heap.size ≤ b)) (RegK wA.heap.size 6 11 12 (ST wA ob g m r oc L 2 x1 x2 x3 x4 L L) (fun ww u => ww = (.tuple #[.agg #[.int .i64 v0, .int .i64 v1, .int .i64 v2, .int .i64 v3, .int .i64 v4], .bool bb, .int .i64 er]) ∧ (ST wA ob g m r oc L 2 x1 x2 x3 x4 L' L) u) #[.int .i64 0, .int .i64 0, .int .i64 0, .int .i64 0, .int .i64 0] (fun _ => #[.int .i64 v0, .int .i64 v1, .int .i64 v2, .int .i64 v3, .int .i64 v4])) (CF ob oc g r 2 x1 x2 x3 x4) ?_ ?_ ?_ ?_ ?_ ?_ ?_ ?_ ?_ ?_
    · kernel_rfl
    · kernel_rfl
    · kernel_rfl
    · kernel_rfl
    · kernel_rfl
    · kernel_rfl
    · intro i hi
      by_cases h : i = 6
      · exact ⟨(.tuple #[.agg #[.int .i64 v0, .int .i64 v1, .int .i64 v2, .int .i64 v3, .int .i64 v4], .bool bb, .int .i64 er]), fun _ => rfl, fun e => by omega⟩
      · exact ⟨.pointer (some ⟨wA.heap.size, 0, none⟩), fun e => absurd e h, fun _ => ⟨_, rfl, Nat.le_refl _⟩⟩
    · rw [hwA]; exact ⟨by rw [if_neg (by decide)]; exact HA.out.st, Nat.le_refl _, fun q => by cases q⟩
    · exact fun ρ D u hK => by have := hK.st; split at this; (· exact this.2.cf); exact this.cf
    · intro θ hθ
      simp only [SegsT, List.take_succ_cons, List.take_zero, List.drop_succ_cons, List.drop_zero, Nat.sub_zero, Nat.reduceSub, Nat.reduceAdd, List.drop_nil, List.take_nil]
      haveI i1 : Nonempty (Wd (CF ob oc g r 2 x1 x2 x3 x4)) := ⟨⟨wA, (HA.out.st).cf⟩⟩
      have l0 : ∀ s : Wd (CF ob oc g r 2 x1 x2 x3 x4), s.val.cell? ⟨ob, 0, none⟩ = some (.pointer (some ⟨g, 0, none⟩)) := fun s => s.prop.c0
      have l1 : ∀ s : Wd (CF ob oc g r 2 x1 x2 x3 x4), s.val.cell? ⟨ob, 2, none⟩ = some (.pointer (some ⟨r, 0, none⟩)) := fun s => s.prop.c2
      have l2 : ∀ s : Wd (CF ob oc g r 2 x1 x2 x3 x4), s.val.cell? ⟨oc, 2, none⟩ = some (.int .i64 x2) := fun s => s.prop.l.2.2.1
      have tc := (hθ 6 (by decide)).1 rfl
      obtain ⟨b1, ta, hbv⟩ := (hθ 11 (by decide)).2 rfl
      repeat (go_big_quiet_step (fail))
      refine wpQuiet_nil ?_
      rw [if_pos (by decide)]
      refine ⟨thOK_call [] [12] 20 _ _ (by kernel_rfl) rfl (by kernel_rfl) #[.pointer (some ⟨g, 0, none⟩), .int .i64 x2] (by kernel_rfl) (by kernel_rfl) (fun ρ D u hq hK => ?_), ?_⟩
      · refine (RegK.call hK hq.now (hq.not 12 (by simp)) (by decide) (by decide) (Φ := fun ww => ww = (.tuple #[.agg #[.int .i64 v0, .int .i64 v1, .int .i64 v2, .int .i64 v3, .int .i64 v4], .bool bb, .int .i64 er])) (FF := PL.foot m L) (fun k q => HLT.out k (.inr q)) ?_).mono ?_
        · intro u' hu'
          refine (HOP.out.2.2.1 u' hu').mono ?_
          rintro e u2 ⟨rfl, hp, hc⟩
          exact ⟨_, rfl, rfl, ⟨rfl, hp⟩, hc⟩
        · rintro e u2 ⟨v, he, hv, hk⟩
          exact ⟨v, he, ⟨fun _ => hv, fun e => absurd e (by decide)⟩, hk⟩
      rw [tc]
      go_frame
      repeat (go_big_quiet_step (fail))
      refine wpQuiet_nil ?_
      rw [if_pos (by decide)]
      refine ⟨thOK_run [] [12] (by kernel_rfl) (by kernel_rfl) (fun ρ D u hq hK => ?_), ?_⟩
      · exact ⟨_, _, run_box_any (s := Instr.alloc 40 true (.tuple #[])) (by kernel_rfl) (alloc40 u), ⟨fun e => absurd e (by decide), fun _ => ⟨_, rfl, hK.sz⟩⟩, RegK.alloc hK hq.now (hq.not 12 (by simp)) (by decide) (by decide) (ST.firm HA.out HLT.out) ((fun v u u2 hu hc => ⟨hu.1, ST.firm HA.out (fun k q => HLT.out k (HOP.out.1 k q)) _ _ hu.2 hc⟩)) 40⟩
      rw [ta]
      go_frame
      repeat (go_big_quiet_step (fail))
      refine wpQuiet_nil ?_
      rw [if_neg (by decide)]
      refine ⟨undef, detOK_skip [6, 11] [] (by kernel_rfl) (by kernel_rfl) (fun ρ D u hq hK => ?_), ?_⟩
      · have ha := hq.gave 11 (by simp) (by decide)
        obtain ⟨b', e1, e2, e3⟩ := hK.var (hq.did 11 (by simp))
        have e4 : b1 = b' := by
          rw [ha, ta] at e1
          simpa using e1
        subst e4
        rw [hq.now, if_neg (by decide)] at e3
        obtain ⟨u2, s1, s2, s3, s4⟩ := store5 u b1 0 0 0 0 0 v0 v1 v2 v3 v4 e3
        exact ⟨u2, run_skip_any (s := Instr.storeAt 40 (.pointer (some ⟨b1, 0, none⟩)) (.agg #[.int .i64 v0, .int .i64 v1, .int .i64 v2, .int .i64 v3, .int .i64 v4])) (by kernel_rfl) s1, RegK.store hK (hq.did 11 (by simp)) (hq.did 6 (by simp)) hq.now (by decide) (by decide) ((fun v u u2 hu hc => ⟨hu.1, ST.firm HA.out (fun k q => HLT.out k (HOP.out.1 k q)) _ _ hu.2 hc⟩)) (by rw [ha, ta]) s2 s3⟩
      repeat (go_big_quiet_step (fail))
      refine wpQuiet_nil ?_
      intro u1 hK
      have hp := hK.post (by decide)
      obtain ⟨b', e1, e2, e3⟩ := hK.var (by decide)
      have e4 : b1 = b' := by
        have h9 : θ 11 = .pointer (some ⟨b', 0, none⟩) := e1
        rw [ta] at h9
        simpa using h9
      subst e4
      rw [if_pos (by decide)] at e3
      have Hu1 := Lib.hid hp.2
      have HVu1 := Lib.hid (And.intro e2 e3)
      clear hK hp e1 e2 e3 hθ tc ta hbv i1 l0 l1 l2
      obtain ⟨wB, hwB⟩ : ∃ wB, wB = u1.drew := ⟨_, rfl⟩
      have HS := Lib.hid (show STV (ST wA ob g m r oc L 2 x1 x2 x3 x4 L' L) b1 #[.int .i64 v0, .int .i64 v1, .int .i64 v2, .int .i64 v3, .int .i64 v4] wB by rw [hwB]; exact ⟨Hu1.out.drew, HVu1.out.2⟩)
      have hnn : wA.heap.size ≤ wB.heap.size := HS.out.1.ch.size
      have hbl : b1 < wB.heap.size := HS.out.2.lt
      have hrl : r < wA.heap.size := HA.out.w2.rx.rfoot.1
      have hbr : b1 ≠ r := by have := HVu1.out.1; omega
      have HF1 := Lib.hid (STV.firm (cs := #[.int .i64 v0, .int .i64 v1, .int .i64 v2, .int .i64 v3, .int .i64 v4]) hbl (Firm.mono (ST.firm (LF := L') (LR := L) HA.out (fun k q => HLT.out k (HOP.out.1 k q))) hnn))
      have HF2 := Lib.hid (STV.firm (cs := #[.int .i64 v0, .int .i64 v1, .int .i64 v2, .int .i64 v3, .int .i64 v4]) hbl (Firm.mono (ST.firm (LF := L') (LR := L') HA.out (fun k q => HLT.out k (HOP.out.1 k q))) hnn))
      have HFL := Lib.hid (show ∀ k, k = r → k < wB.heap.size from fun k q => by omega)
      have hcn0 : ∀ u, STV (ST wA ob g m r oc L 2 x1 x2 x3 x4 L' L) b1 #[.int .i64 v0, .int .i64 v1, .int .i64 v2, .int .i64 v3, .int .i64 v4] u → Calls Try.prog 44 #[.pointer (some ⟨r, 0, none⟩), .int .i64 x2] u fun e u' => e = .returned (.tuple #[.agg #[.int .i64 v0, .int .i64 v1, .int .i64 v2, .int .i64 v3, .int .i64 v4], .bool bb, .int .i64 er]) ∧ STV (ST wA ob g m r oc L 2 x1 x2 x3 x4 L' L') b1 #[.int .i64 v0, .int .i64 v1, .int .i64 v2, .int .i64 v3, .int .i64 v4] u' ∧ Ch (· = r) u u' := fun u hu => (HOP.out.2.2.2 u hu.1).mono (by
        rintro e u2 ⟨rfl, hp, hc⟩
        exact ⟨rfl, ⟨hp, hu.2.ch hc hbr⟩, hc⟩)
      have HCN := Lib.hid hcn0
      clear hcn0
      have hwB' : u1.drew = wB := hwB.symm
      clear hwB hnn hbl hrl hbr
      go_wp2_with fail
      refine wp_theta [6, 11] [6, 11, 12] (fun i ww => (i = 6 → ww = (.tuple #[.agg #[.int .i64 v0, .int .i64 v1, .int .i64 v2, .int .i64 v3, .int .i64 v4], .bool bb, .int .i64 er])) ∧ (i = 11 → ∃ b, ww = .pointer (some ⟨b, 0, none⟩) ∧ wB.heap.size ≤ b)) (RegK wB.heap.size 6 11 12 (STV (ST wA ob g m r oc L 2 x1 x2 x3 x4 L' L) b1 #[.int .i64 v0, .int .i64 v1, .int .i64 v2, .int .i64 v3, .int .i64 v4]) (fun ww u => ww = (.tuple #[.agg #[.int .i64 v0, .int .i64 v1, .int .i64 v2, .int .i64 v3, .int .i64 v4], .bool bb, .int .i64 er]) ∧ (STV (ST wA ob g m r oc L 2 x1 x2 x3 x4 L' L') b1 #[.int .i64 v0, .int .i64 v1, .int .i64 v2, .int .i64 v3, .int .i64 v4]) u) #[.int .i64 0, .int .i64 0, .int .i64 0, .int .i64 0, .int .i64 0] (fun _ => #[.int .i64 v0, .int .i64 v1, .int .i64 v2, .int .i64 v3, .int .i64 v4])) (CF ob oc g r 2 x1 x2 x3 x4) ?_ ?_ ?_ ?_ ?_ ?_ ?_ ?_ ?_ ?_
      · kernel_rfl
      · kernel_rfl
      · kernel_rfl
      · kernel_rfl
      · kernel_rfl
      · kernel_rfl
      · intro i hi
        by_cases h : i = 6
        · exact ⟨(.tuple #[.agg #[.int .i64 v0, .int .i64 v1, .int .i64 v2, .int .i64 v3, .int .i64 v4], .bool bb, .int .i64 er]), fun _ => rfl, fun e => by omega⟩
        · exact ⟨.pointer (some ⟨wB.heap.size, 0, none⟩), fun e => absurd e h, fun _ => ⟨_, rfl, Nat.le_refl _⟩⟩
      · rw [hwB']; exact ⟨by rw [if_neg (by decide)]; exact HS.out, Nat.le_refl _, fun q => by cases q⟩
      · exact fun ρ D u hK => by have := hK.st; split at this; (· exact this.2.1.cf); exact this.1.cf
      · intro θ hθ
        simp only [SegsT, List.take_succ_cons, List.take_zero, List.drop_succ_cons, List.drop_zero, Nat.sub_zero, Nat.reduceSub, Nat.reduceAdd, List.drop_nil, List.take_nil]
        haveI i1 : Nonempty (Wd (CF ob oc g r 2 x1 x2 x3 x4)) := ⟨⟨wB, (HS.out).1.cf⟩⟩
        have l0 : ∀ s : Wd (CF ob oc g r 2 x1 x2 x3 x4), s.val.cell? ⟨ob, 0, none⟩ = some (.pointer (some ⟨g, 0, none⟩)) := fun s => s.prop.c0
        have l1 : ∀ s : Wd (CF ob oc g r 2 x1 x2 x3 x4), s.val.cell? ⟨ob, 2, none⟩ = some (.pointer (some ⟨r, 0, none⟩)) := fun s => s.prop.c2
        have l2 : ∀ s : Wd (CF ob oc g r 2 x1 x2 x3 x4), s.val.cell? ⟨oc, 2, none⟩ = some (.int .i64 x2) := fun s => s.prop.l.2.2.1
        have tc := (hθ 6 (by decide)).1 rfl
        obtain ⟨b2, ta, hbv⟩ := (hθ 11 (by decide)).2 rfl
        repeat (go_big_quiet_step (fail))
        refine wpQuiet_nil ?_
        rw [if_pos (by decide)]
        refine ⟨thOK_call [] [12] 44 _ _ (by kernel_rfl) rfl (by kernel_rfl) #[.pointer (some ⟨r, 0, none⟩), .int .i64 x2] (by kernel_rfl) (by kernel_rfl) (fun ρ D u hq hK => ?_), ?_⟩
        · refine (RegK.call hK hq.now (hq.not 12 (by simp)) (by decide) (by decide) (Φ := fun ww => ww = (.tuple #[.agg #[.int .i64 v0, .int .i64 v1, .int .i64 v2, .int .i64 v3, .int .i64 v4], .bool bb, .int .i64 er])) (FF := (· = r)) HFL.out ?_).mono ?_
          · intro u' hu'
            refine (HCN.out u' hu').mono ?_
            rintro e u2 ⟨rfl, hp, hc⟩
            exact ⟨_, rfl, rfl, ⟨rfl, hp⟩, hc⟩
          · rintro e u2 ⟨v, he, hv, hk⟩
            exact ⟨v, he, ⟨fun _ => hv, fun e => absurd e (by decide)⟩, hk⟩
        rw [tc]
        go_frame
        repeat (go_big_quiet_step (fail))
        refine wpQuiet_nil ?_
        rw [if_pos (by decide)]
        refine ⟨thOK_run [] [12] (by kernel_rfl) (by kernel_rfl) (fun ρ D u hq hK => ?_), ?_⟩
        · exact ⟨_, _, run_box_any (s := Instr.alloc 40 true (.tuple #[])) (by kernel_rfl) (alloc40 u), ⟨fun e => absurd e (by decide), fun _ => ⟨_, rfl, hK.sz⟩⟩, RegK.alloc hK hq.now (hq.not 12 (by simp)) (by decide) (by decide) (HF1.out) ((fun v u u2 hu hc => ⟨hu.1, HF2.out _ _ hu.2 hc⟩)) 40⟩
        rw [ta]
        go_frame
        repeat (go_big_quiet_step (fail))
        refine wpQuiet_nil ?_
        rw [if_neg (by decide)]
        refine ⟨undef, detOK_skip [6, 11] [] (by kernel_rfl) (by kernel_rfl) (fun ρ D u hq hK => ?_), ?_⟩
        · have ha := hq.gave 11 (by simp) (by decide)
          obtain ⟨b', e1, e2, e3⟩ := hK.var (hq.did 11 (by simp))
          have e4 : b2 = b' := by
            rw [ha, ta] at e1
            simpa using e1
          subst e4
          rw [hq.now, if_neg (by decide)] at e3
          obtain ⟨u2, s1, s2, s3, s4⟩ := store5 u b2 0 0 0 0 0 v0 v1 v2 v3 v4 e3
          exact ⟨u2, run_skip_any (s := Instr.storeAt 40 (.pointer (some ⟨b2, 0, none⟩)) (.agg #[.int .i64 v0, .int .i64 v1, .int .i64 v2, .int .i64 v3, .int .i64 v4])) (by kernel_rfl) s1, RegK.store hK (hq.did 11 (by simp)) (hq.did 6 (by simp)) hq.now (by decide) (by decide) ((fun v u u2 hu hc => ⟨hu.1, HF2.out _ _ hu.2 hc⟩)) (by rw [ha, ta]) s2 s3⟩
        repeat (go_big_quiet_step (fail))
        refine wpQuiet_nil ?_
        intro u2 hK
        have hp := hK.post (by decide)
        obtain ⟨b', e1, e2, e3⟩ := hK.var (by decide)
        have e4 : b2 = b' := by
          have h9 : θ 11 = .pointer (some ⟨b', 0, none⟩) := e1
          rw [ta] at h9
          simpa using h9
        subst e4
        rw [if_pos (by decide)] at e3
        have Hu2 := Lib.hid hp.2
        have HVu2 := Lib.hid (And.intro e2 e3)
        clear hK hp e1 e2 e3 hθ tc ta hbv i1 l0 l1 l2
        have HF := Lib.hid (Hu2.out.1.done HA.out (fun k q => .inl (HOP.out.1 k q)))
        obtain ⟨y1, y2, y3, y4⟩ := Hu2.out.2.all
        obtain ⟨z1, z2, z3, z4⟩ := HVu2.out.2.all
        have he := eql40 v0 v1 v2 v3 v4
        go_wp2_with fail
        go_ret
        exact ⟨by first | rfl | simp, _, _, _, _, _, _, _, HF.out, HOP.out.2.1⟩
  have k2 : (x0 == 2) = false := by simpa using h2
  clear h2
  by_cases h7 : x0 = 7
  · subst h7
    obtain ⟨n, hn⟩ : ∃ n, n = ts.length := ⟨_, rfl⟩
    obtain ⟨nx, hnx⟩ : ∃ nx, nx = xs.length := ⟨_, rfl⟩
    have HN := Lib.hid (And.intro hn hnx)
    have z1 : u.cell? ⟨ob, 1, none⟩ = some (.slice (some ⟨a, 0, none⟩) n c) := by rw [hn]; exact HB.out.w2.lp.own.cells.2.1
    have z0 := HB.out.cf.c0
    clear hn hnx
    by_cases h12 : n < 12
    · have h12' : decide ((n : Int) < 12) = true := decide_eq_true (by omega)
      go_wp2_with fail
      refine (table_ok HB.out.w2.lp.own.fr).mono ?_
      rintro e u1 ⟨rfl, hT, hb⟩
      obtain ⟨t, ht⟩ : ∃ t, t = u.heap.size := ⟨_, rfl⟩
      rw [← ht] at hT ⊢
      obtain ⟨wA, hwA⟩ : ∃ wA, wA = u1.drew := ⟨_, rfl⟩
      obtain ⟨DX, hDX⟩ : ∃ DX : List Int, DX = List.replicate 16 (-1) := ⟨_, rfl⟩
      have hW := HB.out.w2
      have hlt : ∀ k, Own2 ob g m a r y ts xs L k → k ≠ t := fun k q => by have := hW.lt q; omega
      have hAB : AB w0 wA ob g m a c r y cy t ts xs L L DX := by
        rw [hwA, hDX]
        have h2 := (hW.below hb).drew
        exact ⟨h2.lp, h2.rx, h2.sep, h2.new, hT.drew, fun q => hlt t (.inl q) rfl, by have := hW.lp.bel.size; omega, ⟨fun e => hlt r (.inr (.inl rfl)) e.symm, fun e => hlt y (.inr (.inr (.inl rfl))) e.symm, fun e => hlt t (.inr (.inr (.inr e))) rfl⟩, by rw [← HN.out.1]; exact h12⟩
      have HAB0 := Lib.hid hAB
      have hwA' : u1.drew = wA := hwA.symm
      obtain ⟨tv, htv⟩ : ∃ tv, tv = tptr ts := ⟨_, rfl⟩
      obtain ⟨xv, hxv⟩ : ∃ xv, xv = xptr xs := ⟨_, rfl⟩
      have HAO := Lib.hid hAB.ao
      have hn12 : n ≤ 12 ∧ nx ≤ 12 := by
        have := hW.rx.xl
        have := HN.out
        omega
      have HN12 := Lib.hid hn12
      have HTV := Lib.hid (And.intro htv hxv)
      have HDX := Lib.hid hDX
      have hst0 := hAB.start
      rw [← HN.out.1, ← HN.out.2, ← htv, ← hxv] at hst0
      have HST := Lib.hid hst0
      clear hT hb ht hwA hDX hW hlt hAB htv hxv hn12 hst0 z0 z1 q0 q1 q2 q3 q4
      go_wp2_with fail
      refine wp_theta [7, 8, 18, 19, 20] [5, 7, 8, 12, 18, 19, 20, 23, 26] (fun i ww => ((i = 7 ∨ i = 19) → ∃ b, ww = .slice (some ⟨b, 0, none⟩) 1 1) ∧ (i = 8 → ∃ A c', ww = .slice A (n + 1) c') ∧ (i = 20 → ∃ A c', ww = .slice A (nx + 1) c') ∧ (i = 18 → ∃ z, ww = .pointer (some ⟨z, 0, none⟩))) (AKK wA ob g r a n c y nx cy t tv xv DX L L 7 8 18 19 20 23 26) (CO ob r) ?_ ?_ ?_ ?_ ?_ ?_ ?_ ?_ ?_ ?_
      · kernel_rfl
      · kernel_rfl
      · kernel_rfl
      · kernel_rfl
      · kernel_rfl
      · kernel_rfl
      · intro i hi
        by_cases h1 : i = 7 ∨ i = 19
        · exact ⟨.slice (some ⟨0, 0, none⟩) 1 1, fun _ => ⟨_, rfl⟩, fun e => by omega, fun e => by omega, fun e => by omega⟩
        · by_cases h2 : i = 8
          · exact ⟨.slice none (n + 1) 0, fun e => absurd e h1, fun _ => ⟨_, _, rfl⟩, fun e => by omega, fun e => by omega⟩
          · by_cases h3 : i = 20
            · exact ⟨.slice none (nx + 1) 0, fun e => absurd e h1, fun e => absurd e h2, fun _ => ⟨_, _, rfl⟩, fun e => by omega⟩
            · exact ⟨.pointer (some ⟨0, 0, none⟩), fun e => absurd e h1, fun e => absurd e h2, fun e => absurd e h3, fun _ => ⟨_, rfl⟩⟩
      · rw [hwA']; exact AKs.cast HST.out rfl rfl rfl rfl rfl rfl rfl
      · exact fun ρ D u hK => (AKs.cells hK).2.2.1
      · intro θ hθ
        simp only [SegsT, List.take_succ_cons, List.take_zero, List.drop_succ_cons, List.drop_zero, Nat.sub_zero, Nat.reduceSub, Nat.reduceAdd, List.drop_nil, List.take_nil]
        haveI i1 : Nonempty (Wd (CO ob r)) := ⟨⟨wA, (AKs.cells HST.out).2.2.1⟩⟩
        have l2 : ∀ s : Wd (CO ob r), s.val.cell? ⟨ob, 2, none⟩ = some (.pointer (some ⟨r, 0, none⟩)) := fun s => s.prop
        obtain ⟨b7, t7⟩ := (hθ 7 (by decide)).1 (.inl rfl)
        obtain ⟨b19, t19⟩ := (hθ 19 (by decide)).1 (.inr rfl)
        obtain ⟨A8, c8, t8⟩ := (hθ 8 (by decide)).2.1 rfl
        obtain ⟨A20, c20, t20⟩ := (hθ 20 (by decide)).2.2.1 rfl
        obtain ⟨xn, t18⟩ := (hθ 18 (by decide)).2.2.2 rfl
        repeat (go_big_quiet_step (fail))
        refine wpQuiet_nil ?_
        rw [if_neg (by decide)]
        refine ⟨.slice (some ⟨a, 0, none⟩) n c, detOK_run [] [23] (by kernel_rfl) (by kernel_rfl) (fun ρ D u hq hK => ?_), ?_⟩
        · have hn := hq.not 23 (by simp)
          exact ⟨u, run_box_any (s := Instr.loadAt 28 (.pointer (some ⟨ob, 1, none⟩))) (by kernel_rfl) (load_one 28 _ _ _ (by kernel_rfl) ((AKs.cells hK).2.1 hn)), AKs.cast hK (by simp [opv, upd, setV]) (by simp [opv, upd, setV]) (by simp [opv, upd, setV]) (by simp [opv, upd, setV]) (by simp [opv, upd, setV]) (by simp [upd]) (by simp [upd])⟩
        go_frame
        repeat (go_big_quiet_step (fail))
        refine wpQuiet_nil ?_
        rw [if_pos (by decide)]
        refine ⟨thOK_run [] [] (by kernel_rfl) (by kernel_rfl) (fun ρ D u hq hK => ?_), ?_⟩
        · have hK' : AKs wA ob g r a n c y nx cy t tv xv DX L L none _ _ _ _ _ _ u := AKs.cast hK (by rw [hq.now]; rfl) rfl rfl rfl rfl rfl rfl
          exact ⟨_, _, run_box_any (s := Instr.buildSlice 28 1 #[(0, .pointer (some ⟨t, 0, none⟩))]) (by kernel_rfl) (bs28 t u), ⟨fun _ => ⟨_, rfl⟩, fun e => absurd e (by decide), fun e => absurd e (by decide), fun e => absurd e (by decide)⟩, AKs.cast (hK'.s7 HAO.out) (by simp [opv, upd, setV]) (by simp [opv, upd, setV]) (by simp [opv, upd, setV]) (by simp [opv, upd, setV]) (by simp [opv, upd, setV]) (by simp [upd]) (by simp [upd])⟩
        rw [t7]
        go_frame
        repeat (go_big_quiet_step (fail))
        refine wpQuiet_nil ?_
        rw [if_pos (by decide)]
        refine ⟨thOK_run [7] [23] (by kernel_rfl) (by kernel_rfl) (fun ρ D u hq hK => ?_), ?_⟩
        · have hg := hq.gave 7 (by simp) (by decide)
          rw [t7] at hg
          have hK' : AKs wA ob g r a n c y nx cy t tv xv DX L L (some (.slice (some ⟨b7, 0, none⟩) 1 1)) none _ _ _ false _ u := AKs.cast hK (by rw [hq.did 7 (by simp), hg]; rfl) (by rw [hq.now]; rfl) rfl rfl rfl (hq.not 23 (by simp)) rfl
          obtain ⟨A, c', w', e1, e2⟩ := hK'.s8 HAO.out HN12.out.1 28
          exact ⟨_, w', run_box_any (s := Builtin.append_ #[28, 28] 28 #[.slice (some ⟨a, 0, none⟩) n c, .slice (some ⟨b7, 0, none⟩) 1 1]) (by kernel_rfl) e1, ⟨fun e => absurd e (by decide), fun _ => ⟨A, c', rfl⟩, fun e => absurd e (by decide), fun e => absurd e (by decide)⟩, AKs.cast e2 (by simp [opv, upd, setV, hq.did 7 (by simp), hg]) (by simp [opv, upd, setV]) (by simp [opv, upd, setV]) (by simp [opv, upd, setV]) (by simp [opv, upd, setV]) (by simp [upd, hq.not 23 (by simp)]) (by simp [upd])⟩
        rw [t8]
        go_frame
        repeat (go_big_quiet_step (fail))
        refine wpQuiet_nil ?_
        rw [if_neg (by decide)]
        refine ⟨.slice (some ⟨y, 0, none⟩) nx cy, detOK_run [] [26] (by kernel_rfl) (by kernel_rfl) (fun ρ D u hq hK => ?_), ?_⟩
        · have hn := hq.not 26 (by simp)
          exact ⟨u, run_box_any (s := Instr.loadAt 30 (.pointer (some ⟨ob, 3, none⟩))) (by kernel_rfl) (load_one 30 _ _ _ (by kernel_rfl) ((AKs.cells hK).2.2.2.1 hn)), AKs.cast hK (by simp [opv, upd, setV]) (by simp [opv, upd, setV]) (by simp [opv, upd, setV]) (by simp [opv, upd, setV]) (by simp [opv, upd, setV]) (by simp [upd]) (by simp [upd])⟩
        go_frame
        repeat (go_big_quiet_step (fail))
        refine wpQuiet_nil ?_
        rw [if_pos (by decide)]
        refine ⟨thOK_run [] [19, 20] (by kernel_rfl) (by kernel_rfl) (fun ρ D u hq hK => ?_), ?_⟩
        · have hK' : AKs wA ob g r a n c y nx cy t tv xv DX L L _ _ none none none _ _ u := AKs.cast hK rfl rfl (by rw [hq.now]; rfl) (by rw [hq.not 19 (by simp)]; rfl) (by rw [hq.not 20 (by simp)]; rfl) rfl rfl
          have hbb : Below u.heap.size u (u.alloc (.cells #[.pointer (some ⟨r, 0, none⟩), .int .i64 0, .int .i64 0, .int .i64 0, .int .i64 0, .int .i64 0, .int .i64 0, .int .i64 0, .int .i64 0, .int .i64 0, .int .i64 0, .int .i64 0, .int .i64 0, .int .i64 0, .int .i64 0, .int .i64 0, .int .i64 0] 69)) := (Below.refl _ _).alloc (Nat.le_refl _) _
          have hX : XR (u.alloc (.cells #[.pointer (some ⟨r, 0, none⟩), .int .i64 0, .int .i64 0, .int .i64 0, .int .i64 0, .int .i64 0, .int .i64 0, .int .i64 0, .int .i64 0, .int .i64 0, .int .i64 0, .int .i64 0, .int .i64 0, .int .i64 0, .int .i64 0, .int .i64 0, .int .i64 0] 69)) u.heap.size r DX := ⟨by rw [HDX.out]; exact Blk.of_heap (t := 69) (heap_at rfl), by rw [HDX.out]; rfl, fun v hv => by rw [HDX.out] at hv; have := List.eq_of_mem_replicate hv; omega⟩
          exact ⟨_, _, run_box_any (s := Instr.box 69 (.agg #[.pointer (some ⟨r, 0, none⟩), .int .i64 0, .int .i64 0, .int .i64 0, .int .i64 0, .int .i64 0, .int .i64 0, .int .i64 0, .int .i64 0, .int .i64 0, .int .i64 0, .int .i64 0, .int .i64 0, .int .i64 0, .int .i64 0, .int .i64 0, .int .i64 0])) (by kernel_rfl) (box69 r u), ⟨fun e => absurd e (by decide), fun e => absurd e (by decide), fun e => absurd e (by decide), fun _ => ⟨_, rfl⟩⟩, AKs.cast (hK'.s18 HAO.out (Nat.le_refl _) hX (hK'.rf.below hbb) (Ch.of_below hbb)) (by simp [opv, upd, setV]) (by simp [opv, upd, setV]) (by simp [opv, upd, setV]) (by simp [opv, upd, setV, hq.not 19 (by simp)]) (by simp [opv, upd, setV, hq.not 20 (by simp)]) (by simp [upd]) (by simp [upd])⟩
        rw [t18]
        go_frame
        repeat (go_big_quiet_step (fail))
        refine wpQuiet_nil ?_
        rw [if_pos (by decide)]
        refine ⟨thOK_run [18] [] (by kernel_rfl) (by kernel_rfl) (fun ρ D u hq hK => ?_), ?_⟩
        · have hg := hq.gave 18 (by simp) (by decide)
          rw [t18] at hg
          have hK' : AKs wA ob g r a n c y nx cy t tv xv DX L L _ _ (some (.pointer (some ⟨xn, 0, none⟩))) none _ _ _ u := AKs.cast hK rfl rfl (by rw [hq.did 18 (by simp), hg]; rfl) (by rw [hq.now]; rfl) rfl rfl rfl
          exact ⟨_, _, run_box_any (s := Instr.buildSlice 30 1 #[(0, .pointer (some ⟨xn, 0, none⟩))]) (by kernel_rfl) (bs30 _ rfl u), ⟨fun _ => ⟨_, rfl⟩, fun e => absurd e (by decide), fun e => absurd e (by decide), fun e => absurd e (by decide)⟩, AKs.cast (hK'.s19 HAO.out) (by simp [opv, upd, setV]) (by simp [opv, upd, setV]) (by simp [opv, upd, setV, hq.did 18 (by simp), hg]) (by simp [opv, upd, setV]) (by simp [opv, upd, setV]) (by simp [upd]) (by simp [upd])⟩
        rw [t19]
        go_frame
        repeat (go_big_quiet_step (fail))
        refine wpQuiet_nil ?_
        rw [if_pos (by decide)]
        refine ⟨thOK_run [18, 19] [26] (by kernel_rfl) (by kernel_rfl) (fun ρ D u hq hK => ?_), ?_⟩
        · have hg := hq.gave 19 (by simp) (by decide)
          have hg18 := hq.gave 18 (by simp) (by decide)
          rw [t19] at hg
          rw [t18] at hg18
          have hK' : AKs wA ob g r a n c y nx cy t tv xv DX L L _ _ (some (.pointer (some ⟨xn, 0, none⟩))) (some (.slice (some ⟨b19, 0, none⟩) 1 1)) none _ false u := AKs.cast hK rfl rfl (by rw [hq.did 18 (by simp), hg18]; rfl) (by rw [hq.did 19 (by simp), hg]; rfl) (by rw [hq.now]; rfl) rfl (hq.not 26 (by simp))
          obtain ⟨A, c', w', e1, e2⟩ := hK'.s20 HAO.out HN12.out.2 30
          exact ⟨_, w', run_box_any (s := Builtin.append_ #[30, 30] 30 #[.slice (some ⟨y, 0, none⟩) nx cy, .slice (some ⟨b19, 0, none⟩) 1 1]) (by kernel_rfl) e1, ⟨fun e => absurd e (by decide), fun e => absurd e (by decide), fun _ => ⟨A, c', rfl⟩, fun e => absurd e (by decide)⟩, AKs.cast e2 (by simp [opv, upd, setV]) (by simp [opv, upd, setV]) (by simp [opv, upd, setV, hq.did 18 (by simp), hg18]) (by simp [opv, upd, setV, hq.did 19 (by simp), hg]) (by simp [opv, upd, setV]) (by simp [upd]) (by simp [upd, hq.not 26 (by simp)])⟩
        rw [t20]
        go_frame
        repeat (go_big_quiet_step (fail))
        refine wpQuiet_nil ?_
        rw [if_neg (by decide)]
        refine ⟨undef, detOK_skip [8] [] (by kernel_rfl) (by kernel_rfl) (fun ρ D u hq hK => ?_), ?_⟩
        · have hg := hq.gave 8 (by simp) (by decide)
          rw [t8] at hg
          have hK' : AKs wA ob g r a n c y nx cy t tv xv DX L L _ (some (.slice A8 (n + 1) c8)) _ _ _ false _ u := AKs.cast hK rfl (by rw [hq.did 8 (by simp), hg]; rfl) rfl rfl rfl hq.now rfl
          obtain ⟨-, -, -, -, hcs, hfz⟩ := hK'.cells
          obtain ⟨vv, hvv⟩ := Option.isSome_iff_exists.1 (hcs 1 (by omega))
          exact ⟨_, run_skip_any (s := Instr.storeAt 28 (.pointer (some ⟨ob, 1, none⟩)) (.slice A8 (n + 1) c8)) (by kernel_rfl) (store_cell 28 _ _ vv u (by kernel_rfl) rfl hvv (hfz 1)), AKs.cast (hK'.s23 HAO.out) (by simp [opv, upd]) (by simp [opv, upd, hq.did 8 (by simp), hg]) (by simp [opv, upd]) (by simp [opv, upd]) (by simp [opv, upd]) (by simp [upd]) (by simp [upd])⟩
        repeat (go_big_quiet_step (fail))
        refine wpQuiet_nil ?_
        rw [if_neg (by decide)]
        refine ⟨undef, detOK_skip [20] [] (by kernel_rfl) (by kernel_rfl) (fun ρ D u hq hK => ?_), ?_⟩
        · have hg := hq.gave 20 (by simp) (by decide)
          rw [t20] at hg
          have hK' : AKs wA ob g r a n c y nx cy t tv xv DX L L _ _ _ _ (some (.slice A20 (nx + 1) c20)) _ false u := AKs.cast hK rfl rfl rfl rfl (by rw [hq.did 20 (by simp), hg]; rfl) rfl hq.now
          obtain ⟨-, -, -, -, hcs, hfz⟩ := hK'.cells
          obtain ⟨vv, hvv⟩ := Option.isSome_iff_exists.1 (hcs 3 (by omega))
          exact ⟨_, run_skip_any (s := Instr.storeAt 30 (.pointer (some ⟨ob, 3, none⟩)) (.slice A20 (nx + 1) c20)) (by kernel_rfl) (store_cell 30 _ _ vv u (by kernel_rfl) rfl hvv (hfz 3)), AKs.cast (hK'.s26 HAO.out) (by simp [opv, upd]) (by simp [opv, upd]) (by simp [opv, upd]) (by simp [opv, upd]) (by simp [opv, upd, hq.did 20 (by simp), hg]) (by simp [upd]) (by simp [upd])⟩
        repeat (go_big_quiet_step (fail))
        refine wpQuiet_nil ?_
        intro u3 hK
        have hK9 : AKs wA ob g r a n c y nx cy t tv xv DX L L (some (θ 7)) (some (θ 8)) (some (θ 18)) (some (θ 19)) (some (θ 20)) true true u3 := hK
        clear hK t7 t8 t18 t19 t20 i1 l2
        rw [HN.out.1, HN.out.2, HTV.out.1, HTV.out.2] at hK9
        obtain ⟨a2, c2, y2, cy2, x2', hF⟩ := hK9.done HAB0.out
        have HF := Lib.hid hF
        clear hK9 hF hθ
        go_wp2_with fail
        go_ret
        exact ⟨by first | rfl | simp, _, _, _, _, _, _, _, HF.out, HR.out.1.mono (by omega)⟩
    · have h12' : decide ((n : Int) < 12) = false := decide_eq_false (by omega)
      go_wp2_with fail
      go_ret
      exact ⟨by first | rfl | simp, _, _, _, _, _, _, _, HB.out.w2, HR.out.1.mono (by omega)⟩
  · have k7 : (x0 == 7) = false := by simpa using h7
    clear h7
    have hld : (Instr.loadAt 26 (.pointer (some ⟨oc, 0, none⟩))).run Try.prog u = .ok (.agg #[.int .i64 x0, .int .i64 x1, .int .i64 x2, .int .i64 x3, .int .i64 x4]) u := HB.out.op.load (ty := 26) (d := (Try.prog.underlying 26).getD default) (by kernel_rfl) (by kernel_rfl) (by kernel_rfl)
    clear q1 q2 q3 q4
    go_wp2_with (first | (refine wpList_load_run rfl 26 (.tmp 3) rfl (.pointer (some ⟨oc, 0, none⟩)) rfl hld ?_) | fail)
    refine (looks_ok HB.out.w2 x0 x1 x2 x3 x4).mono ?_
    rintro e u1 ⟨rfl, hb⟩
    have HF := Lib.hid (HB.out.w2.below hb)
    clear hb
    go_wp2_with fail
    go_ret
    exact ⟨by first | rfl | simp, _, _, _, _, _, _, _, HF.out, HR.out.1.mono (by omega)⟩
end
end Go.Proofs.Ythbbiobffoihaaa
