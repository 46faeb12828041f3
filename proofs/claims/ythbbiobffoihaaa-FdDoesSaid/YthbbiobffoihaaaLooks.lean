import Derived.Test.YthbbiobffoihaaaDw
import Derived.Test.YthbbiobffoihaaaAwake
/- looks: its walk. -/
namespace Go.Proofs.Ythbbiobffoihaaa
open Go.RowKit Go.BigFrame
set_option linter.unusedVariables false
set_option linter.unusedSimpArgs false
attribute [local go_sem] szIs_lit row_at row_past row_alloc nf_alloc row_set nf_set row_cell nf_cell row_drew nf_drew row_drewN nf_drewN cell_setRow frozen_setRow nlt1 nlt2 nlt3 nlt4 nne1 nne2 nne3 nen1 nen2 nen3
set_option maxRecDepth 100000
/-- Nothing old has changed. -/
def BW (wA u : World) : Prop := Below wA.heap.size wA u
theorem BW.refl (w : World) : BW w w := Below.refl _ _
theorem BW.trans {wA u u' : World} (h : BW wA u) (hb : Below u.heap.size u u') : BW wA u' := Below.trans h (Below.mono hb (Below.size h))
theorem BW.tr {a b c : World} (h : BW a b) (h2 : BW b c) : BW a c := Below.trans h (Below.mono h2 (Below.size h))
theorem BW.dr {a b : World} (h : BW a b) : BW a b.drew := Below.drew h
theorem BW.firm (wA : World) : Firm wA.heap.size (BW wA) := fun u u' h hc => Below.trans h (hc.below (B := wA.heap.size) (fun k hk q => by omega) (Below.size h))
theorem BW.firm2 (wA : World) (V v : Value) : Firm wA.heap.size (fun u => v = V ∧ BW wA u) := fun u u' h hc => ⟨h.1, BW.firm wA u u' h.2 hc⟩
theorem BW.cell {wA u : World} (h : BW wA u) {p : Addr} {v : Value} (hc : wA.cell? p = some v) : u.cell? p = some v := (Below.cell h (cell_lt hc)).trans hc
theorem BW.blk {wA u : World} (h : BW wA u) {g : Nat} {c : Array Value} (hc : Blk wA g c) : Blk u g c := hc.same (Below.block h g hc.lt)
theorem alloc40 (w : World) : (Instr.alloc 40 true (.tuple #[])).run Try.prog w = .ok (.pointer (some ⟨w.heap.size, 0, none⟩)) (w.alloc (.cells #[.int .i64 0, .int .i64 0, .int .i64 0, .int .i64 0, .int .i64 0] 40)) := by kernel_rfl
theorem neq40 (a b c d e : Int) (w : World) : (binOp .neq 40 (.agg #[.int .i64 a, .int .i64 b, .int .i64 c, .int .i64 d, .int .i64 e]) (.agg #[.int .i64 a, .int .i64 b, .int .i64 c, .int .i64 d, .int .i64 e])).run Try.prog w = .ok (.bool false) w := by
  simp [go_sem]
section
variable {w0 w : World} {ob g m a c r y cy : Nat} {ts : TS} {xs : List Nat} {L : PL Fl}
/-- What a number finds in L, as Get of both tells it. -/
def getf (L : PL Fl) (x : Int) : Fl := match PL.get L x with | some q => q.2 | none => Fl.zero
def gete (L : PL Fl) (x : Int) : Int := match PL.get L x with | some _ => 0 | none => 221
theorem fget_all {w : World} (h : FR w g m L) (x : Int) : Calls Try.prog 19 #[.pointer (some ⟨g, 0, none⟩), .int .i64 x] w fun e w' => e = .returned (.tuple #[.agg (getf L x).cells, .int .i64 (gete L x)]) ∧ Below w.heap.size w w' := by
  cases hg : PL.get L x with
  | none => rw [show getf L x = Fl.zero by unfold getf; rw [hg], show gete L x = 221 by unfold gete; rw [hg]]; exact fget_no h hg
  | some q => rw [show getf L x = q.2 by unfold getf; rw [hg], show gete L x = 0 by unfold gete; rw [hg]]; exact fget_yes (b := q.1) h hg
theorem rget_all {w : World} (h : RF w r L) (x : Int) : Calls Try.prog 35 #[.pointer (some ⟨r, 0, none⟩), .int .i64 x] w fun e w' => e = .returned (.tuple #[.agg (getf L x).cells, .int .i64 (gete L x)]) ∧ Below w.heap.size w w' := by
  cases hg : PL.get L x with
  | none => rw [show getf L x = Fl.zero by unfold getf; rw [hg], show gete L x = 221 by unfold gete; rw [hg]]; exact rget_no h hg
  | some q =>
    rw [show getf L x = q.2 by unfold getf; rw [hg], show gete L x = 0 by unfold gete; rw [hg]]
    obtain ⟨i, rfl, hi⟩ := h.isIn hg
    exact rget_yes (b := q.1) h hi hg
/-- A slice of numbers, and where it can be read. -/
def RowS (l : List Int) (v : Value) (u : World) : Prop := ∃ A c, v = .slice A l.length c ∧ Rw u 3 1 A l.length c (iv l)
theorem RowS.below {l : List Int} {v : Value} {u u' : World} (h : RowS l v u) (hb : Below u.heap.size u u') : RowS l v u' := by
  obtain ⟨A, c, e, hr⟩ := h
  exact ⟨A, c, e, hr.below hb⟩
/-- Two such slices, made by two operations. -/
structure LK (wC : World) (l : List Int) (p q : Nat) (ρ : Nat → Value) (D : Nat → Bool) (u : World) : Prop where
  bw : BW wC u
  r1 : D p = true → RowS l (ρ p) u
  r2 : D q = true → RowS l (ρ q) u
theorem LK.start (wC : World) (l : List Int) (p q : Nat) (ρ : Nat → Value) : LK wC l p q ρ (fun _ => false) wC := ⟨BW.refl _, (fun e => absurd e (by decide)), (fun e => absurd e (by decide))⟩
theorem LK.idle {wC : World} {l : List Int} {p q : Nat} {ρ : Nat → Value} {D : Nat → Bool} {u : World} (h : LK wC l p q ρ D u) {i : Nat} (h1 : p ≠ i) (h2 : q ≠ i) : LK wC l p q ρ (upd D i) u := ⟨h.bw, by rw [upd_ne h1]; exact h.r1, by rw [upd_ne h2]; exact h.r2⟩
theorem LK.other {wC : World} {l : List Int} {p q : Nat} {ρ : Nat → Value} {D : Nat → Bool} {u u' : World} (h : LK wC l p q ρ D u) {i : Nat} (h1 : p ≠ i) (h2 : q ≠ i) (v : Value) (hb : Below u.heap.size u u') : LK wC l p q (setV ρ i v) (upd D i) u' :=
  ⟨BW.trans h.bw hb, by rw [upd_ne h1, setV_ne ρ v h1]; exact fun e => (h.r1 e).below hb, by rw [upd_ne h2, setV_ne ρ v h2]; exact fun e => (h.r2 e).below hb⟩
theorem LK.one {wC : World} {l : List Int} {p q : Nat} {ρ : Nat → Value} {D : Nat → Bool} {u u' : World} (h : LK wC l p q ρ D u) (h2 : q ≠ p) (v : Value) (hb : Below u.heap.size u u') (hv : RowS l v u') : LK wC l p q (setV ρ p v) (upd D p) u' :=
  ⟨BW.trans h.bw hb, fun _ => by rw [setV_self]; exact hv, by rw [upd_ne h2, setV_ne ρ v h2]; exact fun e => (h.r2 e).below hb⟩
theorem LK.two {wC : World} {l : List Int} {p q : Nat} {ρ : Nat → Value} {D : Nat → Bool} {u u' : World} (h : LK wC l p q ρ D u) (h2 : p ≠ q) (v : Value) (hb : Below u.heap.size u u') (hv : RowS l v u') : LK wC l p q (setV ρ q v) (upd D q) u' :=
  ⟨BW.trans h.bw hb, by rw [upd_ne h2, setV_ne ρ v h2]; exact fun e => (h.r1 e).below hb, fun _ => by rw [setV_self]; exact hv⟩
/-- What a descriptor names, as Get of both tells it. -/
def tgv (D : List Int) (x : Int) : Int := if x < 0 ∨ 16 ≤ x then 0 else match D[x.toNat]? with | some v => if v = -1 then 0 else v | none => 0
def tge (D : List Int) (x : Int) : Int := if x < 0 ∨ 16 ≤ x then 220 else match D[x.toNat]? with | some v => if v = -1 then 220 else 0 | none => 220
theorem tg_out (D : List Int) (x : Int) (h : x < 0 ∨ 16 ≤ x) : tgv D x = 0 ∧ tge D x = 220 := by unfold tgv tge; rw [if_pos h, if_pos h]; exact ⟨rfl, rfl⟩
theorem tg_free {D : List Int} {i : Nat} (hi : i < 16) (h : D[i]? = some (-1)) : tgv D (i : Int) = 0 ∧ tge D (i : Int) = 220 := by
  unfold tgv tge
  rw [if_neg (by omega), if_neg (by omega), Int.toNat_natCast, h]
  simp
theorem tg_ok {D : List Int} {i : Nat} {v : Int} (hi : i < 16) (h : D[i]? = some v) (hv : v ≠ -1) : tgv D (i : Int) = v ∧ tge D (i : Int) = 0 := by
  unfold tgv tge
  rw [if_neg (by omega), if_neg (by omega), Int.toNat_natCast, h]
  simp [hv]
theorem tget_all {w : World} {t : Nat} {D : List Int} (h : TR w t g D) (x : Int) : Calls Try.prog 13 #[.pointer (some ⟨t, 0, none⟩), .int .i64 x] w fun e w' => e = .returned (.tuple #[.int .i64 (tgv D x), .int .i64 (tge D x)]) ∧ w = w' := by
  by_cases hr : x < 0 ∨ 16 ≤ x
  · rw [(tg_out D x hr).1, (tg_out D x hr).2]; exact tget_out h x hr
  · obtain ⟨i, rfl⟩ : ∃ i : Nat, x = (i : Int) := ⟨x.toNat, by omega⟩
    have hi : i < 16 := by omega
    obtain ⟨v, hv⟩ : ∃ v, D[i]? = some v := ⟨_, List.getElem?_eq_getElem (by rw [h.len]; omega)⟩
    by_cases h1 : v = -1
    · subst h1; rw [(tg_free hi hv).1, (tg_free hi hv).2]; exact tget_free h i hv
    · rw [(tg_ok hi hv h1).1, (tg_ok hi hv h1).2]; exact tget_ok h i v hv h1
theorem rtget_all {w : World} {x : Nat} {D : List Int} (h : XR w x r D) (f : Int) : Calls Try.prog 39 #[.pointer (some ⟨x, 0, none⟩), .int .i64 f] w fun e w' => e = .returned (.tuple #[.int .i64 (tgv D f), .int .i64 (tge D f)]) ∧ w = w' := by
  by_cases hr : f < 0 ∨ 16 ≤ f
  · rw [(tg_out D f hr).1, (tg_out D f hr).2]; exact rtget_out h f hr
  · obtain ⟨i, rfl⟩ : ∃ i : Nat, f = (i : Int) := ⟨f.toNat, by omega⟩
    have hi : i < 16 := by omega
    obtain ⟨v, hv⟩ : ∃ v, D[i]? = some v := ⟨_, List.getElem?_eq_getElem (by rw [h.len]; omega)⟩
    by_cases h1 : v = -1
    · subst h1; rw [(tg_free hi hv).1, (tg_free hi hv).2]; exact rtget_free h i hv
    · rw [(tg_ok hi hv h1).1, (tg_ok hi hv h1).2]; exact rtget_ok h i v hv h1
set_option maxHeartbeats 8000000 in
theorem looks_ok (h : W2 w0 w ob g m a c r y cy ts xs L) (x0 x1 x2 x3 x4 : Int) : Calls Try.prog 17 #[.pointer (some ⟨ob, 0, none⟩), .agg #[.int .i64 x0, .int .i64 x1, .int .i64 x2, .int .i64 x3, .int .i64 x4]] w fun e w' => e = .returned (.bool true) ∧ Below w.heap.size w w' := by
  have hb0 : Below w.heap.size w (w.alloc (.cells #[.int .i64 x0, .int .i64 x1, .int .i64 x2, .int .i64 x3, .int .i64 x4] 26)) := (Below.refl _ _).alloc (Nat.le_refl _) _
  have hk : Blk (w.alloc (.cells #[.int .i64 x0, .int .i64 x1, .int .i64 x2, .int .i64 x3, .int .i64 x4] 26)) w.heap.size #[.int .i64 x0, .int .i64 x1, .int .i64 x2, .int .i64 x3, .int .i64 x4] := Blk.of_heap (heap_at rfl)
  have h1 := h.below hb0
  generalize hu : w.alloc (.cells #[.int .i64 x0, .int .i64 x1, .int .i64 x2, .int .i64 x3, .int .i64 x4] 26) = u at *
  have H1 := Lib.hid h1
  have HB1 := Lib.hid hb0
  have HO := Lib.hid hk
  have hsz : w.heap.size < u.heap.size := hk.lt
  obtain ⟨gf, hgf⟩ : ∃ gf, gf = getf L x2 := ⟨_, rfl⟩
  obtain ⟨ge, hge⟩ : ∃ ge, ge = gete L x2 := ⟨_, rfl⟩
  have HGF := Lib.hid (And.intro hgf hge)
  obtain ⟨kd, wh, at_, fg, rf⟩ := gf
  clear h h1 hb0 hk hgf hge
  go_enter Try.func17, Try.ntmps17
  go_wp2_with (rw [hu])
  clear hu
  obtain ⟨oc, hoc⟩ : ∃ oc, oc = w.heap.size := ⟨_, rfl⟩
  rw [← hoc] at hsz HO ⊢
  have HOC := Lib.hid hoc
  clear hoc
  obtain ⟨wA, hwA⟩ : ∃ wA, wA = u.drew := ⟨_, rfl⟩
  have HA := Lib.hid (show W2 w0 wA ob g m a c r y cy ts xs L by rw [hwA]; exact H1.out.drew)
  have HOA := Lib.hid (show Blk wA oc #[.int .i64 x0, .int .i64 x1, .int .i64 x2, .int .i64 x3, .int .i64 x4] by rw [hwA]; exact HO.out)
  have HBA := Lib.hid (show Below w.heap.size w wA by rw [hwA]; exact HB1.out.drew)
  have hwA' : u.drew = wA := hwA.symm
  clear hwA
  refine wp_theta [6, 10] [6, 10, 11] (fun i v => (i = 6 → v = (.tuple #[.agg #[.int .i64 kd, .int .i64 wh, .int .i64 at_, .int .i64 fg, .int .i64 rf], .int .i64 ge])) ∧ (i = 10 → ∃ b, v = .pointer (some ⟨b, 0, none⟩) ∧ wA.heap.size ≤ b)) (RegK wA.heap.size 6 10 11 (BW wA) (fun v u => v = (.tuple #[.agg #[.int .i64 kd, .int .i64 wh, .int .i64 at_, .int .i64 fg, .int .i64 rf], .int .i64 ge]) ∧ BW wA u) #[.int .i64 0, .int .i64 0, .int .i64 0, .int .i64 0, .int .i64 0] (fun _ => #[.int .i64 kd, .int .i64 wh, .int .i64 at_, .int .i64 fg, .int .i64 rf])) (BW wA) ?_ ?_ ?_ ?_ ?_ ?_ ?_ ?_ ?_ ?_
  · kernel_rfl
  · kernel_rfl
  · kernel_rfl
  · kernel_rfl
  · kernel_rfl
  · kernel_rfl
  · intro i hi
    by_cases h : i = 6
    · exact ⟨(.tuple #[.agg #[.int .i64 kd, .int .i64 wh, .int .i64 at_, .int .i64 fg, .int .i64 rf], .int .i64 ge]), fun _ => rfl, fun e => by omega⟩
    · exact ⟨.pointer (some ⟨wA.heap.size, 0, none⟩), fun e => absurd e h, fun _ => ⟨_, rfl, Nat.le_refl _⟩⟩
  · rw [hwA']; exact ⟨by rw [if_neg (by decide)]; exact BW.refl _, Nat.le_refl _, fun q => by cases q⟩
  · exact fun ρ D u hK => by have := hK.st; split at this; (· exact this.2); exact this
  · intro θ hθ
    simp only [SegsT, List.take_succ_cons, List.take_zero, List.drop_succ_cons, List.drop_zero, Nat.sub_zero, Nat.reduceSub, Nat.reduceAdd, List.drop_nil, List.take_nil]
    haveI i1 : Nonempty (Wd (BW wA)) := ⟨⟨wA, Below.refl _ _⟩⟩
    have l0 : ∀ s : Wd (BW wA), s.val.cell? ⟨ob, 0, none⟩ = some (.pointer (some ⟨g, 0, none⟩)) := fun s => BW.cell s.prop HA.out.lp.own.cells.1
    have l2 : ∀ s : Wd (BW wA), s.val.cell? ⟨ob, 2, none⟩ = some (.pointer (some ⟨r, 0, none⟩)) := fun s => BW.cell s.prop HA.out.lp.own.cells.2.2.1
    have lo : ∀ s : Wd (BW wA), s.val.cell? ⟨oc, 2, none⟩ = some (.int .i64 x2) := fun s => BW.cell s.prop ((HOA.out.all.2.2.1 2).trans rfl)
    have tc := (hθ 6 (by decide)).1 rfl
    obtain ⟨b1, ta, hbv⟩ := (hθ 10 (by decide)).2 rfl
    repeat (go_big_quiet_step (fail))
    refine wpQuiet_nil ?_
    rw [if_pos (by decide)]
    refine ⟨thOK_call [] [11] 19 _ _ (by kernel_rfl) rfl (by kernel_rfl) #[.pointer (some ⟨g, 0, none⟩), .int .i64 x2] (by kernel_rfl) (by kernel_rfl) (fun ρ D u hq hK => ?_), ?_⟩
    · refine (RegK.call hK hq.now (hq.not 11 (by simp)) (by decide) (by decide) (Φ := fun v => v = (.tuple #[.agg #[.int .i64 kd, .int .i64 wh, .int .i64 at_, .int .i64 fg, .int .i64 rf], .int .i64 ge])) (FF := fun _ => False) (fun k q => q.elim) ?_).mono ?_
      · intro u' hu'
        have hcon := fget_all (HA.out.below hu').lp.own.fr x2
        rw [← HGF.out.1, ← HGF.out.2] at hcon
        refine hcon.mono ?_
        rintro e u2 ⟨rfl, hb⟩
        exact ⟨_, rfl, rfl, ⟨rfl, BW.trans hu' hb⟩, Ch.of_below hb⟩
      · rintro e u2 ⟨v, he, hv, hk⟩
        exact ⟨v, he, ⟨fun _ => hv, fun e => absurd e (by decide)⟩, hk⟩
    rw [tc]
    go_frame
    repeat (go_big_quiet_step (fail))
    refine wpQuiet_nil ?_
    rw [if_pos (by decide)]
    refine ⟨thOK_run [] [11] (by kernel_rfl) (by kernel_rfl) (fun ρ D u hq hK => ?_), ?_⟩
    · exact ⟨_, _, run_box_any (s := Instr.alloc 40 true (.tuple #[])) (by kernel_rfl) (alloc40 u), ⟨fun e => absurd e (by decide), fun _ => ⟨_, rfl, hK.sz⟩⟩, RegK.alloc hK hq.now (hq.not 11 (by simp)) (by decide) (by decide) (BW.firm _) (BW.firm2 _ _) 40⟩
    rw [ta]
    go_frame
    repeat (go_big_quiet_step (fail))
    refine wpQuiet_nil ?_
    rw [if_neg (by decide)]
    refine ⟨undef, detOK_skip [6, 10] [] (by kernel_rfl) (by kernel_rfl) (fun ρ D u hq hK => ?_), ?_⟩
    · have ha := hq.gave 10 (by simp) (by decide)
      obtain ⟨b', e1, e2, e3⟩ := hK.var (hq.did 10 (by simp))
      have e4 : b1 = b' := by
        rw [ha, ta] at e1
        simpa using e1
      subst e4
      rw [hq.now, if_neg (by decide)] at e3
      obtain ⟨u2, s1, s2, s3, s4⟩ := store5 u b1 0 0 0 0 0 kd wh at_ fg rf e3
      exact ⟨u2, run_skip_any (s := Instr.storeAt 40 (.pointer (some ⟨b1, 0, none⟩)) (.agg #[.int .i64 kd, .int .i64 wh, .int .i64 at_, .int .i64 fg, .int .i64 rf])) (by kernel_rfl) s1, RegK.store hK (hq.did 10 (by simp)) (hq.did 6 (by simp)) hq.now (by decide) (by decide) (BW.firm2 _ _) (by rw [ha, ta]) s2 s3⟩
    repeat (go_big_quiet_step (fail))
    refine wpQuiet_nil ?_
    intro u1 hK
    have hp := hK.post (by decide)
    obtain ⟨b', e1, e2, e3⟩ := hK.var (by decide)
    have e4 : b1 = b' := by
      have h9 : θ 10 = .pointer (some ⟨b', 0, none⟩) := e1
      rw [ta] at h9
      simpa using h9
    subst e4
    rw [if_pos (by decide)] at e3
    have HBu1 := Lib.hid hp.2
    have HVu1 := Lib.hid (And.intro e2 e3)
    clear hK hp e1 e2 e3 hθ tc ta hbv i1 l0 l2 lo
    obtain ⟨wB, hwB⟩ : ∃ wB, wB = u1.drew := ⟨_, rfl⟩
    have hbd : Below u1.heap.size u1 u1.drew := ⟨rfl, rfl, rfl, Nat.le_refl _, fun _ _ => rfl⟩
    have HwB := Lib.hid (show W2 w0 wB ob g m a c r y cy ts xs L by rw [hwB]; exact (HA.out.below HBu1.out).drew)
    have HOwB := Lib.hid (show Blk wB oc #[.int .i64 x0, .int .i64 x1, .int .i64 x2, .int .i64 x3, .int .i64 x4] by rw [hwB]; exact BW.blk HBu1.out HOA.out)
    have HBwB := Lib.hid (show Below w.heap.size w wB by rw [hwB]; exact (HBA.out.trans (Below.mono HBu1.out HBA.out.size)).drew)
    have HV1 := Lib.hid (show Blk wB b1 #[.int .i64 kd, .int .i64 wh, .int .i64 at_, .int .i64 fg, .int .i64 rf] by rw [hwB]; exact HVu1.out.2)
    have hwB' : u1.drew = wB := hwB.symm
    clear hwB hbd
    go_wp2_with fail
    refine wp_theta [6, 10] [6, 10, 11] (fun i v => (i = 6 → v = (.tuple #[.agg #[.int .i64 kd, .int .i64 wh, .int .i64 at_, .int .i64 fg, .int .i64 rf], .int .i64 ge])) ∧ (i = 10 → ∃ b, v = .pointer (some ⟨b, 0, none⟩) ∧ wB.heap.size ≤ b)) (RegK wB.heap.size 6 10 11 (BW wB) (fun v u => v = (.tuple #[.agg #[.int .i64 kd, .int .i64 wh, .int .i64 at_, .int .i64 fg, .int .i64 rf], .int .i64 ge]) ∧ BW wB u) #[.int .i64 0, .int .i64 0, .int .i64 0, .int .i64 0, .int .i64 0] (fun _ => #[.int .i64 kd, .int .i64 wh, .int .i64 at_, .int .i64 fg, .int .i64 rf])) (BW wB) ?_ ?_ ?_ ?_ ?_ ?_ ?_ ?_ ?_ ?_
    · kernel_rfl
    · kernel_rfl
    · kernel_rfl
    · kernel_rfl
    · kernel_rfl
    · kernel_rfl
    · intro i hi
      by_cases h : i = 6
      · exact ⟨(.tuple #[.agg #[.int .i64 kd, .int .i64 wh, .int .i64 at_, .int .i64 fg, .int .i64 rf], .int .i64 ge]), fun _ => rfl, fun e => by omega⟩
      · exact ⟨.pointer (some ⟨wB.heap.size, 0, none⟩), fun e => absurd e h, fun _ => ⟨_, rfl, Nat.le_refl _⟩⟩
    · rw [hwB']; exact ⟨by rw [if_neg (by decide)]; exact BW.refl _, Nat.le_refl _, fun q => by cases q⟩
    · exact fun ρ D u hK => by have := hK.st; split at this; (· exact this.2); exact this
    · intro θ hθ
      simp only [SegsT, List.take_succ_cons, List.take_zero, List.drop_succ_cons, List.drop_zero, Nat.sub_zero, Nat.reduceSub, Nat.reduceAdd, List.drop_nil, List.take_nil]
      haveI i1 : Nonempty (Wd (BW wB)) := ⟨⟨wB, Below.refl _ _⟩⟩
      have l0 : ∀ s : Wd (BW wB), s.val.cell? ⟨ob, 0, none⟩ = some (.pointer (some ⟨g, 0, none⟩)) := fun s => BW.cell s.prop HwB.out.lp.own.cells.1
      have l2 : ∀ s : Wd (BW wB), s.val.cell? ⟨ob, 2, none⟩ = some (.pointer (some ⟨r, 0, none⟩)) := fun s => BW.cell s.prop HwB.out.lp.own.cells.2.2.1
      have lo : ∀ s : Wd (BW wB), s.val.cell? ⟨oc, 2, none⟩ = some (.int .i64 x2) := fun s => BW.cell s.prop ((HOwB.out.all.2.2.1 2).trans rfl)
      have tc := (hθ 6 (by decide)).1 rfl
      obtain ⟨b2, ta, hbv⟩ := (hθ 10 (by decide)).2 rfl
      repeat (go_big_quiet_step (fail))
      refine wpQuiet_nil ?_
      rw [if_pos (by decide)]
      refine ⟨thOK_call [] [11] 35 _ _ (by kernel_rfl) rfl (by kernel_rfl) #[.pointer (some ⟨r, 0, none⟩), .int .i64 x2] (by kernel_rfl) (by kernel_rfl) (fun ρ D u hq hK => ?_), ?_⟩
      · refine (RegK.call hK hq.now (hq.not 11 (by simp)) (by decide) (by decide) (Φ := fun v => v = (.tuple #[.agg #[.int .i64 kd, .int .i64 wh, .int .i64 at_, .int .i64 fg, .int .i64 rf], .int .i64 ge])) (FF := fun _ => False) (fun k q => q.elim) ?_).mono ?_
        · intro u' hu'
          have hcon := rget_all (HwB.out.below hu').rx.rf x2
          rw [← HGF.out.1, ← HGF.out.2] at hcon
          refine hcon.mono ?_
          rintro e u2 ⟨rfl, hb⟩
          exact ⟨_, rfl, rfl, ⟨rfl, BW.trans hu' hb⟩, Ch.of_below hb⟩
        · rintro e u2 ⟨v, he, hv, hk⟩
          exact ⟨v, he, ⟨fun _ => hv, fun e => absurd e (by decide)⟩, hk⟩
      rw [tc]
      go_frame
      repeat (go_big_quiet_step (fail))
      refine wpQuiet_nil ?_
      rw [if_pos (by decide)]
      refine ⟨thOK_run [] [11] (by kernel_rfl) (by kernel_rfl) (fun ρ D u hq hK => ?_), ?_⟩
      · exact ⟨_, _, run_box_any (s := Instr.alloc 40 true (.tuple #[])) (by kernel_rfl) (alloc40 u), ⟨fun e => absurd e (by decide), fun _ => ⟨_, rfl, hK.sz⟩⟩, RegK.alloc hK hq.now (hq.not 11 (by simp)) (by decide) (by decide) (BW.firm _) (BW.firm2 _ _) 40⟩
      rw [ta]
      go_frame
      repeat (go_big_quiet_step (fail))
      refine wpQuiet_nil ?_
      rw [if_neg (by decide)]
      refine ⟨undef, detOK_skip [6, 10] [] (by kernel_rfl) (by kernel_rfl) (fun ρ D u hq hK => ?_), ?_⟩
      · have ha := hq.gave 10 (by simp) (by decide)
        obtain ⟨b', e1, e2, e3⟩ := hK.var (hq.did 10 (by simp))
        have e4 : b2 = b' := by
          rw [ha, ta] at e1
          simpa using e1
        subst e4
        rw [hq.now, if_neg (by decide)] at e3
        obtain ⟨u2, s1, s2, s3, s4⟩ := store5 u b2 0 0 0 0 0 kd wh at_ fg rf e3
        exact ⟨u2, run_skip_any (s := Instr.storeAt 40 (.pointer (some ⟨b2, 0, none⟩)) (.agg #[.int .i64 kd, .int .i64 wh, .int .i64 at_, .int .i64 fg, .int .i64 rf])) (by kernel_rfl) s1, RegK.store hK (hq.did 10 (by simp)) (hq.did 6 (by simp)) hq.now (by decide) (by decide) (BW.firm2 _ _) (by rw [ha, ta]) s2 s3⟩
      repeat (go_big_quiet_step (fail))
      refine wpQuiet_nil ?_
      intro u2 hK
      have hp := hK.post (by decide)
      obtain ⟨b', e1, e2, e3⟩ := hK.var (by decide)
      have e4 : b2 = b' := by
        have h9 : θ 10 = .pointer (some ⟨b', 0, none⟩) := e1
        rw [ta] at h9
        simpa using h9
      subst e4
      rw [if_pos (by decide)] at e3
      have HBu2 := Lib.hid hp.2
      have HVu2 := Lib.hid (And.intro e2 e3)
      clear hK hp e1 e2 e3 hθ tc ta hbv i1 l0 l2 lo
      obtain ⟨wC, hwC⟩ : ∃ wC, wC = u2.drew := ⟨_, rfl⟩
      have hbd : Below u2.heap.size u2 u2.drew := ⟨rfl, rfl, rfl, Nat.le_refl _, fun _ _ => rfl⟩
      have HwC := Lib.hid (show W2 w0 wC ob g m a c r y cy ts xs L by rw [hwC]; exact (HwB.out.below HBu2.out).drew)
      have HOwC := Lib.hid (show Blk wC oc #[.int .i64 x0, .int .i64 x1, .int .i64 x2, .int .i64 x3, .int .i64 x4] by rw [hwC]; exact BW.blk HBu2.out HOwB.out)
      have HBwC := Lib.hid (show Below w.heap.size w wC by rw [hwC]; exact (HBwB.out.trans (Below.mono HBu2.out HBwB.out.size)).drew)
      have HV1wC := Lib.hid (show Blk wC b1 #[.int .i64 kd, .int .i64 wh, .int .i64 at_, .int .i64 fg, .int .i64 rf] by rw [hwC]; exact BW.blk HBu2.out HV1.out)
      have HV2 := Lib.hid (show Blk wC b2 #[.int .i64 kd, .int .i64 wh, .int .i64 at_, .int .i64 fg, .int .i64 rf] by rw [hwC]; exact HVu2.out.2)
      have hwC' : u2.drew = wC := hwC.symm
      clear hwC hbd
      have hskl : upl L 64 = PL.sk L := upl_sk HwC.out.lp.own.fr.pm.knd HwC.out.lp.own.fr.ids
      obtain ⟨l, hl⟩ : ∃ l, l = PL.sk L := ⟨_, rfl⟩
      have hll : L.length = l.length := by rw [hl, PL.sk_len]
      have hl64 : l.length ≤ 64 := by rw [← hll]; exact HwC.out.lp.own.fr.len
      obtain ⟨cn, hcn⟩ : ∃ cn : Int, cn = ((l.countP (hit L x3 x4) : Nat) : Int) := ⟨_, rfl⟩
      have HLL := Lib.hid (And.intro hskl (And.intro hl (And.intro hll (And.intro hl64 hcn))))
      clear hskl hl hll hl64 hcn
      have hne := neq40 kd wh at_ fg rf
      go_wp2_with fail
      refine wp_theta [13, 18, 19, 31, 40] [0, 1, 13, 18, 19, 31, 40] (fun i v => ((i = 13 ∨ i = 18) → ∃ A c, v = .slice A l.length c) ∧ (i = 19 → v = .bool true) ∧ ((i = 31 ∨ i = 40) → v = .int .i64 cn)) (LK wC l 13 18) (BW wC) ?_ ?_ ?_ ?_ ?_ ?_ ?_ ?_ ?_ ?_
      · kernel_rfl
      · kernel_rfl
      · kernel_rfl
      · kernel_rfl
      · kernel_rfl
      · kernel_rfl
      · intro i hi
        by_cases h1 : i = 13 ∨ i = 18
        · exact ⟨.slice none l.length 0, fun _ => ⟨_, _, rfl⟩, fun e => by omega, fun e => by omega⟩
        · by_cases h2 : i = 19
          · exact ⟨.bool true, fun e => absurd e h1, fun _ => rfl, fun e => by omega⟩
          · exact ⟨.int .i64 cn, fun e => absurd e h1, fun e => absurd e h2, fun _ => rfl⟩
      · rw [hwC']; exact LK.start _ _ _ _ _
      · exact fun ρ D u hK => hK.bw
      · intro θ hθ
        simp only [SegsT, List.take_succ_cons, List.take_zero, List.drop_succ_cons, List.drop_zero, Nat.sub_zero, Nat.reduceSub, Nat.reduceAdd, List.drop_nil, List.take_nil]
        haveI i1 : Nonempty (Wd (BW wC)) := ⟨⟨wC, BW.refl _⟩⟩
        have l0 : ∀ s : Wd (BW wC), s.val.cell? ⟨ob, 0, none⟩ = some (.pointer (some ⟨g, 0, none⟩)) := fun s => BW.cell s.prop HwC.out.lp.own.cells.1
        have l2 : ∀ s : Wd (BW wC), s.val.cell? ⟨ob, 2, none⟩ = some (.pointer (some ⟨r, 0, none⟩)) := fun s => BW.cell s.prop HwC.out.lp.own.cells.2.2.1
        have l3 : ∀ s : Wd (BW wC), s.val.cell? ⟨oc, 3, none⟩ = some (.int .i64 x3) := fun s => BW.cell s.prop ((HOwC.out.all.2.2.1 3).trans rfl)
        have l4 : ∀ s : Wd (BW wC), s.val.cell? ⟨oc, 4, none⟩ = some (.int .i64 x4) := fun s => BW.cell s.prop ((HOwC.out.all.2.2.1 4).trans rfl)
        obtain ⟨A1, c1, t13⟩ := (hθ 13 (by decide)).1 (.inl rfl)
        obtain ⟨A2, c2, t18⟩ := (hθ 18 (by decide)).1 (.inr rfl)
        have t19 := (hθ 19 (by decide)).2.1 rfl
        have t31 := (hθ 31 (by decide)).2.2 (.inl rfl)
        have t40 := (hθ 40 (by decide)).2.2 (.inr rfl)
        repeat (go_big_quiet_step (fail))
        refine wpQuiet_nil ?_
        rw [if_neg (by decide)]
        refine ⟨.agg #[.int .i64 kd, .int .i64 wh, .int .i64 at_, .int .i64 fg, .int .i64 rf], detOK_run [] [] (by kernel_rfl) (by kernel_rfl) (fun ρ D u hq hK => ?_), ?_⟩
        · exact ⟨u, run_box_any (s := Instr.loadAt 40 (.pointer (some ⟨b1, 0, none⟩))) (by kernel_rfl) (load5 u b1 _ _ _ _ _ (BW.blk hK.bw HV1wC.out)), hK.idle (by decide) (by decide)⟩
        go_frame
        repeat (go_big_quiet_step (fail))
        refine wpQuiet_nil ?_
        rw [if_neg (by decide)]
        refine ⟨.agg #[.int .i64 kd, .int .i64 wh, .int .i64 at_, .int .i64 fg, .int .i64 rf], detOK_run [] [] (by kernel_rfl) (by kernel_rfl) (fun ρ D u hq hK => ?_), ?_⟩
        · exact ⟨u, run_box_any (s := Instr.loadAt 40 (.pointer (some ⟨b2, 0, none⟩))) (by kernel_rfl) (load5 u b2 _ _ _ _ _ (BW.blk hK.bw HV2.out)), hK.idle (by decide) (by decide)⟩
        go_frame
        repeat (go_big_quiet_step (fail))
        refine wpQuiet_nil ?_
        rw [if_pos (by decide)]
        refine ⟨thOK_call [] [] 21 _ _ (by kernel_rfl) rfl (by kernel_rfl) #[.pointer (some ⟨g, 0, none⟩)] (by kernel_rfl) (by kernel_rfl) (fun ρ D u hq hK => ?_), ?_⟩
        · refine (all_ok (HwC.out.below hK.bw).lp.own.fr).mono ?_
          rintro e u2 ⟨A, c, rfl, hr, hb, _⟩
          rw [← HLL.out.2.1, HLL.out.2.2.1] at hr
          rw [HLL.out.2.2.1]
          exact ⟨_, rfl, ⟨fun _ => ⟨_, _, rfl⟩, fun e => absurd e (by decide), fun e => absurd e (by decide)⟩, hK.one (by decide) _ hb ⟨A, c, rfl, hr⟩⟩
        rw [t13]
        go_frame
        repeat (go_big_quiet_step (fail))
        refine wpQuiet_nil ?_
        rw [if_pos (by decide)]
        refine ⟨thOK_call [] [] 37 _ _ (by kernel_rfl) rfl (by kernel_rfl) #[.pointer (some ⟨r, 0, none⟩)] (by kernel_rfl) (by kernel_rfl) (fun ρ D u hq hK => ?_), ?_⟩
        · refine (rall_ok (HwC.out.below hK.bw).rx.rf).mono ?_
          rintro e u2 ⟨A, c, rfl, hr, hb, _⟩
          rw [HLL.out.1, ← HLL.out.2.1] at hr
          rw [HLL.out.1, ← HLL.out.2.1]
          exact ⟨_, rfl, ⟨fun _ => ⟨_, _, rfl⟩, fun e => absurd e (by decide), fun e => absurd e (by decide)⟩, hK.two (by decide) _ hb ⟨A, c, rfl, hr⟩⟩
        rw [t18]
        go_frame
        repeat (go_big_quiet_step (fail))
        refine wpQuiet_nil ?_
        rw [if_pos (by decide)]
        refine ⟨thOK_call [13, 18] [] 36 _ _ (by kernel_rfl) rfl (by kernel_rfl) #[.slice A1 l.length c1, .slice A2 l.length c2] (by kernel_rfl) (by kernel_rfl) (fun ρ D u hq hK => ?_), ?_⟩
        · have g1 := hK.r1 (hq.did 13 (by simp))
          have g2 := hK.r2 (hq.did 18 (by simp))
          rw [hq.gave 13 (by simp) (by decide), t13] at g1
          rw [hq.gave 18 (by simp) (by decide), t18] at g2
          obtain ⟨B1, d1, f1, f2⟩ := g1
          obtain ⟨B2, d2, f3, f4⟩ := g2
          simp only [Value.slice.injEq] at f1 f3
          obtain ⟨rfl, _, rfl⟩ := f1
          obtain ⟨rfl, _, rfl⟩ := f3
          refine (same_ok A1 A2 c1 c2 l l u f2 f4 (by have := HLL.out.2.2.2.1; omega)).mono ?_
          rintro e u2 ⟨rfl, hb⟩
          exact ⟨_, rfl, ⟨fun e => absurd e (by decide), fun _ => by simp, fun e => absurd e (by decide)⟩, hK.other (by decide) (by decide) _ hb⟩
        rw [t19]
        go_frame
        repeat (go_big_quiet_step (fail))
        refine wpQuiet_nil ?_
        rw [if_pos (by decide)]
        refine ⟨thOK_call [] [] 22 _ _ (by kernel_rfl) rfl (by kernel_rfl) #[.pointer (some ⟨g, 0, none⟩), .int .i64 x3, .int .i64 x4] (by kernel_rfl) (by kernel_rfl) (fun ρ D u hq hK => ?_), ?_⟩
        · have hcon := on_ok (HwC.out.below hK.bw).lp.own.fr x3 x4
          rw [← HLL.out.2.1, ← HLL.out.2.2.2.2] at hcon
          refine hcon.mono ?_
          rintro e u2 ⟨rfl, hb⟩
          exact ⟨_, rfl, ⟨fun e => absurd e (by decide), fun e => absurd e (by decide), fun _ => rfl⟩, hK.other (by decide) (by decide) _ hb⟩
        rw [t31]
        go_frame
        repeat (go_big_quiet_step (fail))
        refine wpQuiet_nil ?_
        rw [if_pos (by decide)]
        refine ⟨thOK_call [] [] 38 _ _ (by kernel_rfl) rfl (by kernel_rfl) #[.pointer (some ⟨r, 0, none⟩), .int .i64 x3, .int .i64 x4] (by kernel_rfl) (by kernel_rfl) (fun ρ D u hq hK => ?_), ?_⟩
        · have hcon := ron_ok (HwC.out.below hK.bw).rx.rf x3 x4
          rw [HLL.out.1, ← HLL.out.2.1, ← HLL.out.2.2.2.2] at hcon
          refine hcon.mono ?_
          rintro e u2 ⟨rfl, hb⟩
          exact ⟨_, rfl, ⟨fun e => absurd e (by decide), fun e => absurd e (by decide), fun _ => rfl⟩, hK.other (by decide) (by decide) _ hb⟩
        rw [t40]
        go_frame
        repeat (go_big_quiet_step (fail))
        refine wpQuiet_nil ?_
        intro u3 hK
        have HBu3 := Lib.hid hK.bw
        clear hK hθ t13 t18 t19 t31 t40 i1 l0 l2 l3 l4 hne
        obtain ⟨n, hn⟩ : ∃ n, n = ts.length := ⟨_, rfl⟩
        obtain ⟨nx, hnx⟩ : ∃ nx, nx = xs.length := ⟨_, rfl⟩
        have HN := Lib.hid (And.intro hn hnx)
        have hnn : nx = n := by rw [hn, hnx]; exact HwC.out.rx.xl
        have hn12 : n ≤ 12 := by rw [hn]; exact HwC.out.lp.n2
        have q1 : u3.cell? ⟨ob, 1, none⟩ = some (.slice (some ⟨a, 0, none⟩) n c) := by rw [hn]; exact BW.cell HBu3.out HwC.out.lp.own.cells.2.1
        clear hn hnx
        go_wp2_with fail
        clear q1
        go_loopg [82] n (fun k i_ wr => ∃ j : Nat, i_ = .int .i64 (j : Int) ∧ k = n - j ∧ j ≤ n ∧ BW wC wr)
        case atStart => exact ⟨0, rfl, rfl, by omega, HBu3.out⟩
        case round =>
          obtain ⟨j, rfl, hk, hj, hB⟩ := hrel
          have HK := Lib.hid hk
          have HBr := Lib.hid hB
          clear hk hB
          by_cases hlt : j < n
          · obtain ⟨p, hp⟩ : ∃ p, ts[j]? = some p := ⟨_, List.getElem?_eq_getElem (by rw [← HN.out.1]; exact hlt)⟩
            obtain ⟨t, D⟩ := p
            obtain ⟨x, hx, hT, hX, ct, cx⟩ := HwC.out.tab hp
            have HT := Lib.hid (And.intro hT hX)
            have HC := Lib.hid (And.intro ct cx)
            have hw : IntKind.i64.wrap ((j : Int) + 1) = (j : Int) + 1 := IntWalk.i64_in _ (by omega)
            have hjx : j < nx := by omega
            obtain ⟨tv, htv⟩ : ∃ tv, tv = tgv D x2 := ⟨_, rfl⟩
            obtain ⟨te, hte⟩ : ∃ te, te = tge D x2 := ⟨_, rfl⟩
            have HTV := Lib.hid (And.intro htv hte)
            clear hp hx hT hX ct cx htv hte
            go_wp2_with fail
            obtain ⟨wE, hwE⟩ : ∃ wE, wE = wr.drew := ⟨_, rfl⟩
            have BwE := Lib.hid (show BW wC wE by rw [hwE]; exact BW.dr (HBr.out))
            have hwE' : wr.drew = wE := hwE.symm
            clear hwE
            refine wp_theta [9] [9] (fun i v => v = (.tuple #[.int .i64 tv, .int .i64 te])) (fun ρ D u => BW wE u) (BW wE) ?_ ?_ ?_ ?_ ?_ ?_ ?_ ?_ ?_ ?_
            · kernel_rfl
            · kernel_rfl
            · kernel_rfl
            · kernel_rfl
            · kernel_rfl
            · kernel_rfl
            · exact fun i hi => ⟨_, rfl⟩
            · rw [hwE']; exact BW.refl _
            · exact fun ρ D u hK => hK
            · intro θ hθ
              simp only [SegsT, List.take_succ_cons, List.take_zero, List.drop_succ_cons, List.drop_zero, Nat.sub_zero, Nat.reduceSub, Nat.reduceAdd, List.drop_nil, List.take_nil]
              haveI i1 : Nonempty (Wd (BW wE)) := ⟨⟨wE, BW.refl _⟩⟩
              have l0 : ∀ s : Wd (BW wE), s.val.cell? ⟨ob, 1, none⟩ = some (.slice (some ⟨a, 0, none⟩) n c) := fun s => by rw [HN.out.1]; exact BW.cell s.prop (BW.cell BwE.out HwC.out.lp.own.cells.2.1)
              have l1 : ∀ s : Wd (BW wE), s.val.cell? ⟨a, j, none⟩ = some (.pointer (some ⟨t, 0, none⟩)) := fun s => BW.cell s.prop (BW.cell BwE.out HC.out.1)
              have l2 : ∀ s : Wd (BW wE), s.val.cell? ⟨ob, 3, none⟩ = some (.slice (some ⟨y, 0, none⟩) nx cy) := fun s => by rw [HN.out.2]; exact BW.cell s.prop (BW.cell BwE.out HwC.out.lp.own.cells.2.2.2.1)
              have l3 : ∀ s : Wd (BW wE), s.val.cell? ⟨y, j, none⟩ = some (.pointer (some ⟨x, 0, none⟩)) := fun s => BW.cell s.prop (BW.cell BwE.out HC.out.2)
              have l4 : ∀ s : Wd (BW wE), s.val.cell? ⟨oc, 2, none⟩ = some (.int .i64 x2) := fun s => BW.cell s.prop (BW.cell BwE.out ((HOwC.out.all.2.2.1 2).trans rfl))
              have tc := hθ 9 (by decide)
              repeat (go_big_quiet_step (fail))
              refine wpQuiet_nil ?_
              rw [if_pos (by decide)]
              refine ⟨thOK_call [] [] 13 _ _ (by kernel_rfl) rfl (by kernel_rfl) #[.pointer (some ⟨t, 0, none⟩), .int .i64 x2] (by kernel_rfl) (by kernel_rfl) (fun ρ D u hq hK => ?_), ?_⟩
              · have hcon := tget_all ((HT.out.1.below BwE.out).below hK) x2
                rw [← HTV.out.1, ← HTV.out.2] at hcon
                refine hcon.mono ?_
                rintro e u2 ⟨rfl, rfl⟩
                exact ⟨_, rfl, rfl, hK⟩
              rw [tc]
              go_frame
              repeat (go_big_quiet_step (fail))
              refine wpQuiet_nil ?_
              intro u4 hK
              have HBu4 := Lib.hid hK
              clear hK hθ tc i1 l0 l1 l2 l3 l4
              go_wp2_with fail
              obtain ⟨wF, hwF⟩ : ∃ wF, wF = u4.drew := ⟨_, rfl⟩
              have BwF := Lib.hid (show BW wC wF by rw [hwF]; exact BW.dr (BW.tr BwE.out HBu4.out))
              have hwF' : u4.drew = wF := hwF.symm
              clear hwF
              refine wp_theta [9] [9] (fun i v => v = (.tuple #[.int .i64 tv, .int .i64 te])) (fun ρ D u => BW wF u) (BW wF) ?_ ?_ ?_ ?_ ?_ ?_ ?_ ?_ ?_ ?_
              · kernel_rfl
              · kernel_rfl
              · kernel_rfl
              · kernel_rfl
              · kernel_rfl
              · kernel_rfl
              · exact fun i hi => ⟨_, rfl⟩
              · rw [hwF']; exact BW.refl _
              · exact fun ρ D u hK => hK
              · intro θ hθ
                simp only [SegsT, List.take_succ_cons, List.take_zero, List.drop_succ_cons, List.drop_zero, Nat.sub_zero, Nat.reduceSub, Nat.reduceAdd, List.drop_nil, List.take_nil]
                haveI i1 : Nonempty (Wd (BW wF)) := ⟨⟨wF, BW.refl _⟩⟩
                have l0 : ∀ s : Wd (BW wF), s.val.cell? ⟨ob, 1, none⟩ = some (.slice (some ⟨a, 0, none⟩) n c) := fun s => by rw [HN.out.1]; exact BW.cell s.prop (BW.cell BwF.out HwC.out.lp.own.cells.2.1)
                have l1 : ∀ s : Wd (BW wF), s.val.cell? ⟨a, j, none⟩ = some (.pointer (some ⟨t, 0, none⟩)) := fun s => BW.cell s.prop (BW.cell BwF.out HC.out.1)
                have l2 : ∀ s : Wd (BW wF), s.val.cell? ⟨ob, 3, none⟩ = some (.slice (some ⟨y, 0, none⟩) nx cy) := fun s => by rw [HN.out.2]; exact BW.cell s.prop (BW.cell BwF.out HwC.out.lp.own.cells.2.2.2.1)
                have l3 : ∀ s : Wd (BW wF), s.val.cell? ⟨y, j, none⟩ = some (.pointer (some ⟨x, 0, none⟩)) := fun s => BW.cell s.prop (BW.cell BwF.out HC.out.2)
                have l4 : ∀ s : Wd (BW wF), s.val.cell? ⟨oc, 2, none⟩ = some (.int .i64 x2) := fun s => BW.cell s.prop (BW.cell BwF.out ((HOwC.out.all.2.2.1 2).trans rfl))
                have tc := hθ 9 (by decide)
                repeat (go_big_quiet_step (fail))
                refine wpQuiet_nil ?_
                rw [if_pos (by decide)]
                refine ⟨thOK_call [] [] 39 _ _ (by kernel_rfl) rfl (by kernel_rfl) #[.pointer (some ⟨x, 0, none⟩), .int .i64 x2] (by kernel_rfl) (by kernel_rfl) (fun ρ D u hq hK => ?_), ?_⟩
                · have hcon := rtget_all ((HT.out.2.below BwF.out).below hK) x2
                  rw [← HTV.out.1, ← HTV.out.2] at hcon
                  refine hcon.mono ?_
                  rintro e u2 ⟨rfl, rfl⟩
                  exact ⟨_, rfl, rfl, hK⟩
                rw [tc]
                go_frame
                repeat (go_big_quiet_step (fail))
                refine wpQuiet_nil ?_
                intro u5 hK
                have HBu5 := Lib.hid hK
                clear hK hθ tc i1 l0 l1 l2 l3 l4
                go_wp2_with fail
                obtain ⟨wG, hwG⟩ : ∃ wG, wG = u5.drew := ⟨_, rfl⟩
                have BwG := Lib.hid (show BW wC wG by rw [hwG]; exact BW.dr (BW.tr BwF.out HBu5.out))
                have hwG' : u5.drew = wG := hwG.symm
                clear hwG
                obtain ⟨fl, hfl⟩ : ∃ fl, fl = fdl D 16 := ⟨_, rfl⟩
                have hf16 : fl.length ≤ 16 := by rw [hfl]; exact fdl_len D 16
                have hws : IntKind.i64.wrap (16 - (fl.length : Int)) = 16 - (fl.length : Int) := IntWalk.i64_in _ (by omega)
                have HFL := Lib.hid hfl
                clear hfl
                obtain ⟨fn, hfn⟩ : ∃ fn : Int, fn = 16 - (fl.length : Int) := ⟨_, rfl⟩
                rw [← hfn] at hws
                have HFN := Lib.hid hfn
                have hfe : 16 - (fl.length : Int) = fn := hfn.symm
                clear hfn
                refine wp_theta [16, 24, 25, 36, 44] [16, 24, 25, 36, 44] (fun i v => ((i = 16 ∨ i = 24 ∨ i = 44) → ∃ A c, v = .slice A fl.length c) ∧ (i = 25 → v = .bool true) ∧ (i = 36 → v = .int .i64 fn)) (LK wG fl 16 24) (BW wG) ?_ ?_ ?_ ?_ ?_ ?_ ?_ ?_ ?_ ?_
                · kernel_rfl
                · kernel_rfl
                · kernel_rfl
                · kernel_rfl
                · kernel_rfl
                · kernel_rfl
                · intro i hi
                  by_cases h1 : i = 16 ∨ i = 24 ∨ i = 44
                  · exact ⟨.slice none fl.length 0, fun _ => ⟨_, _, rfl⟩, fun e => by omega, fun e => by omega⟩
                  · by_cases h2 : i = 25
                    · exact ⟨.bool true, fun e => absurd e h1, fun _ => rfl, fun e => by omega⟩
                    · exact ⟨.int .i64 fn, fun e => absurd e h1, fun e => absurd e h2, fun _ => rfl⟩
                · rw [hwG']; exact LK.start _ _ _ _ _
                · exact fun ρ D u hK => hK.bw
                · intro θ hθ
                  simp only [SegsT, List.take_succ_cons, List.take_zero, List.drop_succ_cons, List.drop_zero, Nat.sub_zero, Nat.reduceSub, Nat.reduceAdd, List.drop_nil, List.take_nil]
                  haveI i1 : Nonempty (Wd (BW wG)) := ⟨⟨wG, BW.refl _⟩⟩
                  have l0 : ∀ s : Wd (BW wG), s.val.cell? ⟨ob, 1, none⟩ = some (.slice (some ⟨a, 0, none⟩) n c) := fun s => by rw [HN.out.1]; exact BW.cell s.prop (BW.cell BwG.out HwC.out.lp.own.cells.2.1)
                  have l1 : ∀ s : Wd (BW wG), s.val.cell? ⟨a, j, none⟩ = some (.pointer (some ⟨t, 0, none⟩)) := fun s => BW.cell s.prop (BW.cell BwG.out HC.out.1)
                  have l2 : ∀ s : Wd (BW wG), s.val.cell? ⟨ob, 3, none⟩ = some (.slice (some ⟨y, 0, none⟩) nx cy) := fun s => by rw [HN.out.2]; exact BW.cell s.prop (BW.cell BwG.out HwC.out.lp.own.cells.2.2.2.1)
                  have l3 : ∀ s : Wd (BW wG), s.val.cell? ⟨y, j, none⟩ = some (.pointer (some ⟨x, 0, none⟩)) := fun s => BW.cell s.prop (BW.cell BwG.out HC.out.2)
                  have l4 : ∀ s : Wd (BW wG), s.val.cell? ⟨oc, 2, none⟩ = some (.int .i64 x2) := fun s => BW.cell s.prop (BW.cell BwG.out ((HOwC.out.all.2.2.1 2).trans rfl))
                  obtain ⟨A1, d1, t16⟩ := (hθ 16 (by decide)).1 (.inl rfl)
                  obtain ⟨A2, d2, t24⟩ := (hθ 24 (by decide)).1 (.inr (.inl rfl))
                  obtain ⟨A3, d3, t44⟩ := (hθ 44 (by decide)).1 (.inr (.inr rfl))
                  have t25 := (hθ 25 (by decide)).2.1 rfl
                  have t36 := (hθ 36 (by decide)).2.2 rfl
                  repeat (go_big_quiet_step (fail))
                  refine wpQuiet_nil ?_
                  rw [if_pos (by decide)]
                  refine ⟨thOK_call [] [] 24 _ _ (by kernel_rfl) rfl (by kernel_rfl) #[.pointer (some ⟨t, 0, none⟩)] (by kernel_rfl) (by kernel_rfl) (fun ρ D u hq hK => ?_), ?_⟩
                  · refine (fds_ok ((HT.out.1.below BwG.out).below hK.bw)).mono ?_
                    rintro e u2 ⟨A, c, rfl, hr, hb, _⟩
                    rw [← HFL.out] at hr
                    rw [← HFL.out]
                    exact ⟨_, rfl, ⟨fun _ => ⟨_, _, rfl⟩, fun e => absurd e (by decide), fun e => absurd e (by decide)⟩, hK.one (by decide) _ hb ⟨A, c, rfl, hr⟩⟩
                  rw [t16]
                  go_frame
                  repeat (go_big_quiet_step (fail))
                  refine wpQuiet_nil ?_
                  rw [if_pos (by decide)]
                  refine ⟨thOK_call [] [] 40 _ _ (by kernel_rfl) rfl (by kernel_rfl) #[.pointer (some ⟨x, 0, none⟩)] (by kernel_rfl) (by kernel_rfl) (fun ρ D u hq hK => ?_), ?_⟩
                  · refine (rfds_ok ((HT.out.2.below BwG.out).below hK.bw)).mono ?_
                    rintro e u2 ⟨A, c, rfl, hr, hb, _⟩
                    rw [← HFL.out] at hr
                    rw [← HFL.out]
                    exact ⟨_, rfl, ⟨fun _ => ⟨_, _, rfl⟩, fun e => absurd e (by decide), fun e => absurd e (by decide)⟩, hK.two (by decide) _ hb ⟨A, c, rfl, hr⟩⟩
                  rw [t24]
                  go_frame
                  repeat (go_big_quiet_step (fail))
                  refine wpQuiet_nil ?_
                  rw [if_pos (by decide)]
                  refine ⟨thOK_call [16, 24] [] 36 _ _ (by kernel_rfl) rfl (by kernel_rfl) #[.slice A1 fl.length d1, .slice A2 fl.length d2] (by kernel_rfl) (by kernel_rfl) (fun ρ D u hq hK => ?_), ?_⟩
                  · have g1 := hK.r1 (hq.did 16 (by simp))
                    have g2 := hK.r2 (hq.did 24 (by simp))
                    rw [hq.gave 16 (by simp) (by decide), t16] at g1
                    rw [hq.gave 24 (by simp) (by decide), t24] at g2
                    obtain ⟨B1, e1, f1, f2⟩ := g1
                    obtain ⟨B2, e2, f3, f4⟩ := g2
                    simp only [Value.slice.injEq] at f1 f3
                    obtain ⟨rfl, _, rfl⟩ := f1
                    obtain ⟨rfl, _, rfl⟩ := f3
                    refine (same_ok A1 A2 d1 d2 fl fl u f2 f4 (by omega)).mono ?_
                    rintro e u2 ⟨rfl, hb⟩
                    exact ⟨_, rfl, ⟨fun e => absurd e (by decide), fun _ => by simp, fun e => absurd e (by decide)⟩, hK.other (by decide) (by decide) _ hb⟩
                  rw [t25]
                  go_frame
                  repeat (go_big_quiet_step (fail))
                  refine wpQuiet_nil ?_
                  rw [if_pos (by decide)]
                  refine ⟨thOK_call [] [] 7 _ _ (by kernel_rfl) rfl (by kernel_rfl) #[.pointer (some ⟨t, 0, none⟩)] (by kernel_rfl) (by kernel_rfl) (fun ρ D u hq hK => ?_), ?_⟩
                  · have hcon := free_ok ((HT.out.1.below BwG.out).below hK.bw)
                    rw [← HFL.out, ← HFN.out] at hcon
                    refine hcon.mono ?_
                    rintro e u2 ⟨rfl, hb⟩
                    exact ⟨_, rfl, ⟨fun e => absurd e (by decide), fun e => absurd e (by decide), fun _ => rfl⟩, hK.other (by decide) (by decide) _ hb⟩
                  rw [t36]
                  go_frame
                  repeat (go_big_quiet_step (fail))
                  refine wpQuiet_nil ?_
                  rw [if_pos (by decide)]
                  refine ⟨thOK_call [] [] 40 _ _ (by kernel_rfl) rfl (by kernel_rfl) #[.pointer (some ⟨x, 0, none⟩)] (by kernel_rfl) (by kernel_rfl) (fun ρ D u hq hK => ?_), ?_⟩
                  · refine (rfds_ok ((HT.out.2.below BwG.out).below hK.bw)).mono ?_
                    rintro e u2 ⟨A, c, rfl, hr, hb, _⟩
                    exact ⟨_, rfl, ⟨fun _ => ⟨A, c, by rw [HFL.out]⟩, fun e => absurd e (by decide), fun e => absurd e (by decide)⟩, hK.other (by decide) (by decide) _ hb⟩
                  rw [t44]
                  go_frame
                  repeat (go_big_quiet_step (fail))
                  refine wpQuiet_nil ?_
                  intro u6 hK
                  have HBu6 := Lib.hid hK.bw
                  clear hK hθ t16 t24 t25 t36 t44 i1 l0 l1 l2 l3 l4
                  go_wp2_with fail
                  go_roundg (n - (j + 1))
                  case measure => have := HK.out; omega
                  case rel => exact ⟨j + 1, by first | rfl | go_num, rfl, by omega, BW.tr BwG.out HBu6.out⟩
          · obtain rfl : j = n := by omega
            go_wp2_with fail
            go_ret
            exact ⟨by first | rfl | simp, HBwC.out.trans (Below.mono HBr.out HBwC.out.size)⟩
end
end Go.Proofs.Ythbbiobffoihaaa
