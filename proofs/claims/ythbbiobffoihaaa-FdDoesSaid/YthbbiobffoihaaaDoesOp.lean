import Derived.Test.YthbbiobffoihaaaFiles
import Derived.Test.YthbbiobffoihaaaBothT
import Derived.Test.YthbbiobffoihaaaCounts
/- does: its walk. -/
namespace Go.Proofs.Ythbbiobffoihaaa
open Go.RowKit Go.BigFrame
set_option linter.unusedVariables false
set_option linter.unusedSimpArgs false
attribute [local go_sem] szIs_lit row_at row_past row_alloc nf_alloc row_set nf_set row_cell nf_cell row_drew nf_drew row_drewN nf_drewN cell_setRow frozen_setRow nlt1 nlt2 nlt3 nlt4 nne1 nne2 nne3 nen1 nen2 nen3
set_option maxRecDepth 100000
section
variable {w0 wA u u' : World} {ob g m a c r y cy oc : Nat} {ts : TS} {xs : List Nat} {L : PL Fl} {x0 x1 x2 x3 x4 : Int}
theorem BH.drewN (h : BH w0 wA ob g m a c r y cy oc ts xs L x0 x1 x2 x3 x4) (n : Nat) : BH w0 (wA.drewN n) ob g m a c r y cy oc ts xs L x0 x1 x2 x3 x4 := ⟨h.w2.drewN n, h.op, h.no, h.oge⟩
theorem BH.below (h : BH w0 wA ob g m a c r y cy oc ts xs L x0 x1 x2 x3 x4) (hb : Below wA.heap.size wA u) : BH w0 u ob g m a c r y cy oc ts xs L x0 x1 x2 x3 x4 := ⟨h.w2.below hb, h.op.same (hb.block oc h.op.lt), h.no, h.oge⟩
/-- How one table's call ends. -/
theorem Two.ends {w1 w1' w2 w2' : World} {j t x : Nat} {D D' : List Int} {L' : PL Fl} {B : Int} (h : W2 w0 wA ob g m a c r y cy ts xs L) (hj : ts[j]? = some (t, D)) (hx : xs[j]? = some x) {F1 F2 : Nat} {f : Int} {res : Value} (h2 : Two wA g m r t x D L B F1 F2 f res D' L')
    (hT : TR w1 t g D') (hF : FR w1 g m L') (hC : Ch (fun k => k = t ∨ PL.foot m L k) wA w1) (hb : Below w1.heap.size w1 w1')
    (hX : XR w2 x r D') (hR : RF w2 r L') (hC2 : Ch (fun k => k = x ∨ k = r) w1' w2) (hb2 : Below w2.heap.size w2 w2') : SF w0 w2' ob g m r (B + 16) :=
  ⟨_, _, _, _, _, _, _, Two.done h hj hx h2.sub hT hF hC hb hX hR hC2 hb2, h2.rb⟩
/-- The reference's side stands behind the program's call. -/
theorem BH.mid {w1 w1' : World} {j t x : Nat} {D : List Int} (h : W2 w0 wA ob g m a c r y cy ts xs L) (hj : ts[j]? = some (t, D)) (hx : xs[j]? = some x) (hX : XR wA x r D) (hC : Ch (fun k => k = t ∨ PL.foot m L k) wA w1) (hb : Below w1.heap.size w1 w1') : XR w1' x r D ∧ RF w1' r L := by
  have htm : WR.all ob g m a ts L t := .inr (.inr (.inr (List.mem_map_of_mem (f := fun p : Nat × List Int => p.1) (List.mem_of_getElem? hj))))
  have hxm := List.mem_of_getElem? hx
  refine ⟨(hX.ch hC ?_).below hb, (h.rx.rf.ch hC ?_).below hb⟩
  · rintro (q | q)
    · exact (h.sep t htm).2.2 (q ▸ hxm)
    · exact (h.sep x (.inr (.inr (.inl (.inr q))))).2.2 hxm
  · rintro (q | q)
    · exact (h.sep t htm).1 q.symm
    · exact (h.sep r (.inr (.inr (.inl (.inr q))))).1 rfl
theorem BH.op1 {w1 : World} {j t : Nat} {D : List Int} (h : BH w0 wA ob g m a c r y cy oc ts xs L x0 x1 x2 x3 x4) (hj : ts[j]? = some (t, D)) (hC : Ch (fun k => k = t ∨ PL.foot m L k) wA w1) : w1.cell? ⟨oc, 2, none⟩ = some (.int .i64 x2) := by
  refine ((h.op.ch hC ?_).all.2.2.1 2).trans rfl
  rintro (q | q)
  · exact h.no (.inl (.inr (.inr (.inr (by rw [q]; exact List.mem_map_of_mem (f := fun p : Nat × List Int => p.1) (List.mem_of_getElem? hj))))))
  · exact h.no (.inl (.inr (.inr (.inl (.inr q)))))
theorem AB.fork {w1 : World} {j tt xx : Nat} {D : List Int} (h : W2 w0 wA ob g m a c r y cy ts xs L) (hj : ts[j]? = some (tt, D)) (hx : xs[j]? = some xx) (hX : XR wA xx r D) (hn : ts.length < 12) (hT : TR w1 wA.heap.size g D) (hF : FR w1 g m (bumps L D)) (hC : Ch (PL.foot m L) wA w1) :
    AB w0 w1 ob g m a c r y cy wA.heap.size ts xs L (bumps L D) D ∧ XR w1 xx r D ∧ xx ≠ ob ∧ xx ≠ a ∧ xx ≠ y ∧ xx ≠ r := by
  obtain ⟨b1, b2, b3⟩ := h.rx.rfoot
  have hxm := List.mem_of_getElem? hx
  have nF : ∀ k, (k = r ∨ k = y ∨ k ∈ xs) → ¬ PL.foot m L k := by
    intro k hk q
    have := h.sep k (.inr (.inr (.inl (.inr q))))
    rcases hk with e | e | e
    · exact this.1 e
    · exact this.2.1 e
    · exact this.2.2 e
  have hall : ∀ k, WR.all ob g m a ts (bumps L D) k → WR.all ob g m a ts L k := by
    intro k q
    rcases q with q | q | q | q
    · exact .inl q
    · exact .inr (.inl q)
    · exact .inr (.inr (.inl (bumps_all.1 q)))
    · exact .inr (.inr (.inr q))
  refine ⟨⟨h.lp.files hF hC (fun k q => .inl (bumps_all.1 q)), h.rx.ch hC nF, fun k q => h.sep k (hall k q), h.new, hT, fun q => Nat.lt_irrefl _ (h.lp.own.lt (hall _ q)), h.lp.bel.size, ⟨by omega, by omega, fun e => by have := b3 _ e; omega⟩, hn⟩, hX.ch hC (nF xx (.inr (.inr hxm))), fun e => (h.sep ob (.inl rfl)).2.2 (e ▸ hxm), fun e => (h.sep a (.inr (.inl rfl))).2.2 (e ▸ hxm), fun e => h.rx.ap.2.2.1 (e ▸ hxm), fun e => h.rx.ap.2.1 (e ▸ hxm)⟩
set_option maxHeartbeats 8000000 in
theorem does_ok {w : World} (h : W2 w0 w ob g m a c r y cy ts xs L) {B : Int} (hR : RB L B) (hB1 : 1 ≤ B) (hB2 : B ≤ 1152921504606846976) (x0 x1 x2 x3 x4 : Int) : Calls Try.prog 16 #[.pointer (some ⟨ob, 0, none⟩), .agg #[.int .i64 x0, .int .i64 x1, .int .i64 x2, .int .i64 x3, .int .i64 x4]] w fun e w' => e = .returned (.bool true) ∧ SF w0 w' ob g m r (B + 16) := by
  have hb0 : Below w.heap.size w (w.alloc (.cells #[.int .i64 x0, .int .i64 x1, .int .i64 x2, .int .i64 x3, .int .i64 x4] 26)) := (Below.refl _ _).alloc (Nat.le_refl _) _
  have hk : Blk (w.alloc (.cells #[.int .i64 x0, .int .i64 x1, .int .i64 x2, .int .i64 x3, .int .i64 x4] 26)) w.heap.size #[.int .i64 x0, .int .i64 x1, .int .i64 x2, .int .i64 x3, .int .i64 x4] := Blk.of_heap (heap_at rfl)
  have hBH : BH w0 (w.alloc (.cells #[.int .i64 x0, .int .i64 x1, .int .i64 x2, .int .i64 x3, .int .i64 x4] 26)) ob g m a c r y cy w.heap.size ts xs L x0 x1 x2 x3 x4 :=
    ⟨h.below hb0, hk, fun q => Nat.lt_irrefl _ (h.lt q), h.lp.bel.size⟩
  generalize hu : w.alloc (.cells #[.int .i64 x0, .int .i64 x1, .int .i64 x2, .int .i64 x3, .int .i64 x4] 26) = u at *
  obtain ⟨oc, hoc⟩ : ∃ oc, oc = w.heap.size := ⟨_, rfl⟩
  rw [← hoc] at hBH
  have HB := Lib.hid hBH
  have HR := Lib.hid (And.intro hR (And.intro hB1 hB2))
  obtain ⟨q0, q1, q2, q3, q4⟩ := hBH.cf.l
  obtain ⟨n, hn⟩ : ∃ n, n = ts.length := ⟨_, rfl⟩
  obtain ⟨nx, hnx⟩ : ∃ nx, nx = xs.length := ⟨_, rfl⟩
  have z1 : u.cell? ⟨ob, 1, none⟩ = some (.slice (some ⟨a, 0, none⟩) n c) := by rw [hn]; exact hBH.w2.lp.own.cells.2.1
  obtain ⟨rr, k, t1, t2, t3, t4, t5⟩ := pick_at x1 n (by rw [hn]; exact h.lp.n1) (by rw [hn]; exact h.lp.n2)
  obtain ⟨p, hp⟩ : ∃ p, ts[k]? = some p := ⟨_, List.getElem?_eq_getElem (by rw [← hn]; exact t5)⟩
  obtain ⟨tt, DL⟩ := p
  have hn0 : ((n : Int) == 0) = false := by have := h.lp.n1; simp; omega
  have hn1 : ¬ n = 0 := by have := h.lp.n1; omega
  have hn12 : n ≤ 12 := by rw [hn]; exact h.lp.n2
  have HN := Lib.hid (And.intro hn hnx)
  have HP := Lib.hid hp
  clear h hb0 hk hBH hR hB1 hB2 hn hnx hp
  have hoc' : w.heap.size = oc := hoc.symm
  clear hoc
  go_enter Try.func16, Try.ntmps16
  go_upto_region 1 with (rw [hu])
  clear hu hoc'
  go_quiet (fail)
  go_upto_region 2 with fail
  have HB3' := Lib.hid (HB.out.drewN nq)
  generalize hw3 : u.drewN nq = w3 at *
  have HB3 := HB3'
  clear HB3' hw3 q0 q1 q2 q3 q4 t1 t2 t3 t4 z1 hn0 hn1
  obtain ⟨xx, hx, hT, hX, s1, s2⟩ := HB3.out.w2.tab HP.out
  have z1 : w3.cell? ⟨ob, 1, none⟩ = some (.slice (some ⟨a, 0, none⟩) n c) := by rw [HN.out.1]; exact HB3.out.w2.lp.own.cells.2.1
  have z3 : w3.cell? ⟨ob, 3, none⟩ = some (.slice (some ⟨y, 0, none⟩) nx cy) := by rw [HN.out.2]; exact HB3.out.w2.lp.own.cells.2.2.2.1
  have hnx12 : nx = n := by have := HB3.out.w2.rx.xl; have := HN.out; omega
  have t6 : k < nx := by omega
  have hnn : n ≤ 12 ∧ nx ≤ 12 := by omega
  have HN12 := Lib.hid hnn
  clear hnx12 hnn
  have HT := Lib.hid hT
  have HX := Lib.hid hX
  have HI := Lib.hid hx
  clear hT hX hx
  go_quiet (fail)
  go_upto_region 3 with fail
  have HB4' := Lib.hid (HB3.out.drewN nq)
  have HT4' := Lib.hid (show TR (w3.drewN nq) tt g DL from HT.out.same rfl)
  have HX4' := Lib.hid (show XR (w3.drewN nq) xx r DL from HX.out.same rfl)
  generalize hw4 : w3.drewN nq = w4 at *
  have HB4 := HB4'
  have HT4 := HT4'
  have HX4 := HX4'
  clear HB4' HT4' HX4' hw4 s1 s2 z1 z3 t5 t6 HT HX HB3 HB hn12
  obtain ⟨c0, c1, c2, c3, c4⟩ := HB4.out.cf.l
  have z1 : w4.cell? ⟨ob, 1, none⟩ = some (.slice (some ⟨a, 0, none⟩) n c) := by rw [HN.out.1]; exact HB4.out.w2.lp.own.cells.2.1
  have HO := Lib.hid (HB4.out.w2.lp.own.tab HP.out).2
  have HXR := Lib.hid (show xx ≠ r from fun e => HB4.out.w2.rx.ap.2.1 (e ▸ List.mem_of_getElem? HI.out))
  by_cases h3 : x0 = 3
  · subst h3
    obtain ⟨v, er, D', L', h2⟩ := inst_two HT4.out HB4.out.w2.lp.own.fr HO.out HB4.out.w2.rx.rf HXR.out HR.out.1 x2
    have H2 := Lib.hid h2
    clear h2
    go_wp2_with fail
    refine H2.out.p.mono ?_
    rintro e w5 ⟨rfl, a1, a2, a3⟩
    have e2 := HB4.out.op1 HP.out a3
    have HM := Lib.hid (And.intro a1 (And.intro a2 a3))
    have HMI := Lib.hid (BH.mid HB4.out.w2 HP.out HI.out HX4.out a3 (Below.refl _ _))
    clear a1 a2 a3 c0 c1 c2 c3 c4 z1
    go_wp2_with fail
    refine (H2.out.q _ HMI.out.1 HMI.out.2).mono ?_
    rintro e w6 ⟨rfl, b1, b2, b3⟩
    have HF := Lib.hid (Two.ends HB4.out.w2 HP.out HI.out H2.out HM.out.1 HM.out.2.1 HM.out.2.2 (Below.refl _ _) b1 b2 b3 (Below.refl _ _))
    clear b1 b2 b3 e2
    go_wp2_with fail
    go_ret
    exact ⟨by first | rfl | simp, HF.out⟩
  have k3 : (x0 == 3) = false := by simpa using h3
  clear h3
  by_cases h4 : x0 = 4
  · subst h4
    obtain ⟨v, er, D', L', h2⟩ := dup_two HT4.out HB4.out.w2.lp.own.fr HO.out HB4.out.w2.rx.rf HXR.out HR.out.1 HR.out.2.1 HR.out.2.2 x2
    have H2 := Lib.hid h2
    clear h2
    go_wp2_with fail
    refine H2.out.p.mono ?_
    rintro e w5 ⟨rfl, a1, a2, a3⟩
    have e2 := HB4.out.op1 HP.out a3
    have HM := Lib.hid (And.intro a1 (And.intro a2 a3))
    have HMI := Lib.hid (BH.mid HB4.out.w2 HP.out HI.out HX4.out a3 (Below.refl _ _))
    clear a1 a2 a3 c0 c1 c2 c3 c4 z1
    go_wp2_with fail
    refine (H2.out.q _ HMI.out.1 HMI.out.2).mono ?_
    rintro e w6 ⟨rfl, b1, b2, b3⟩
    have HF := Lib.hid (Two.ends HB4.out.w2 HP.out HI.out H2.out HM.out.1 HM.out.2.1 HM.out.2.2 (Below.refl _ _) b1 b2 b3 (Below.refl _ _))
    clear b1 b2 b3 e2
    go_wp2_with fail
    go_ret
    exact ⟨by first | rfl | simp, HF.out⟩
  have k4 : (x0 == 4) = false := by simpa using h4
  clear h4
  by_cases h5 : x0 = 5
  · subst h5
    obtain ⟨v0, v1, v2, v3, v4, er, bb, D', L', h2⟩ := close_two HT4.out HB4.out.w2.lp.own.fr HO.out HB4.out.w2.rx.rf HXR.out HR.out.1 HR.out.2.1 HR.out.2.2 x2
    have H2 := Lib.hid h2
    clear h2
    go_wp2_with fail
    refine H2.out.p.mono ?_
    rintro e w5 ⟨rfl, a1, a2, a3⟩
    have hk8 : Blk (w5.alloc (.cells #[.int .i64 0, .int .i64 0, .int .i64 0, .int .i64 0, .int .i64 0] 40)) w5.heap.size #[.int .i64 0, .int .i64 0, .int .i64 0, .int .i64 0, .int .i64 0] := Blk.of_heap (heap_at rfl)
    have hb8 : Below w5.heap.size w5 (w5.alloc (.cells #[.int .i64 0, .int .i64 0, .int .i64 0, .int .i64 0, .int .i64 0] 40)) := (Below.refl _ _).alloc (Nat.le_refl _) _
    obtain ⟨w6, s1, s2, s3, s4⟩ := store5 (w5.alloc (.cells #[.int .i64 0, .int .i64 0, .int .i64 0, .int .i64 0, .int .i64 0] 40)) w5.heap.size 0 0 0 0 0 v0 v1 v2 v3 v4 hk8
    have hb9 : Below w5.heap.size w5 w6 := hb8.trans (s3.below (B := w5.heap.size) (fun k hk q => by omega) hb8.size)
    have e2 := (hb9.cell (p := ⟨oc, 2, none⟩) (cell_lt (HB4.out.op1 HP.out a3))).trans (HB4.out.op1 HP.out a3)
    have HM := Lib.hid (And.intro a1 (And.intro a2 (And.intro a3 hb9)))
    have HMI := Lib.hid (BH.mid HB4.out.w2 HP.out HI.out HX4.out a3 hb9)
    have hbx : w5.heap.size ≠ xx ∧ w5.heap.size ≠ r := by
      have g1 := HX4.out.lt
      have g2 := HB4.out.w2.rx.rfoot.1
      have g3 := a3.size
      omega
    have hb1l : w5.heap.size < w6.heap.size := by exact s2.lt
    have HS2 := Lib.hid s2
    have HBX := Lib.hid (And.intro hbx hb1l)
    clear a1 a2 a3 c0 c1 c2 c3 c4 z1 hk8 hb8 s2 s3 s4 hb9 hbx hb1l
    generalize hu8 : w5.alloc (.cells #[.int .i64 0, .int .i64 0, .int .i64 0, .int .i64 0, .int .i64 0] 40) = w8 at *
    go_wp2_with (first | (rw [hu8]) | (refine wpList_store_run rfl 40 (.tmp 16) (.tmp 115) rfl (.pointer (some ⟨w5.heap.size, 0, none⟩)) (.agg #[.int .i64 v0, .int .i64 v1, .int .i64 v2, .int .i64 v3, .int .i64 v4]) rfl rfl s1 ?_) | fail)
    refine (H2.out.q _ HMI.out.1 HMI.out.2).mono ?_
    rintro e w7 ⟨rfl, a1, a2, a3⟩
    have hk9 : Blk (w7.alloc (.cells #[.int .i64 0, .int .i64 0, .int .i64 0, .int .i64 0, .int .i64 0] 40)) w7.heap.size #[.int .i64 0, .int .i64 0, .int .i64 0, .int .i64 0, .int .i64 0] := Blk.of_heap (heap_at rfl)
    have hb9 : Below w7.heap.size w7 (w7.alloc (.cells #[.int .i64 0, .int .i64 0, .int .i64 0, .int .i64 0, .int .i64 0] 40)) := (Below.refl _ _).alloc (Nat.le_refl _) _
    obtain ⟨w10, s1, s2, s3, s4⟩ := store5 (w7.alloc (.cells #[.int .i64 0, .int .i64 0, .int .i64 0, .int .i64 0, .int .i64 0] 40)) w7.heap.size 0 0 0 0 0 v0 v1 v2 v3 v4 hk9
    have hb10 : Below w7.heap.size w7 w10 := hb9.trans (s3.below (B := w7.heap.size) (fun k hk q => by omega) hb9.size)
    have HF := Lib.hid (Two.ends HB4.out.w2 HP.out HI.out H2.out HM.out.1 HM.out.2.1 HM.out.2.2.1 HM.out.2.2.2 a1 a2 a3 hb10)
    have hB7 : Blk w7 w5.heap.size #[.int .i64 v0, .int .i64 v1, .int .i64 v2, .int .i64 v3, .int .i64 v4] := HS2.out.ch a3 (fun q => q.elim (fun q => HBX.out.1.1 q) (fun q => HBX.out.1.2 q))
    have hB1 : Blk w10 w5.heap.size #[.int .i64 v0, .int .i64 v1, .int .i64 v2, .int .i64 v3, .int .i64 v4] := hB7.same (hb10.block w5.heap.size hB7.lt)
    have l1 : (Instr.loadAt 40 (.pointer (some ⟨w5.heap.size, 0, none⟩))).run Try.prog w10 = .ok (.agg #[.int .i64 v0, .int .i64 v1, .int .i64 v2, .int .i64 v3, .int .i64 v4]) w10 := hB1.load (ty := 40) (d := (Try.prog.underlying 40).getD default) (by kernel_rfl) (by kernel_rfl) (by kernel_rfl)
    have l2 : (Instr.loadAt 40 (.pointer (some ⟨w7.heap.size, 0, none⟩))).run Try.prog w10 = .ok (.agg #[.int .i64 v0, .int .i64 v1, .int .i64 v2, .int .i64 v3, .int .i64 v4]) w10 := s2.load (ty := 40) (d := (Try.prog.underlying 40).getD default) (by kernel_rfl) (by kernel_rfl) (by kernel_rfl)
    have he := eql40 v0 v1 v2 v3 v4
    clear hu8 hk9 hb9 hb10 s2 s3 s4 a1 a2 a3 hB7 hB1 e2
    generalize hu9 : w7.alloc (.cells #[.int .i64 0, .int .i64 0, .int .i64 0, .int .i64 0, .int .i64 0] 40) = w9 at *
    go_wp2_with (first | (rw [hu9]) | (refine wpList_store_run rfl 40 (.tmp 19) (.tmp 123) rfl (.pointer (some ⟨w7.heap.size, 0, none⟩)) (.agg #[.int .i64 v0, .int .i64 v1, .int .i64 v2, .int .i64 v3, .int .i64 v4]) rfl rfl s1 ?_) | (refine wpList_load_run rfl 40 (.tmp 16) rfl (.pointer (some ⟨w5.heap.size, 0, none⟩)) rfl l1 ?_) | (refine wpList_load_run rfl 40 (.tmp 19) rfl (.pointer (some ⟨w7.heap.size, 0, none⟩)) rfl l2 ?_) | fail)
    go_ret
    exact ⟨by first | rfl | simp, HF.out⟩
  have k5 : (x0 == 5) = false := by simpa using h5
  clear h5
  by_cases h6 : x0 = 6
  · subst h6
    by_cases h12 : n < 12
    · have h12' : decide ((n : Int) < 12) = true := decide_eq_true (by omega)
      go_wp2_with fail
      refine (fork_ok HT4.out HB4.out.w2.lp.own.fr HO.out (fun v q hq => by have := HR.out.1 v q hq; have := HR.out.2; omega)).mono ?_
      rintro e w5 ⟨rfl, a1, a2, a3, a4⟩
      obtain ⟨wA, hwA⟩ : ∃ wA, wA = w5.drew := ⟨_, rfl⟩
      have hf := AB.fork HB4.out.w2 HP.out HI.out HX4.out (by rw [← HN.out.1]; exact h12) a1.drew a3.drew a4.drew
      obtain ⟨t, ht⟩ : ∃ t, t = w4.heap.size := ⟨_, rfl⟩
      rw [← ht, ← hwA] at hf
      rw [← ht]
      obtain ⟨hAB, hXX⟩ := hf
      have HAB := Lib.hid hAB
      have HAB0 := HAB
      have HXA := Lib.hid hXX
      have hwA' : w5.drew = wA := hwA.symm
      obtain ⟨tv, htv⟩ : ∃ tv, tv = tptr ts := ⟨_, rfl⟩
      obtain ⟨xv, hxv⟩ : ∃ xv, xv = xptr xs := ⟨_, rfl⟩
      have HAO := Lib.hid hAB.ao
      have HTV := Lib.hid (And.intro htv hxv)
      have hst0 := hAB.start
      rw [← HN.out.1, ← HN.out.2, ← htv, ← hxv] at hst0
      have HST := Lib.hid hst0
      clear a1 a2 a3 a4 hwA hAB hXX htv hxv hst0 c0 c1 c2 c3 c4 z1 ht h12 h12'
      obtain ⟨L1, hL1⟩ : ∃ L1, L1 = L := ⟨_, rfl⟩
      obtain ⟨L2, hL2⟩ : ∃ L2, L2 = bumps L DL := ⟨_, rfl⟩
      obtain ⟨DX, hDX⟩ : ∃ DX, DX = DL := ⟨_, rfl⟩
      have HLL := Lib.hid (And.intro hL1 (And.intro hL2 hDX))
      rw [← hL2] at HST HAB HAB0
      clear hL1 hL2 hDX
      go_wp2_with fail
      refine wp_theta [7, 8, 14, 15, 16] [5, 7, 8, 12, 14, 15, 16, 19, 22] (fun i ww => ((i = 7 ∨ i = 15) → ∃ b, ww = .slice (some ⟨b, 0, none⟩) 1 1) ∧ (i = 8 → ∃ A c', ww = .slice A (n + 1) c') ∧ (i = 16 → ∃ A c', ww = .slice A (nx + 1) c') ∧ (i = 14 → ∃ z, ww = .pointer (some ⟨z, 0, none⟩))) (AKK wA ob g r a n c y nx cy t tv xv DL L L2 7 8 14 15 16 19 22) (CO ob r) ?_ ?_ ?_ ?_ ?_ ?_ ?_ ?_ ?_ ?_
      · kernel_rfl
      · kernel_rfl
      · kernel_rfl
      · kernel_rfl
      · kernel_rfl
      · kernel_rfl
      · intro i hi
        by_cases h1 : i = 7 ∨ i = 15
        · exact ⟨.slice (some ⟨0, 0, none⟩) 1 1, fun _ => ⟨_, rfl⟩, fun e => by omega, fun e => by omega, fun e => by omega⟩
        · by_cases h2 : i = 8
          · exact ⟨.slice none (n + 1) 0, fun e => absurd e h1, fun _ => ⟨_, _, rfl⟩, fun e => by omega, fun e => by omega⟩
          · by_cases h3 : i = 16
            · exact ⟨.slice none (nx + 1) 0, fun e => absurd e h1, fun e => absurd e h2, fun _ => ⟨_, _, rfl⟩, fun e => by omega⟩
            · exact ⟨.pointer (some ⟨0, 0, none⟩), fun e => absurd e h1, fun e => absurd e h2, fun e => absurd e h3, fun _ => ⟨_, rfl⟩⟩
      · rw [hwA']; exact AKs.cast HST.out rfl rfl rfl rfl rfl rfl rfl
      · exact fun ρ D u hK => (AKs.cells hK).2.2.1
      · intro θ hθ
        simp only [SegsT, List.take_succ_cons, List.take_zero, List.drop_succ_cons, List.drop_zero, Nat.sub_zero, Nat.reduceSub, Nat.reduceAdd, List.drop_nil, List.take_nil]
        haveI i1 : Nonempty (Wd (CO ob r)) := ⟨⟨wA, (AKs.cells HST.out).2.2.1⟩⟩
        have l2 : ∀ s : Wd (CO ob r), s.val.cell? ⟨ob, 2, none⟩ = some (.pointer (some ⟨r, 0, none⟩)) := fun s => s.prop
        obtain ⟨b7, t7⟩ := (hθ 7 (by decide)).1 (.inl rfl)
        obtain ⟨b19, t19⟩ := (hθ 15 (by decide)).1 (.inr rfl)
        obtain ⟨A8, c8, t8⟩ := (hθ 8 (by decide)).2.1 rfl
        obtain ⟨A20, c20, t20⟩ := (hθ 16 (by decide)).2.2.1 rfl
        obtain ⟨xn, t18⟩ := (hθ 14 (by decide)).2.2.2 rfl
        repeat (go_big_quiet_step (fail))
        refine wpQuiet_nil ?_
        rw [if_neg (by decide)]
        refine ⟨.slice (some ⟨a, 0, none⟩) n c, detOK_run [] [19] (by kernel_rfl) (by kernel_rfl) (fun ρ D u hq hK => ?_), ?_⟩
        · have hn := hq.not 19 (by simp)
          exact ⟨u, run_box_any (s := Instr.loadAt 28 (.pointer (some ⟨ob, 1, none⟩))) (by kernel_rfl) (load_one 28 _ _ _ (by kernel_rfl) ((AKs.cells hK).2.1 hn)), AKs.cast hK (by simp [opv, upd, setV]) (by simp [opv, upd, setV]) (by simp [opv, upd, setV]) (by simp [opv, upd, setV]) (by simp [opv, upd, setV]) (by simp [upd]) (by simp [upd])⟩
        go_frame
        repeat (go_big_quiet_step (fail))
        refine wpQuiet_nil ?_
        rw [if_pos (by decide)]
        refine ⟨thOK_run [] [] (by kernel_rfl) (by kernel_rfl) (fun ρ D u hq hK => ?_), ?_⟩
        · have hK' : AKs wA ob g r a n c y nx cy t tv xv DL L L2 none _ _ _ _ _ _ u := AKs.cast hK (by rw [hq.now]; rfl) rfl rfl rfl rfl rfl rfl
          exact ⟨_, _, run_box_any (s := Instr.buildSlice 28 1 #[(0, .pointer (some ⟨t, 0, none⟩))]) (by kernel_rfl) (bs28 t u), ⟨fun _ => ⟨_, rfl⟩, fun e => absurd e (by decide), fun e => absurd e (by decide), fun e => absurd e (by decide)⟩, AKs.cast (hK'.s7 HAO.out) (by simp [opv, upd, setV]) (by simp [opv, upd, setV]) (by simp [opv, upd, setV]) (by simp [opv, upd, setV]) (by simp [opv, upd, setV]) (by simp [upd]) (by simp [upd])⟩
        rw [t7]
        go_frame
        repeat (go_big_quiet_step (fail))
        refine wpQuiet_nil ?_
        rw [if_pos (by decide)]
        refine ⟨thOK_run [7] [19] (by kernel_rfl) (by kernel_rfl) (fun ρ D u hq hK => ?_), ?_⟩
        · have hg := hq.gave 7 (by simp) (by decide)
          rw [t7] at hg
          have hK' : AKs wA ob g r a n c y nx cy t tv xv DL L L2 (some (.slice (some ⟨b7, 0, none⟩) 1 1)) none _ _ _ false _ u := AKs.cast hK (by rw [hq.did 7 (by simp), hg]; rfl) (by rw [hq.now]; rfl) rfl rfl rfl (hq.not 19 (by simp)) rfl
          obtain ⟨A, c', w', e1, e2⟩ := hK'.s8 HAO.out HN12.out.1 28
          exact ⟨_, w', run_box_any (s := Builtin.append_ #[28, 28] 28 #[.slice (some ⟨a, 0, none⟩) n c, .slice (some ⟨b7, 0, none⟩) 1 1]) (by kernel_rfl) e1, ⟨fun e => absurd e (by decide), fun _ => ⟨A, c', rfl⟩, fun e => absurd e (by decide), fun e => absurd e (by decide)⟩, AKs.cast e2 (by simp [opv, upd, setV, hq.did 7 (by simp), hg]) (by simp [opv, upd, setV]) (by simp [opv, upd, setV]) (by simp [opv, upd, setV]) (by simp [opv, upd, setV]) (by simp [upd, hq.not 19 (by simp)]) (by simp [upd])⟩
        rw [t8]
        go_frame
        repeat (go_big_quiet_step (fail))
        refine wpQuiet_nil ?_
        rw [if_neg (by decide)]
        refine ⟨.slice (some ⟨y, 0, none⟩) nx cy, detOK_run [] [22] (by kernel_rfl) (by kernel_rfl) (fun ρ D u hq hK => ?_), ?_⟩
        · have hn := hq.not 22 (by simp)
          exact ⟨u, run_box_any (s := Instr.loadAt 30 (.pointer (some ⟨ob, 3, none⟩))) (by kernel_rfl) (load_one 30 _ _ _ (by kernel_rfl) ((AKs.cells hK).2.2.2.1 hn)), AKs.cast hK (by simp [opv, upd, setV]) (by simp [opv, upd, setV]) (by simp [opv, upd, setV]) (by simp [opv, upd, setV]) (by simp [opv, upd, setV]) (by simp [upd]) (by simp [upd])⟩
        go_frame
        repeat (go_big_quiet_step (fail))
        refine wpQuiet_nil ?_
        rw [if_pos (by decide)]
        refine ⟨thOK_call [] [15, 16] 33 _ _ (by kernel_rfl) rfl (by kernel_rfl) #[.pointer (some ⟨xx, 0, none⟩)] (by kernel_rfl) (by kernel_rfl) (fun ρ D0 u hq hK => ?_), ?_⟩
        · have hK' : AKs wA ob g r a n c y nx cy t tv xv DL L L2 _ _ none none none _ _ u := AKs.cast hK rfl rfl (by rw [hq.now]; rfl) (by rw [hq.not 15 (by simp)]; rfl) (by rw [hq.not 16 (by simp)]; rfl) rfl rfl
          have hXu : XR u xx r DL := HXA.out.1.ch hK'.ch (by
            rintro (q | q | q | q)
            · exact HXA.out.2.2.1 q
            · exact HXA.out.2.2.2.1 q
            · exact HXA.out.2.1 q
            · exact HXA.out.2.2.2.2 q)
          have hRu : RF u r L := by simpa using hK'.rf
          refine (rfork_ok hXu hRu HXR.out (fun v q hq => by have := HR.out.1 v q hq; have := HR.out.2; omega)).mono ?_
          rintro e u2 ⟨z, rfl, b1, b2, b3, b4, b5⟩
          rw [← HLL.out.2.1] at b4
          exact ⟨_, rfl, ⟨fun e => absurd e (by decide), fun e => absurd e (by decide), fun e => absurd e (by decide), fun _ => ⟨_, rfl⟩⟩, AKs.cast (hK'.s18 HAO.out b1 b2 b4 b5) (by simp [opv, upd, setV]) (by simp [opv, upd, setV]) (by simp [opv, upd, setV]) (by simp [opv, upd, setV, hq.not 15 (by simp)]) (by simp [opv, upd, setV, hq.not 16 (by simp)]) (by simp [upd]) (by simp [upd])⟩
        rw [t18]
        go_frame
        repeat (go_big_quiet_step (fail))
        refine wpQuiet_nil ?_
        rw [if_pos (by decide)]
        refine ⟨thOK_run [14] [] (by kernel_rfl) (by kernel_rfl) (fun ρ D u hq hK => ?_), ?_⟩
        · have hg := hq.gave 14 (by simp) (by decide)
          rw [t18] at hg
          have hK' : AKs wA ob g r a n c y nx cy t tv xv DL L L2 _ _ (some (.pointer (some ⟨xn, 0, none⟩))) none _ _ _ u := AKs.cast hK rfl rfl (by rw [hq.did 14 (by simp), hg]; rfl) (by rw [hq.now]; rfl) rfl rfl rfl
          exact ⟨_, _, run_box_any (s := Instr.buildSlice 30 1 #[(0, .pointer (some ⟨xn, 0, none⟩))]) (by kernel_rfl) (bs30 _ rfl u), ⟨fun _ => ⟨_, rfl⟩, fun e => absurd e (by decide), fun e => absurd e (by decide), fun e => absurd e (by decide)⟩, AKs.cast (hK'.s19 HAO.out) (by simp [opv, upd, setV]) (by simp [opv, upd, setV]) (by simp [opv, upd, setV, hq.did 14 (by simp), hg]) (by simp [opv, upd, setV]) (by simp [opv, upd, setV]) (by simp [upd]) (by simp [upd])⟩
        rw [t19]
        go_frame
        repeat (go_big_quiet_step (fail))
        refine wpQuiet_nil ?_
        rw [if_pos (by decide)]
        refine ⟨thOK_run [14, 15] [22] (by kernel_rfl) (by kernel_rfl) (fun ρ D u hq hK => ?_), ?_⟩
        · have hg := hq.gave 15 (by simp) (by decide)
          have hg18 := hq.gave 14 (by simp) (by decide)
          rw [t19] at hg
          rw [t18] at hg18
          have hK' : AKs wA ob g r a n c y nx cy t tv xv DL L L2 _ _ (some (.pointer (some ⟨xn, 0, none⟩))) (some (.slice (some ⟨b19, 0, none⟩) 1 1)) none _ false u := AKs.cast hK rfl rfl (by rw [hq.did 14 (by simp), hg18]; rfl) (by rw [hq.did 15 (by simp), hg]; rfl) (by rw [hq.now]; rfl) rfl (hq.not 22 (by simp))
          obtain ⟨A, c', w', e1, e2⟩ := hK'.s20 HAO.out HN12.out.2 30
          exact ⟨_, w', run_box_any (s := Builtin.append_ #[30, 30] 30 #[.slice (some ⟨y, 0, none⟩) nx cy, .slice (some ⟨b19, 0, none⟩) 1 1]) (by kernel_rfl) e1, ⟨fun e => absurd e (by decide), fun e => absurd e (by decide), fun _ => ⟨A, c', rfl⟩, fun e => absurd e (by decide)⟩, AKs.cast e2 (by simp [opv, upd, setV]) (by simp [opv, upd, setV]) (by simp [opv, upd, setV, hq.did 14 (by simp), hg18]) (by simp [opv, upd, setV, hq.did 15 (by simp), hg]) (by simp [opv, upd, setV]) (by simp [upd]) (by simp [upd, hq.not 22 (by simp)])⟩
        rw [t20]
        go_frame
        repeat (go_big_quiet_step (fail))
        refine wpQuiet_nil ?_
        rw [if_neg (by decide)]
        refine ⟨undef, detOK_skip [8] [] (by kernel_rfl) (by kernel_rfl) (fun ρ D u hq hK => ?_), ?_⟩
        · have hg := hq.gave 8 (by simp) (by decide)
          rw [t8] at hg
          have hK' : AKs wA ob g r a n c y nx cy t tv xv DL L L2 _ (some (.slice A8 (n + 1) c8)) _ _ _ false _ u := AKs.cast hK rfl (by rw [hq.did 8 (by simp), hg]; rfl) rfl rfl rfl hq.now rfl
          obtain ⟨-, -, -, -, hcs, hfz⟩ := hK'.cells
          obtain ⟨vv, hvv⟩ := Option.isSome_iff_exists.1 (hcs 1 (by omega))
          exact ⟨_, run_skip_any (s := Instr.storeAt 28 (.pointer (some ⟨ob, 1, none⟩)) (.slice A8 (n + 1) c8)) (by kernel_rfl) (store_cell 28 _ _ vv u (by kernel_rfl) rfl hvv (hfz 1)), AKs.cast (hK'.s23 HAO.out) (by simp [opv, upd]) (by simp [opv, upd, hq.did 8 (by simp), hg]) (by simp [opv, upd]) (by simp [opv, upd]) (by simp [opv, upd]) (by simp [upd]) (by simp [upd])⟩
        repeat (go_big_quiet_step (fail))
        refine wpQuiet_nil ?_
        rw [if_neg (by decide)]
        refine ⟨undef, detOK_skip [16] [] (by kernel_rfl) (by kernel_rfl) (fun ρ D u hq hK => ?_), ?_⟩
        · have hg := hq.gave 16 (by simp) (by decide)
          rw [t20] at hg
          have hK' : AKs wA ob g r a n c y nx cy t tv xv DL L L2 _ _ _ _ (some (.slice A20 (nx + 1) c20)) _ false u := AKs.cast hK rfl rfl rfl rfl (by rw [hq.did 16 (by simp), hg]; rfl) rfl hq.now
          obtain ⟨-, -, -, -, hcs, hfz⟩ := hK'.cells
          obtain ⟨vv, hvv⟩ := Option.isSome_iff_exists.1 (hcs 3 (by omega))
          exact ⟨_, run_skip_any (s := Instr.storeAt 30 (.pointer (some ⟨ob, 3, none⟩)) (.slice A20 (nx + 1) c20)) (by kernel_rfl) (store_cell 30 _ _ vv u (by kernel_rfl) rfl hvv (hfz 3)), AKs.cast (hK'.s26 HAO.out) (by simp [opv, upd]) (by simp [opv, upd]) (by simp [opv, upd]) (by simp [opv, upd]) (by simp [opv, upd, hq.did 16 (by simp), hg]) (by simp [upd]) (by simp [upd])⟩
        repeat (go_big_quiet_step (fail))
        refine wpQuiet_nil ?_
        intro u3 hK
        have hK9 : AKs wA ob g r a n c y nx cy t tv xv DL L L2 (some (θ 7)) (some (θ 8)) (some (θ 14)) (some (θ 15)) (some (θ 16)) true true u3 := hK
        clear hK t7 t8 t18 t19 t20 i1 l2
        rw [HN.out.1, HN.out.2, HTV.out.1, HTV.out.2] at hK9
        obtain ⟨a2, c2, y2, cy2, x2', hF⟩ := hK9.done HAB0.out
        have HF := Lib.hid hF
        have HRB := Lib.hid (show RB L2 (B + 16) by rw [HLL.out.2.1]; exact HR.out.1.bumps DL HT4.out.len)
        clear hK9 hF hθ
        go_wp2_with fail
        go_ret
        exact ⟨by first | rfl | simp, _, _, _, _, _, _, _, HF.out, HRB.out⟩
    · have h12' : decide ((n : Int) < 12) = false := decide_eq_false (by omega)
      go_wp2_with fail
      go_ret
      exact ⟨by first | rfl | simp, _, _, _, _, _, _, _, HB4.out.w2, HR.out.1.mono (by omega)⟩
  · have k6 : (x0 == 6) = false := by simpa using h6
    clear h6 z1
    have hld : (Instr.loadAt 26 (.pointer (some ⟨oc, 0, none⟩))).run Try.prog w4 = .ok (.agg #[.int .i64 x0, .int .i64 x1, .int .i64 x2, .int .i64 x3, .int .i64 x4]) w4 := HB4.out.op.load (ty := 26) (d := (Try.prog.underlying 26).getD default) (by kernel_rfl) (by kernel_rfl) (by kernel_rfl)
    clear c1 c2 c3 c4
    go_wp2_with (first | (refine wpList_load_run rfl 26 (.tmp 3) rfl (.pointer (some ⟨oc, 0, none⟩)) rfl hld ?_) | fail)
    refine (files_ok HB4.out.w2 HR.out.1 HR.out.2.1 HR.out.2.2 x0 x1 x2 x3 x4).mono ?_
    rintro e w5 ⟨rfl, hF⟩
    have HF := Lib.hid hF
    clear hF
    go_wp2_with fail
    go_ret
    exact ⟨by first | rfl | simp, HF.out⟩
end
end Go.Proofs.Ythbbiobffoihaaa
