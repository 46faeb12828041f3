import Derived.Test.YthbbiobffoihaaaCntOps
import Derived.Test.YthbbiobffoihaaaCntW
import Derived.StillTailTactics
/- Refs are the descriptors: the walk. -/
namespace Go.Proofs.Ythbbiobffoihaaa
open Go.RowKit Go.BigFrame
set_option linter.unusedVariables false
set_option linter.unusedSimpArgs false
attribute [local go_sem] szIs_lit row_at row_past row_alloc nf_alloc row_set nf_set row_cell nf_cell row_drew nf_drew row_drewN nf_drewN cell_setRow frozen_setRow nlt1 nlt2 nlt3 nlt4 nne1 nne2 nne3 nen1 nen2 nen3
set_option maxRecDepth 100000
def CTop (u : World) : Prop := True
def OpPost (w w4 u : World) (ob g m a c : Nat) (vr vx : Value) (ts : TS) (L : PL Fl) (x3 x4 : Int) (r : Value) : Prop :=
  ∃ (v er : Int), r = .tuple #[.int .i64 v, .int .i64 er] ∧ ((er ≠ 0 ∧ w4 = u) ∨ (er = 0 ∧ ∃ (b : Nat), PL.get L v = none ∧ v ≠ -1 ∧ LP w u ob g m a c vr vx ts (L ++ [(v, b, ⟨x3, x4, 0, 0, 1⟩)])))
def OpK (w w4 : World) (ob g m a c : Nat) (vr vx : Value) (ts : TS) (L : PL Fl) (x3 x4 : Int) (ρ : Nat → Value) (D : Nat → Bool) (u : World) : Prop := if D 8 = true then OpPost w w4 u ob g m a c vr vx ts L x3 x4 (ρ 8) else u = w4
theorem load_one (ty : TypeId) (p : Addr) (v : Value) (u : World) (ha : (isAgg ty).run Try.prog u = .ok false u) (hc : u.cell? p = some v) : (Instr.loadAt ty (.pointer (some p))).run Try.prog u = .ok v u := by
  simp [go_sem, loadVar, ha, hc]
theorem tabT : ElT Try.prog 28 33 1 8 (.pointer none) := ⟨by kernel_rfl, by kernel_rfl, rfl, by simp [Value.cells, Value.oneCell'], by decide⟩
theorem bs28 (t : Nat) (w : World) : (Instr.buildSlice 28 1 #[(0, .pointer (some ⟨t, 0, none⟩))]).run Try.prog w = .ok (.slice (some ⟨w.heap.size, 0, none⟩) 1 1) (w.alloc (.cells #[.pointer (some ⟨t, 0, none⟩)] 33)) := by
  simp [go_sem]
/-- What each round finds. -/
structure LC (w wr : World) (ob j : Nat) (op cl : Int) (vr vx : Value) (g m a c : Nat) (ts : TS) (L : PL Fl) : Prop where
  lp : LP w wr ob g m a c vr vx ts L
  ci : CI ts L
  num : op - cl = (L.length : Int)
  bnd : 0 ≤ cl ∧ op ≤ (j : Int)
/-- Which table is meant. -/
theorem pick_at (x : Int) (n : Nat) (hn : 1 ≤ n) (hn2 : n ≤ 12) : ∃ (r : Int) (k : Nat), x.tmod (n : Int) = r ∧ IntKind.i64.wrap (r + (n : Int)) = r + (n : Int) ∧ (r + (n : Int)).tmod (n : Int) = (k : Int) ∧ (r + (n : Int)) % (n : Int) = (k : Int) ∧ k < n := by
  have h1 : x.tmod (n : Int) < n := Int.tmod_lt_of_pos x (by omega)
  have h2 : -(n : Int) < x.tmod (n : Int) := by
    have := Int.lt_tmod_of_pos x (b := (n : Int)) (by omega)
    exact this
  refine ⟨x.tmod n, ((x.tmod n + n) % n).toNat, rfl, IntWalk.i64_in _ (by omega), ?_, ?_, ?_⟩
  · rw [Int.tmod_eq_emod_of_nonneg (by omega)]
    have := Int.emod_nonneg (x.tmod n + n) (b := (n : Int)) (by omega)
    omega
  · have := Int.emod_nonneg (x.tmod n + n) (b := (n : Int)) (by omega)
    omega
  · have := Int.emod_lt_of_pos (x.tmod n + n) (b := (n : Int)) (by omega)
    have := Int.emod_nonneg (x.tmod n + n) (b := (n : Int)) (by omega)
    omega
set_option maxHeartbeats 8000000 in
theorem counts_walk (A : Option Addr) (len cap : Nat) (o : Nat → OpV) (w : World) (h : AreOp w w.heap.size A len cap o) : Calls Try.prog 3 #[.slice A len cap] w fun e w' => e = .returned (.bool true) ∧ Below w.heap.size w w' := by
  have hle := h.2.2.1
  have HA := Lib.hid h
  clear h
  have hlen : len ≤ 4398046511104 := by unfold reachBytes at hle; omega
  clear hle
  go_enter Try.func3, Try.ntmps3
  go_wp2_with fail
  refine (start_ok w).mono ?_
  rintro e w1 ⟨ob, g, m, t, a, r, x, y, rfl, hS⟩
  have hLP : LP w w1 ob g m a 1 (.pointer (some ⟨r, 0, none⟩)) (.slice (some ⟨y, 0, none⟩) 1 1) [(t, List.replicate 16 (-1))] [] := by
    obtain ⟨o1, o2, o3, o4, o5, o6, o7, o8⟩ := hS.ord
    refine ⟨hS.wr, by simp, by simp, hS.bel, fun k hk => ?_⟩
    rcases hk with q | q | (q | q | q) | q
    · omega
    · omega
    · omega
    · omega
    · simp [PL.bs] at q
    · simp [tbs] at q; omega
  generalize (Value.pointer (some (⟨r, 0, none⟩ : Addr))) = vr at *
  generalize (Value.slice (some (⟨y, 0, none⟩ : Addr)) 1 1) = vx at *
  have HLC := Lib.hid (LC.mk (j := 0) (op := 0) (cl := 0) hLP (CI.start t) (by simp) ⟨by omega, by omega⟩)
  clear hS hLP
  go_wp2_with fail
  go_loopg [4, 5, 26] len (fun k c_ o_ i_ wr => ∃ (j : Nat) (op cl : Int) (g m a c : Nat) (ts : TS) (L : PL Fl), i_ = .int .i64 (j : Int) ∧ c_ = .int .i64 cl ∧ o_ = .int .i64 op ∧ k = len - j ∧ j ≤ len ∧ LC w wr ob j op cl vr vx g m a c ts L)
  case atStart => exact ⟨0, 0, 0, g, m, a, 1, _, _, rfl, rfl, rfl, rfl, by omega, HLC.out⟩
  case round =>
    obtain ⟨j, op, cl, g, m, a, c, ts, L, rfl, rfl, rfl, hk, hj, hLC⟩ := hrel
    have HK := Lib.hid hk
    have HL := Lib.hid hLC
    clear hk hLC
    by_cases hlt : j < len
    · obtain ⟨ba, off, rfl, hbl, hall⟩ := HA.out.2.2.2 (by omega)
      have hop := (hall j hlt)
      obtain ⟨p0, -, p1, -, p2, -, p3, -, p4, -⟩ := hop
      generalize (o j).x0 = x0 at p0
      generalize (o j).x1 = x1 at p1
      generalize (o j).x2 = x2 at p2
      generalize (o j).x3 = x3 at p3
      generalize (o j).x4 = x4 at p4
      have hbe := HL.out.lp.bel
      have r0 := (hbe.cell (p := ⟨ba, off + j * 5, none⟩) hbl).trans p0
      have r1 := (hbe.cell (p := ⟨ba, off + j * 5 + 1, none⟩) hbl).trans p1
      have r2 := (hbe.cell (p := ⟨ba, off + j * 5 + 2, none⟩) hbl).trans p2
      have r3 := (hbe.cell (p := ⟨ba, off + j * 5 + 3, none⟩) hbl).trans p3
      have r4 := (hbe.cell (p := ⟨ba, off + j * 5 + 4, none⟩) hbl).trans p4
      clear p0 p1 p2 p3 p4 hbe hall
      -- the copy of the call
      have hk : Blk (wr.alloc (.cells #[.int .i64 0, .int .i64 0, .int .i64 0, .int .i64 0, .int .i64 0] 26)) wr.heap.size #[.int .i64 0, .int .i64 0, .int .i64 0, .int .i64 0, .int .i64 0] := Blk.of_heap (heap_at rfl)
      have hb1 : Below wr.heap.size wr (wr.alloc (.cells #[.int .i64 0, .int .i64 0, .int .i64 0, .int .i64 0, .int .i64 0] 26)) := (Below.refl _ _).alloc (Nat.le_refl _) _
      obtain ⟨w2, s1, s2, s3, s4⟩ := hk.storeAll (P := Try.prog) (ty := 26) (c' := #[.int .i64 x0, .int .i64 x1, .int .i64 x2, .int .i64 x3, .int .i64 x4]) (by kernel_rfl) rfl (by simp [Value.oneCell'])
      have hb2 : Below wr.heap.size wr w2 := hb1.trans (s3.below (B := wr.heap.size) (fun k hk q => by omega) hb1.size)
      have hL2 := HL.out.lp.below hb2
      obtain ⟨-, -, o0, o1⟩ := s2.all
      have c0 := (o0 0).trans rfl
      have c1 := (o0 1).trans rfl
      have c2 := (o0 2).trans rfl
      have c3 := (o0 3).trans rfl
      have c4 := (o0 4).trans rfl
      have HO := Lib.hid s2
      have HL2 := Lib.hid hL2
      have hld : (Instr.loadAt 26 (.pointer (some ⟨ba, off + j * 5, none⟩))).run Try.prog wr = .ok (.agg #[.int .i64 x0, .int .i64 x1, .int .i64 x2, .int .i64 x3, .int .i64 x4]) wr :=
        run_loadAt_mid wr ba (off + j * 5) 26 [.int .i64 x0, .int .i64 x1, .int .i64 x2, .int .i64 x3, .int .i64 x4] ((Try.prog.underlying 26).getD default) (fun q v hv => by
          rcases (show q = 0 ∨ q = 1 ∨ q = 2 ∨ q = 3 ∨ q = 4 ∨ 5 ≤ q by omega) with rfl | rfl | rfl | rfl | rfl | hq
          · simp at hv; subst hv; exact r0
          · simp at hv; subst hv; exact r1
          · simp at hv; subst hv; exact r2
          · simp at hv; subst hv; exact r3
          · simp at hv; subst hv; exact r4
          · rw [List.getElem?_eq_none (by simpa using hq)] at hv; cases hv) (by kernel_rfl) (by kernel_rfl) (by kernel_rfl)
      clear hk hb1 s2 s3 s4 hb2 hL2 o0 o1 r0 r1 r2 r3 r4
      generalize hu8 : wr.alloc (.cells #[.int .i64 0, .int .i64 0, .int .i64 0, .int .i64 0, .int .i64 0] 26) = w8 at *
      go_upto_region 9 with (first | (refine wpList_load_run rfl 26 (.tmp 28) rfl (.pointer (some ⟨ba, off + j * 5, none⟩)) rfl hld ?_) | (rw [hu8]) | (refine wpList_runU rfl (s := Instr.storeAt 26 (.pointer (some ⟨wr.heap.size, 0, none⟩)) (.agg #[.int .i64 x0, .int .i64 x1, .int .i64 x2, .int .i64 x3, .int .i64 x4])) (by kernel_rfl) s1 ?_) | fail)
      clear hu8 s1 hld
      obtain ⟨q0, q1, q2, q3, q4⟩ := HL2.out.own.cells
      obtain ⟨n, hn⟩ : ∃ n, n = ts.length := ⟨_, rfl⟩
      rw [← hn] at q1
      obtain ⟨r, k, t1, t2, t3, t4, t5⟩ := pick_at x1 n (by rw [hn]; exact HL2.out.n1) (by rw [hn]; exact HL2.out.n2)
      obtain ⟨p, hp⟩ : ∃ p, ts[k]? = some p := ⟨_, List.getElem?_eq_getElem (by rw [← hn]; exact t5)⟩
      obtain ⟨t, D⟩ := p
      have hct := HL2.out.own.tcell hp
      have hn0 : ((n : Int) == 0) = false := by simp; omega
      have hn1 : ¬ n = 0 := by omega
      have HP := Lib.hid (And.intro hp hn)
      have hn12 : n ≤ 12 := by rw [hn]; exact HL2.out.n2
      clear hp hn
      go_quiet (fail)
      go_upto_region 12 with fail
      have HL3' := Lib.hid (HL2.out.drewN nq)
      generalize hw3 : w2.drewN nq = w3 at *
      have HL3 := HL3'
      clear HL3'
      have e0 : w3.cell? ⟨wr.heap.size, 0, none⟩ = some (.int .i64 x0) := by rw [← hw3]; exact c0
      have e2 : w3.cell? ⟨wr.heap.size, 2, none⟩ = some (.int .i64 x2) := by rw [← hw3]; exact c2
      have e3 : w3.cell? ⟨wr.heap.size, 3, none⟩ = some (.int .i64 x3) := by rw [← hw3]; exact c3
      have e4 : w3.cell? ⟨wr.heap.size, 4, none⟩ = some (.int .i64 x4) := by rw [← hw3]; exact c4
      clear hw3 c0 c1 c2 c3 c4 hct q0 q1 q2 q3 q4 t1 t2 t3 t4 hn0 hn1
      obtain ⟨z0, z1, z2, z3, z4⟩ := HL3.out.own.cells
      rw [← HP.out.2] at z1
      have c0 := e0
      have c1 := e0
      have c2 := e2
      have c3 := e3
      have c4 := e4
      clear e0 e2 e3 e4
      by_cases h0 : x0 = 0
      · subst h0
        go_wp2_with fail
        refine (free_ok (HL3.out.own.tab HP.out.1).1).mono ?_
        rintro e w4 ⟨rfl, hb⟩
        have HL4 := Lib.hid (HL3.out.below hb)
        have c3' := (hb.cell (p := ⟨wr.heap.size, 3, none⟩) (cell_lt c3)).trans c3
        have c4' := (hb.cell (p := ⟨wr.heap.size, 4, none⟩) (cell_lt c4)).trans c4
        obtain ⟨z0, z1, z2, z3, z4⟩ := HL4.out.own.cells
        clear hb c0 c1 c2 c3 c4
        obtain ⟨fr, hfr⟩ : ∃ fr : Int, fr = 16 - ((fdl D 16).length : Int) := ⟨_, rfl⟩
        have HFR := Lib.hid hfr
        rw [← hfr]
        clear hfr
        by_cases hz : fr = 0
        · subst hz
          go_wp2_with fail
          go_roundg (len - (j + 1))
          case measure => have := HK.out; omega
          case rel => exact ⟨j + 1, op, cl, g, m, a, c, ts, L, by first | rfl | go_num, by first | rfl | (simp; done), by first | rfl | (simp; done), rfl, by omega, ⟨HL4.out, HL.out.ci, by have := HL.out.num; have := HL.out.bnd; omega, by have := HL.out.bnd; have := HL.out.num; omega⟩⟩
        · have hz2 : (fr == 0) = false := by simpa using hz
          have HZ0 := Lib.hid hz
          clear hz
          go_upto_region 14 with fail
          have HO := fun (u : World) (hu : u = w4.drew) => (show Calls Try.prog 8 #[.pointer (some ⟨g, 0, none⟩), .int .i64 x3, .int .i64 x4, .int .i64 0] u _ from open_any (show LP w u ob g m a c vr vx ts L by rw [hu]; exact HL4.out.drew) x3 x4)
          have HO := Lib.hid HO
          have HC := Lib.hid (And.intro z0 (And.intro c3' c4'))
          clear z0 z1 z2 z3 z4 c3' c4'
          refine wp_theta [8] [3, 5, 7, 8] (fun i v => ∃ va er : Int, v = .tuple #[.int .i64 va, .int .i64 er]) (OpK w w4.drew ob g m a c vr vx ts L x3 x4) (CTop) ?_ ?_ ?_ ?_ ?_ ?_ ?_ ?_ ?_ ?_
          · kernel_rfl
          · kernel_rfl
          · kernel_rfl
          · kernel_rfl
          · kernel_rfl
          · kernel_rfl
          · exact fun i hi => ⟨_, 0, 0, rfl⟩
          · unfold OpK; simp
          · exact fun ρ D u hK => trivial
          · intro θ hθ
            simp only [SegsT, List.take_succ_cons, List.take_zero, List.drop_succ_cons, List.drop_zero, Nat.sub_zero, Nat.reduceSub, Nat.reduceAdd, List.drop_nil, List.take_nil]
            haveI i1 : Nonempty (Wd CTop) := ⟨⟨w4, trivial⟩⟩
            obtain ⟨va, er, t8⟩ := hθ 8 (by decide)
            repeat (go_big_quiet_step (fail))
            refine wpQuiet_nil ?_
            rw [if_neg (by decide)]
            refine ⟨.pointer (some ⟨g, 0, none⟩), detOK_run [] [8] (by kernel_rfl) (by kernel_rfl) (fun ρ D u hq hK => ?_), ?_⟩
            · have h8 := hq.not 8 (by simp)
              unfold OpK at hK
              rw [h8] at hK
              simp only [Bool.false_eq_true, if_false] at hK
              subst hK
              exact ⟨_, run_box_any (s := Instr.loadAt 27 (.pointer (some ⟨ob, 0, none⟩))) (by kernel_rfl) (load_one 27 _ _ _ (by kernel_rfl) HC.out.1), by unfold OpK; simp [upd, h8]⟩
            go_frame
            repeat (go_big_quiet_step (fail))
            refine wpQuiet_nil ?_
            rw [if_neg (by decide)]
            refine ⟨.int .i64 x3, detOK_run [] [8] (by kernel_rfl) (by kernel_rfl) (fun ρ D u hq hK => ?_), ?_⟩
            · have h8 := hq.not 8 (by simp)
              unfold OpK at hK
              rw [h8] at hK
              simp only [Bool.false_eq_true, if_false] at hK
              subst hK
              exact ⟨_, run_box_any (s := Instr.loadAt 3 (.pointer (some ⟨wr.heap.size, 3, none⟩))) (by kernel_rfl) (load_one 3 _ _ _ (by kernel_rfl) HC.out.2.1), by unfold OpK; simp [upd, h8]⟩
            go_frame
            repeat (go_big_quiet_step (fail))
            refine wpQuiet_nil ?_
            rw [if_neg (by decide)]
            refine ⟨.int .i64 x4, detOK_run [] [8] (by kernel_rfl) (by kernel_rfl) (fun ρ D u hq hK => ?_), ?_⟩
            · have h8 := hq.not 8 (by simp)
              unfold OpK at hK
              rw [h8] at hK
              simp only [Bool.false_eq_true, if_false] at hK
              subst hK
              exact ⟨_, run_box_any (s := Instr.loadAt 3 (.pointer (some ⟨wr.heap.size, 4, none⟩))) (by kernel_rfl) (load_one 3 _ _ _ (by kernel_rfl) HC.out.2.2), by unfold OpK; simp [upd, h8]⟩
            go_frame
            repeat (go_big_quiet_step (fail))
            refine wpQuiet_nil ?_
            rw [if_pos (by decide)]
            refine ⟨thOK_call [] [] 8 _ _ (by kernel_rfl) rfl (by kernel_rfl) #[.pointer (some ⟨g, 0, none⟩), .int .i64 x3, .int .i64 x4, .int .i64 0] (by kernel_rfl) (by kernel_rfl) (fun ρ D u hq hK => ?_), ?_⟩
            · have h8 := hq.now
              unfold OpK at hK
              rw [h8] at hK
              simp only [Bool.false_eq_true, if_false] at hK
              refine (HO.out u hK).mono fun e u' hp => ?_
              obtain ⟨va', er', he, hor⟩ := hp
              exact ⟨_, he, ⟨va', er', rfl⟩, by unfold OpK; simp only [upd, setV]; simp; exact ⟨va', er', rfl, by rw [hK] at hor; exact hor⟩⟩
            rw [t8]
            go_frame
            repeat (go_big_quiet_step (fail))
            refine wpQuiet_nil ?_
            intro w6 hK
            have hK2 : OpPost w w4.drew w6 ob g m a c vr vx ts L x3 x4 (θ 8) := by
              have := hK
              unfold OpK at this
              simpa [rst, res] using this
            clear hK
            obtain ⟨v, er2, e8, hor⟩ := hK2
            rw [t8] at e8
            obtain ⟨rfl, rfl⟩ : v = va ∧ er = er2 := by
              have := e8
              simp at this
              exact ⟨this.1.symm, this.2⟩
            clear e8 t8 hθ i1
            rcases hor with ⟨her, rfl⟩ | ⟨rfl, b, hg, hv, hL6⟩
            · have her2 : (er == 0) = false := by simpa using her
              clear her
              have HL5 := Lib.hid (HL4.out.drew)
              go_wp2_with fail
              go_roundg (len - (j + 1))
              case measure => have := HK.out; omega
              case rel => exact ⟨j + 1, op, cl, g, m, a, c, ts, L, by first | rfl | go_num, by first | rfl | (simp; done), by first | rfl | (simp; done), rfl, by omega, ⟨HL5.out, HL.out.ci, by have := HL.out.num; have := HL.out.bnd; omega, by have := HL.out.bnd; have := HL.out.num; omega⟩⟩
            · have HL6 := Lib.hid hL6
              have HG := Lib.hid (And.intro hg hv)
              have hop1 : IntKind.i64.wrap (op + 1) = op + 1 := IntWalk.i64_in _ (by have := HL.out.bnd; have := HL.out.num; omega)
              clear hL6 hg hv
              go_wp2_with fail
              refine (inst_any HL6.out HL.out.ci HG.out.1 HG.out.2 HP.out.1 (by rw [← HFR.out]; exact HZ0.out)).mono ?_
              rintro e w7 ⟨f, D', rfl, hL7, hC7⟩
              have HL7 := Lib.hid hL7
              have HC7 := Lib.hid hC7
              clear hL7 hC7
              obtain ⟨nn, hnn⟩ : ∃ nn : Int, nn = (((L ++ [(v, b, (⟨x3, x4, 0, 0, 1⟩ : Fl))])).length : Int) := ⟨_, rfl⟩
              have hsub : IntKind.i64.wrap ((op + 1) - cl) = nn := by
                have e : (op + 1) - cl = (((L ++ [(v, b, (⟨x3, x4, 0, 0, 1⟩ : Fl))])).length : Int) := by have := HL.out.num; have := HL.out.bnd; simp; omega
                rw [e, hnn]; exact IntWalk.i64_in _ (by have := HL7.out.own.fr.len; omega)
              have hct0 := counted_ok HL7.out.own HC7.out HL7.out.n2
              rw [← hnn] at hct0
              have HCT := Lib.hid hct0
              clear hnn hct0
              go_wp2_with fail
              refine HCT.out.mono ?_
              rintro e wz ⟨rfl, hb⟩
              have HZ := Lib.hid (HL7.out.below hb)
              clear hb hsub
              go_wp2_with fail
              go_roundg (len - (j + 1))
              case measure => have := HK.out; omega
              case rel => exact ⟨j + 1, (op + 1), cl, g, m, a, c, (ts.set k (t, D')), (L ++ [(v, b, (⟨x3, x4, 0, 0, 1⟩ : Fl))]), by first | rfl | go_num, by first | rfl | (simp; done), by first | rfl | (simp; done), rfl, by omega, ⟨HZ.out, HC7.out, by have := HL.out.num; have := HL.out.bnd; simp; omega, by have := HL.out.bnd; have := HL.out.num; omega⟩⟩
      have k0 : (x0 == 0) = false := by simpa using h0
      have HX0 := Lib.hid h0
      clear h0
      by_cases h4 : x0 = 4
      · subst h4
        go_wp2_with fail
        refine (dup_any HL3.out HL.out.ci HP.out.1 x2).mono ?_
        rintro e w4 ⟨v, er, D', L', rfl, hL4, hC4, hlen4⟩
        have HL4 := Lib.hid hL4
        have HC4 := Lib.hid hC4
        have HN4 := Lib.hid hlen4
        clear hL4 hC4 hlen4 c0 c1 c2 c3 c4
        obtain ⟨nn, hnn⟩ : ∃ nn : Int, nn = ((L').length : Int) := ⟨_, rfl⟩
        have hsub : IntKind.i64.wrap (op - cl) = nn := by
          have e : op - cl = ((L').length : Int) := by have := HL.out.num; have := HL.out.bnd; have := HN4.out; omega
          rw [e, hnn]; exact IntWalk.i64_in _ (by have := HL4.out.own.fr.len; omega)
        have hct0 := counted_ok HL4.out.own HC4.out HL4.out.n2
        rw [← hnn] at hct0
        have HCT := Lib.hid hct0
        clear hnn hct0
        go_wp2_with fail
        refine HCT.out.mono ?_
        rintro e wz ⟨rfl, hb⟩
        have HZ := Lib.hid (HL4.out.below hb)
        clear hb hsub
        go_wp2_with fail
        go_roundg (len - (j + 1))
        case measure => have := HK.out; omega
        case rel => exact ⟨j + 1, op, cl, g, m, a, c, (ts.set k (t, D')), L', by first | rfl | go_num, by first | rfl | (simp; done), by first | rfl | (simp; done), rfl, by omega, ⟨HZ.out, HC4.out, by have := HL.out.num; have := HL.out.bnd; have := HN4.out; omega, by have := HL.out.bnd; have := HL.out.num; omega⟩⟩
      have k4 : (x0 == 4) = false := by simpa using h4
      clear h4
      by_cases h5 : x0 = 5
      · subst h5
        go_wp2_with fail
        refine (close_all HL3.out HL.out.ci HP.out.1 x2).mono ?_
        rintro e w4 ⟨v0, v1, v2, v3, v4, er, bb, D', L', rfl, hL4, hC4, hlen4⟩
        clear c0 c1 c2 c3 c4
        have hk8 : Blk (w4.alloc (.cells #[.int .i64 0, .int .i64 0, .int .i64 0, .int .i64 0, .int .i64 0] 40)) w4.heap.size #[.int .i64 0, .int .i64 0, .int .i64 0, .int .i64 0, .int .i64 0] := Blk.of_heap (heap_at rfl)
        have hb8 : Below w4.heap.size w4 (w4.alloc (.cells #[.int .i64 0, .int .i64 0, .int .i64 0, .int .i64 0, .int .i64 0] 40)) := (Below.refl _ _).alloc (Nat.le_refl _) _
        obtain ⟨w5, s1, s2, s3, s4⟩ := store5 (w4.alloc (.cells #[.int .i64 0, .int .i64 0, .int .i64 0, .int .i64 0, .int .i64 0] 40)) w4.heap.size 0 0 0 0 0 v0 v1 v2 v3 v4 hk8
        have hb9 : Below w4.heap.size w4 w5 := hb8.trans (s3.below (B := w4.heap.size) (fun k hk q => by omega) hb8.size)
        have HL5 := Lib.hid (hL4.below hb9)
        have HC5 := Lib.hid hC4
        clear hL4 hC4 hk8 hb8 hb9 s2 s3 s4
        generalize hu8 : w4.alloc (.cells #[.int .i64 0, .int .i64 0, .int .i64 0, .int .i64 0, .int .i64 0] 40) = w8 at *
        rcases hlen4 with ⟨rfl, hlen⟩ | ⟨rfl, rfl, hlen⟩ | ⟨rfl, rfl, hlen⟩
        · have HN := Lib.hid hlen
          clear hlen
          obtain ⟨nn, hnn⟩ : ∃ nn : Int, nn = ((L').length : Int) := ⟨_, rfl⟩
          have hsub : IntKind.i64.wrap (op - cl) = nn := by
            have e : op - cl = ((L').length : Int) := by have := HL.out.num; have := HL.out.bnd; have := HN.out; omega
            rw [e, hnn]; exact IntWalk.i64_in _ (by have := HL5.out.own.fr.len; omega)
          have hct0 := counted_ok HL5.out.own HC5.out HL5.out.n2
          rw [← hnn] at hct0
          have HCT := Lib.hid hct0
          clear hnn hct0
          go_wp2_with (first | (rw [hu8]) | (refine wpList_runU rfl (s := Instr.storeAt 40 (.pointer (some ⟨w4.heap.size, 0, none⟩)) (.agg #[.int .i64 v0, .int .i64 v1, .int .i64 v2, .int .i64 v3, .int .i64 v4])) (by kernel_rfl) s1 ?_) | fail)
          refine HCT.out.mono ?_
          rintro e wz ⟨rfl, hb⟩
          have HZ := Lib.hid (HL5.out.below hb)
          clear hb hsub
          go_wp2_with fail
          go_roundg (len - (j + 1))
          case measure => have := HK.out; omega
          case rel => exact ⟨j + 1, op, cl, g, m, a, c, (ts.set k (t, D')), L', by first | rfl | go_num, by first | rfl | (simp; done), by first | rfl | (simp; done), rfl, by omega, ⟨HZ.out, HC5.out, by have := HL.out.num; have := HL.out.bnd; have := HN.out; omega, by have := HL.out.bnd; have := HL.out.num; omega⟩⟩
        · have HN := Lib.hid hlen
          clear hlen
          obtain ⟨nn, hnn⟩ : ∃ nn : Int, nn = ((L').length : Int) := ⟨_, rfl⟩
          have hsub : IntKind.i64.wrap (op - cl) = nn := by
            have e : op - cl = ((L').length : Int) := by have := HL.out.num; have := HL.out.bnd; have := HN.out; omega
            rw [e, hnn]; exact IntWalk.i64_in _ (by have := HL5.out.own.fr.len; omega)
          have hct0 := counted_ok HL5.out.own HC5.out HL5.out.n2
          rw [← hnn] at hct0
          have HCT := Lib.hid hct0
          clear hnn hct0
          go_wp2_with (first | (rw [hu8]) | (refine wpList_runU rfl (s := Instr.storeAt 40 (.pointer (some ⟨w4.heap.size, 0, none⟩)) (.agg #[.int .i64 v0, .int .i64 v1, .int .i64 v2, .int .i64 v3, .int .i64 v4])) (by kernel_rfl) s1 ?_) | fail)
          refine HCT.out.mono ?_
          rintro e wz ⟨rfl, hb⟩
          have HZ := Lib.hid (HL5.out.below hb)
          clear hb hsub
          go_wp2_with fail
          go_roundg (len - (j + 1))
          case measure => have := HK.out; omega
          case rel => exact ⟨j + 1, op, cl, g, m, a, c, (ts.set k (t, D')), L', by first | rfl | go_num, by first | rfl | (simp; done), by first | rfl | (simp; done), rfl, by omega, ⟨HZ.out, HC5.out, by have := HL.out.num; have := HL.out.bnd; have := HN.out; omega, by have := HL.out.bnd; have := HL.out.num; omega⟩⟩
        · have HN := Lib.hid hlen
          clear hlen
          have hcl1 : IntKind.i64.wrap (cl + 1) = cl + 1 := IntWalk.i64_in _ (by have := HL.out.bnd; have := HL.out.num; omega)
          obtain ⟨nn, hnn⟩ : ∃ nn : Int, nn = ((L').length : Int) := ⟨_, rfl⟩
          have hsub : IntKind.i64.wrap (op - (cl + 1)) = nn := by
            have e : op - (cl + 1) = ((L').length : Int) := by have := HL.out.num; have := HL.out.bnd; have := HN.out; omega
            rw [e, hnn]; exact IntWalk.i64_in _ (by have := HL5.out.own.fr.len; omega)
          have hct0 := counted_ok HL5.out.own HC5.out HL5.out.n2
          rw [← hnn] at hct0
          have HCT := Lib.hid hct0
          clear hnn hct0
          go_wp2_with (first | (rw [hu8]) | (refine wpList_runU rfl (s := Instr.storeAt 40 (.pointer (some ⟨w4.heap.size, 0, none⟩)) (.agg #[.int .i64 v0, .int .i64 v1, .int .i64 v2, .int .i64 v3, .int .i64 v4])) (by kernel_rfl) s1 ?_) | fail)
          refine HCT.out.mono ?_
          rintro e wz ⟨rfl, hb⟩
          have HZ := Lib.hid (HL5.out.below hb)
          clear hb hsub
          go_wp2_with fail
          go_roundg (len - (j + 1))
          case measure => have := HK.out; omega
          case rel => exact ⟨j + 1, op, (cl + 1), g, m, a, c, (ts.set k (t, D')), L', by first | rfl | go_num, by first | rfl | (simp; done), by first | rfl | (simp; done), rfl, by omega, ⟨HZ.out, HC5.out, by have := HL.out.num; have := HL.out.bnd; have := HN.out; omega, by have := HL.out.bnd; have := HL.out.num; omega⟩⟩
      have k5 : (x0 == 5) = false := by simpa using h5
      clear h5
      by_cases h6 : x0 = 6
      · subst h6
        by_cases h12 : n < 12
        · have h12' : decide ((n : Int) < 12) = true := by simp; omega
          go_wp2_with fail
          refine (fork_any HL3.out HL.out.ci HP.out.1).mono ?_
          rintro e w4 ⟨t', L', rfl, hL4, hC4, hlen4, hT4, hnt, htw⟩
          obtain ⟨y0, y1, y2, y3, y4⟩ := hL4.own.cells
          rw [← HP.out.2] at y1
          have hbb : Below w4.heap.size w4 (w4.alloc (.cells #[.pointer (some ⟨t', 0, none⟩)] 33)) := (Below.refl _ _).alloc (Nat.le_refl _) _
          have hL5 := hL4.below hbb
          obtain ⟨-, y1', -, -, y4'⟩ := hL5.own.cells
          obtain ⟨A2, cc2, w6, e1, e2, e3, e4⟩ := rw_append (P := Try.prog) tabT 28 hL5.own.row (some ⟨w4.heap.size, 0, none⟩) 1 1 [.pointer (some ⟨t', 0, none⟩)] rfl (Rd.of_cells (fun j u hu => by
            cases j with
            | zero => simp at hu; subst hu; simp [go_sem]
            | succ j => simp at hu) (by simp [Value.oneCell'])) (by intro e; cases e) (by unfold maxLen; have := hL4.n2; omega) (by have := hL4.n2; omega)
          have hlt4 : t' < w4.heap.size := hT4.lt
          have hns : ¬ WR.all ob g m a ts L' w4.heap.size := fun q => Nat.lt_irrefl _ (hL4.own.lt q)
          have hA2 : blkOf A2 = some a ∨ ∃ k, blkOf A2 = some k ∧ (w4.alloc (.cells #[.pointer (some ⟨t', 0, none⟩)] 33)).heap.size ≤ k ∧ t' ≠ k := by
            rcases e4 with e | e
            · exact .inl e
            · refine .inr ⟨_, e, Nat.le_refl _, ?_⟩
              simp; omega
          obtain ⟨a2, rfl, hL6⟩ := hL5.app (hT4.below hbb) hnt htw (by rw [← HP.out.2]; exact h12) e2 e3 hA2
          have hoa : ob ≠ a := hL5.own.oa
          have hcb : w6.cell? ⟨ob, 1, none⟩ = some (.slice (some ⟨a, 0, none⟩) ts.length c) := (World.cell?_of_block (a := ⟨ob, 1, none⟩) (e3.block ob (hL5.own.lt (.inl rfl)) (fun q => hoa (by simp [blkOf] at q; exact q.symm)))).trans y1'
          have hcf : w6.frozen? ⟨ob, 1, none⟩ = false := (hL5.own.blk.ch e3 (fun q => hoa (by simp [blkOf] at q; exact q.symm))).all.2.2.2 1
          have hbs := bs28 t' w4
          rw [← HP.out.2] at e1 hL6 hcb
          have HE1 := Lib.hid e1
          have HL6 := Lib.hid hL6
          have HC6 := Lib.hid hC4
          have HN := Lib.hid hlen4
          clear hL4 hC4 hlen4 hT4 hnt htw hbb hL5 e1 e2 e3 e4 hlt4 hns hA2 hL6 hoa y0 y2 y3 y1' c0 c1 c2 c3 c4
          obtain ⟨nn, hnn⟩ : ∃ nn : Int, nn = ((L').length : Int) := ⟨_, rfl⟩
          have hsub : IntKind.i64.wrap (op - cl) = nn := by
            have e : op - cl = ((L').length : Int) := by have := HL.out.num; have := HL.out.bnd; have := HN.out; omega
            rw [e, hnn]; exact IntWalk.i64_in _ (by have := HL6.out.own.fr.len; omega)
          have hct0 := counted_ok HL6.out.own HC6.out HL6.out.n2
          rw [← hnn] at hct0
          have HCT := Lib.hid hct0
          clear hnn hct0
          go_wp2_with (at_builtin; go_must (refine wpList_run rfl (s := Builtin.append_ #[28, 28] 28 #[.slice (some ⟨a, 0, none⟩) n c, .slice (some ⟨w4.heap.size, 0, none⟩) 1 1]) (by kernel_rfl) HE1.out ?_))
          refine HCT.out.mono ?_
          rintro e wz ⟨rfl, hb⟩
          have HZ := Lib.hid (HL6.out.below hb)
          clear hb hsub
          go_wp2_with fail
          go_roundg (len - (j + 1))
          case measure => have := HK.out; omega
          case rel => exact ⟨j + 1, op, cl, g, m, a2, cc2, (ts ++ [(t', D)]), L', by first | rfl | go_num, by first | rfl | (simp; done), by first | rfl | (simp; done), rfl, by omega, ⟨HZ.out, HC6.out, by have := HL.out.num; have := HL.out.bnd; have := HN.out; omega, by have := HL.out.bnd; have := HL.out.num; omega⟩⟩
        · have h12' : decide ((n : Int) < 12) = false := by simp; omega
          clear c0 c1 c2 c3 c4
          obtain ⟨nn, hnn⟩ : ∃ nn : Int, nn = ((L).length : Int) := ⟨_, rfl⟩
          have hsub : IntKind.i64.wrap (op - cl) = nn := by
            have e : op - cl = ((L).length : Int) := by have := HL.out.num; have := HL.out.bnd; omega
            rw [e, hnn]; exact IntWalk.i64_in _ (by have := HL3.out.own.fr.len; omega)
          have hct0 := counted_ok HL3.out.own HL.out.ci HL3.out.n2
          rw [← hnn] at hct0
          have HCT := Lib.hid hct0
          clear hnn hct0
          go_wp2_with fail
          refine HCT.out.mono ?_
          rintro e wz ⟨rfl, hb⟩
          have HZ := Lib.hid (HL3.out.below hb)
          clear hb hsub
          go_wp2_with fail
          go_roundg (len - (j + 1))
          case measure => have := HK.out; omega
          case rel => exact ⟨j + 1, op, cl, g, m, a, c, ts, L, by first | rfl | go_num, by first | rfl | (simp; done), by first | rfl | (simp; done), rfl, by omega, ⟨HZ.out, HL.out.ci, by have := HL.out.num; have := HL.out.bnd; omega, by have := HL.out.bnd; have := HL.out.num; omega⟩⟩
      have k6 : (x0 == 6) = false := by simpa using h6
      clear h6
      by_cases h1 : x0 = 1
      · subst h1
        go_wp2_with fail
        refine (get_any HL3.out HL.out.ci HP.out.1 x2).mono ?_
        rintro e w4 ⟨v, er, rfl, rfl, hor⟩
        rcases hor with rfl | ⟨rfl, q, hg⟩
        · clear c0 c1 c2 c3 c4
          obtain ⟨nn, hnn⟩ : ∃ nn : Int, nn = ((L).length : Int) := ⟨_, rfl⟩
          have hsub : IntKind.i64.wrap (op - cl) = nn := by
            have e : op - cl = ((L).length : Int) := by have := HL.out.num; have := HL.out.bnd; omega
            rw [e, hnn]; exact IntWalk.i64_in _ (by have := HL3.out.own.fr.len; omega)
          have hct0 := counted_ok HL3.out.own HL.out.ci HL3.out.n2
          rw [← hnn] at hct0
          have HCT := Lib.hid hct0
          clear hnn hct0
          go_wp2_with fail
          refine HCT.out.mono ?_
          rintro e wz ⟨rfl, hb⟩
          have HZ := Lib.hid (HL3.out.below hb)
          clear hb hsub
          go_wp2_with fail
          go_roundg (len - (j + 1))
          case measure => have := HK.out; omega
          case rel => exact ⟨j + 1, op, cl, g, m, a, c, ts, L, by first | rfl | go_num, by first | rfl | (simp; done), by first | rfl | (simp; done), rfl, by omega, ⟨HZ.out, HL.out.ci, by have := HL.out.num; have := HL.out.bnd; omega, by have := HL.out.bnd; have := HL.out.num; omega⟩⟩
        · have HG := Lib.hid hg
          clear hg
          go_upto_region 35 with fail
          go_still_tail 7, (by kernel_rfl)
          change wpList _ _ _ _ _ w3.drew
          generalize hw5 : w3.drew = w5 at *
          have HL5 := Lib.hid (show LP w w5 ob g m a c vr vx ts L by rw [← hw5]; exact HL3.out.drew)
          clear hw5 z0 z1 z2 z3 z4 c0 c1 c2 c3 c4
          go_wp2_with fail
          refine (move_any HL5.out HL.out.ci HG.out x4).mono ?_
          rintro e w6 ⟨er, L', rfl, hL6, hC6, hlen6⟩
          have HL6 := Lib.hid hL6
          have HC6 := Lib.hid hC6
          have HN := Lib.hid hlen6
          clear hL6 hC6 hlen6
          obtain ⟨nn, hnn⟩ : ∃ nn : Int, nn = ((L').length : Int) := ⟨_, rfl⟩
          have hsub : IntKind.i64.wrap (op - cl) = nn := by
            have e : op - cl = ((L').length : Int) := by have := HL.out.num; have := HL.out.bnd; have := HN.out; omega
            rw [e, hnn]; exact IntWalk.i64_in _ (by have := HL6.out.own.fr.len; omega)
          have hct0 := counted_ok HL6.out.own HC6.out HL6.out.n2
          rw [← hnn] at hct0
          have HCT := Lib.hid hct0
          clear hnn hct0
          go_wp2_with fail
          refine HCT.out.mono ?_
          rintro e wz ⟨rfl, hb⟩
          have HZ := Lib.hid (HL6.out.below hb)
          clear hb hsub
          go_wp2_with fail
          go_roundg (len - (j + 1))
          case measure => have := HK.out; omega
          case rel => exact ⟨j + 1, op, cl, g, m, a, c, ts, L', by first | rfl | go_num, by first | rfl | (simp; done), by first | rfl | (simp; done), rfl, by omega, ⟨HZ.out, HC6.out, by have := HL.out.num; have := HL.out.bnd; have := HN.out; omega, by have := HL.out.bnd; have := HL.out.num; omega⟩⟩
      have k1 : (x0 == 1) = false := by simpa using h1
      clear h1
      clear c0 c1 c2 c3 c4
      obtain ⟨nn, hnn⟩ : ∃ nn : Int, nn = ((L).length : Int) := ⟨_, rfl⟩
      have hsub : IntKind.i64.wrap (op - cl) = nn := by
        have e : op - cl = ((L).length : Int) := by have := HL.out.num; have := HL.out.bnd; omega
        rw [e, hnn]; exact IntWalk.i64_in _ (by have := HL3.out.own.fr.len; omega)
      have hct0 := counted_ok HL3.out.own HL.out.ci HL3.out.n2
      rw [← hnn] at hct0
      have HCT := Lib.hid hct0
      clear hnn hct0
      go_wp2_with fail
      refine HCT.out.mono ?_
      rintro e wz ⟨rfl, hb⟩
      have HZ := Lib.hid (HL3.out.below hb)
      clear hb hsub
      go_wp2_with fail
      go_roundg (len - (j + 1))
      case measure => have := HK.out; omega
      case rel => exact ⟨j + 1, op, cl, g, m, a, c, ts, L, by first | rfl | go_num, by first | rfl | (simp; done), by first | rfl | (simp; done), rfl, by omega, ⟨HZ.out, HL.out.ci, by have := HL.out.num; have := HL.out.bnd; omega, by have := HL.out.bnd; have := HL.out.num; omega⟩⟩
    · obtain rfl : j = len := by omega
      go_wp2_with fail
      go_ret
      exact ⟨by first | rfl | simp, HL.out.lp.bel⟩
end Go.Proofs.Ythbbiobffoihaaa
