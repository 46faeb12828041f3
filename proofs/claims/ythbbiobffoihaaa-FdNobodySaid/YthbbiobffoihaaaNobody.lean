import Derived.Test.YthbbiobffoihaaaAwake
import Derived.Test.YthbbiobffoihaaaKit
/- What no call gave tells nothing. -/
namespace Go.Proofs.Ythbbiobffoihaaa
open Go.RowKit Go.BigFrame
set_option linter.unusedVariables false
set_option linter.unusedSimpArgs false
attribute [local go_sem] szIs_lit row_at row_past row_alloc nf_alloc row_set nf_set row_cell nf_cell row_drew nf_drew row_drewN nf_drewN cell_setRow frozen_setRow nlt1 nlt2 nlt3 nlt4 nne1 nne2 nne3 nen1 nen2 nen3
set_option maxRecDepth 20000
theorem NF.below {w w' : World} {v : Value} (h : NF w v) (hb : Below w.heap.size w w') : NF w' v := by
  rcases h with rfl | ⟨g, rfl, hc⟩
  · exact .inl rfl
  · exact .inr ⟨g, rfl, (hb.cell (p := ⟨g, 0, none⟩) (cell_lt hc)).trans hc⟩
theorem NT.below {w w' : World} {v : Value} (h : NT w v) (hb : Below w.heap.size w w') : NT w' v := by
  rcases h with rfl | ⟨g, rfl, hc⟩
  · exact .inl rfl
  · exact .inr ⟨g, rfl, (hb.cell (p := ⟨g, 0, none⟩) (cell_lt hc)).trans hc⟩
/-- What a round of the first range finds. -/
structure NB (w wr : World) (ob : Nat) (x0 x1 x2 x3 x4 : Int) : Prop where
  bel : Below w.heap.size w wr
  obl : w.heap.size ≤ ob
  c2 : wr.cell? ⟨ob, 2, none⟩ = some (.int .i64 x2)
  c3 : wr.cell? ⟨ob, 3, none⟩ = some (.int .i64 x3)
  c4 : wr.cell? ⟨ob, 4, none⟩ = some (.int .i64 x4)
theorem NB.below {w wr w' : World} {ob : Nat} {x0 x1 x2 x3 x4 : Int} (h : NB w wr ob x0 x1 x2 x3 x4) (hb : Below wr.heap.size wr w') : NB w w' ob x0 x1 x2 x3 x4 :=
  ⟨h.bel.trans (hb.mono h.bel.size), h.obl, (hb.cell (cell_lt h.c2)).trans h.c2, (hb.cell (cell_lt h.c3)).trans h.c3, (hb.cell (cell_lt h.c4)).trans h.c4⟩
/-- The two values: nil, and the zero value. -/
structure RB (wr : World) (s z : Nat) (zc : Value) : Prop where
  s0 : wr.cell? ⟨s, 0, none⟩ = some (.pointer none)
  s1 : wr.cell? ⟨s, 1, none⟩ = some (.pointer (some ⟨z, 0, none⟩))
  z0 : wr.cell? ⟨z, 0, none⟩ = some zc
theorem RB.below {wr w' : World} {s z : Nat} {zc : Value} (h : RB wr s z zc) (hb : Below wr.heap.size wr w') : RB w' s z zc :=
  ⟨(hb.cell (cell_lt h.s0)).trans h.s0, (hb.cell (cell_lt h.s1)).trans h.s1, (hb.cell (cell_lt h.z0)).trans h.z0⟩
set_option maxHeartbeats 8000000 in
theorem nobody_walk (x0 x1 x2 x3 x4 : Int) (w : World) : Calls Try.prog 5 #[.agg #[.int .i64 x0, .int .i64 x1, .int .i64 x2, .int .i64 x3, .int .i64 x4]] w fun e w' => e = .returned (.bool true) ∧ Below w.heap.size w w' := by
  have hb0 : Below w.heap.size w (w.alloc (.cells #[.int .i64 x0, .int .i64 x1, .int .i64 x2, .int .i64 x3, .int .i64 x4] 26)) := (Below.refl _ _).alloc (Nat.le_refl _) _
  have hk : Blk (w.alloc (.cells #[.int .i64 x0, .int .i64 x1, .int .i64 x2, .int .i64 x3, .int .i64 x4] 26)) w.heap.size #[.int .i64 x0, .int .i64 x1, .int .i64 x2, .int .i64 x3, .int .i64 x4] := Blk.of_heap (heap_at rfl)
  have hN0 : NB w (w.alloc (.cells #[.int .i64 x0, .int .i64 x1, .int .i64 x2, .int .i64 x3, .int .i64 x4] 26)) w.heap.size x0 x1 x2 x3 x4 := ⟨hb0, Nat.le_refl _, (hk.all.2.2.1 2).trans rfl, (hk.all.2.2.1 3).trans rfl, (hk.all.2.2.1 4).trans rfl⟩
  generalize hu : w.alloc (.cells #[.int .i64 x0, .int .i64 x1, .int .i64 x2, .int .i64 x3, .int .i64 x4] 26) = u at *
  generalize hob : w.heap.size = ob at *
  have HN0 := Lib.hid hN0
  have HOB := Lib.hid hob
  clear hb0 hk hN0
  go_enter Try.func5, Try.ntmps5
  go_wp2_with (rw [hu])
  clear hu hob
  refine (awake_ok u).mono ?_
  rintro e w1 ⟨rfl, hb1⟩
  have HN1 := Lib.hid (HN0.out.below hb1)
  clear hb1
  obtain ⟨s, hs⟩ : ∃ s, s = w1.heap.size + 1 := ⟨_, rfl⟩
  obtain ⟨z, hz⟩ : ∃ z, z = w1.heap.size := ⟨_, rfl⟩
  have hb2 : Below w1.heap.size w1 ((w1.alloc (.cells #[.map none] 52)).alloc (.cells #[.pointer none, .pointer (some ⟨w1.heap.size, 0, none⟩)] 27)) := ((Below.refl _ _).alloc (Nat.le_refl _) _).alloc (by simp) _
  have hR2 : RB ((w1.alloc (.cells #[.map none] 52)).alloc (.cells #[.pointer none, .pointer (some ⟨w1.heap.size, 0, none⟩)] 27)) s z (.map none) := by
    subst hs hz
    have k1 : Blk ((w1.alloc (.cells #[.map none] 52)).alloc (.cells #[.pointer none, .pointer (some ⟨w1.heap.size, 0, none⟩)] 27)) (w1.heap.size + 1) #[.pointer none, .pointer (some ⟨w1.heap.size, 0, none⟩)] := Blk.of_heap (heap_at (by simp))
    have k0 : Blk ((w1.alloc (.cells #[.map none] 52)).alloc (.cells #[.pointer none, .pointer (some ⟨w1.heap.size, 0, none⟩)] 27)) w1.heap.size #[.map none] := (Blk.of_heap (t := 52) (heap_at rfl) : Blk (w1.alloc (.cells #[.map none] 52)) w1.heap.size #[.map none]).same (heap_past (by simp))
    exact ⟨(k1.all.2.2.1 0).trans rfl, (k1.all.2.2.1 1).trans rfl, (k0.all.2.2.1 0).trans rfl⟩
  have HN2 := Lib.hid (HN1.out.below hb2)
  have HR2 := Lib.hid hR2
  clear hb2 hR2
  generalize hu2 : (w1.alloc (.cells #[.map none] 52)).alloc (.cells #[.pointer none, .pointer (some ⟨w1.heap.size, 0, none⟩)] 27) = u2 at *
  have hs' : w1.heap.size + 1 = s := hs.symm
  clear hs hz
  go_wp2_with (first | (rw [hu2]) | fail)
  clear hu2
  try rw [hs']
  clear hs'
  go_loopg [31] 2 (fun k i_ wr => ∃ j : Nat, i_ = .int .i64 (j : Int) ∧ k = 2 - j ∧ j ≤ 2 ∧ NB w wr ob x0 x1 x2 x3 x4 ∧ RB wr s z (.map none))
  case atStart => exact ⟨0, rfl, rfl, by omega, HN2.out, HR2.out⟩
  case round =>
    obtain ⟨j, rfl, hk, hj, hN, hR⟩ := hrel
    have HK := Lib.hid hk
    have HN3 := Lib.hid hN
    have HR3 := Lib.hid hR
    clear hk hN hR
    by_cases hlt : j < 2
    · obtain ⟨v, hcv, hv⟩ : ∃ v, wr.cell? ⟨s, j, none⟩ = some v ∧ NF wr v := by
        rcases (show j = 0 ∨ j = 1 by omega) with rfl | rfl
        · exact ⟨_, HR3.out.s0, .inl rfl⟩
        · exact ⟨_, HR3.out.s1, .inr ⟨z, rfl, HR3.out.z0⟩⟩
      have HV3 := Lib.hid hv
      obtain ⟨-, -, n2, n3, n4⟩ := HN3.out
      have hw : IntKind.i64.wrap ((j : Int) + 1) = (j : Int) + 1 := IntWalk.i64_in _ (by omega)
      clear hv
      go_wp2_with fail
      refine (open_n wr v HV3.out x3 x4 0).mono ?_
      rintro e w' ⟨rfl, rfl⟩
      go_wp2_with fail
      refine (get_n wr v HV3.out x2).mono ?_
      rintro e w4 ⟨rfl, hb⟩
      clear n2 n3 n4
      have HN4 := Lib.hid (HN3.out.below hb)
      have HR4 := Lib.hid (HR3.out.below hb)
      have HV4 := Lib.hid (HV3.out.below hb)
      obtain ⟨-, -, n2, n3, n4⟩ := HN4.out
      clear hb
      have hb8 : Below w4.heap.size w4 (w4.alloc (.cells #[.int .i64 0, .int .i64 0, .int .i64 0, .int .i64 0, .int .i64 0] 40)) := (Below.refl _ _).alloc (Nat.le_refl _) _
      have hk8 : Blk (w4.alloc (.cells #[.int .i64 0, .int .i64 0, .int .i64 0, .int .i64 0, .int .i64 0] 40)) w4.heap.size #[.int .i64 0, .int .i64 0, .int .i64 0, .int .i64 0, .int .i64 0] := Blk.of_heap (heap_at rfl)
      obtain ⟨w5, s1, s2, s3, s4⟩ := store5 (w4.alloc (.cells #[.int .i64 0, .int .i64 0, .int .i64 0, .int .i64 0, .int .i64 0] 40)) w4.heap.size 0 0 0 0 0 0 0 0 0 0 hk8
      have hb9 : Below w4.heap.size w4 w5 := hb8.trans (s3.below (B := w4.heap.size) (fun k hk q => by omega) hb8.size)
      have HN5 := Lib.hid (HN4.out.below hb9)
      have HR5 := Lib.hid (HR4.out.below hb9)
      have HV5 := Lib.hid (HV4.out.below hb9)
      obtain ⟨-, -, n2, n3, n4⟩ := HN5.out
      clear hb8 hk8 s2 s3 s4 hb9
      generalize hu8 : w4.alloc (.cells #[.int .i64 0, .int .i64 0, .int .i64 0, .int .i64 0, .int .i64 0] 40) = w8 at *
      go_wp2_with (first | (rw [hu8]) | (refine wpList_runU rfl (s := Instr.storeAt 40 (.pointer (some ⟨w4.heap.size, 0, none⟩)) (.agg #[.int .i64 0, .int .i64 0, .int .i64 0, .int .i64 0, .int .i64 0])) (by kernel_rfl) s1 ?_) | fail)
      clear hu8 s1
      refine (drop_n w5 v HV5.out x2).mono ?_
      rintro e w6 ⟨rfl, hb⟩
      clear n2 n3 n4
      have HN6 := Lib.hid (HN5.out.below hb)
      have HR6 := Lib.hid (HR5.out.below hb)
      have HV6 := Lib.hid (HV5.out.below hb)
      obtain ⟨-, -, n2, n3, n4⟩ := HN6.out
      clear hb
      have hb8 : Below w6.heap.size w6 (w6.alloc (.cells #[.int .i64 0, .int .i64 0, .int .i64 0, .int .i64 0, .int .i64 0] 40)) := (Below.refl _ _).alloc (Nat.le_refl _) _
      have hk8 : Blk (w6.alloc (.cells #[.int .i64 0, .int .i64 0, .int .i64 0, .int .i64 0, .int .i64 0] 40)) w6.heap.size #[.int .i64 0, .int .i64 0, .int .i64 0, .int .i64 0, .int .i64 0] := Blk.of_heap (heap_at rfl)
      obtain ⟨w7, s1, s2, s3, s4⟩ := store5 (w6.alloc (.cells #[.int .i64 0, .int .i64 0, .int .i64 0, .int .i64 0, .int .i64 0] 40)) w6.heap.size 0 0 0 0 0 0 0 0 0 0 hk8
      have hb9 : Below w6.heap.size w6 w7 := hb8.trans (s3.below (B := w6.heap.size) (fun k hk q => by omega) hb8.size)
      have HN7 := Lib.hid (HN6.out.below hb9)
      have HR7 := Lib.hid (HR6.out.below hb9)
      have HV7 := Lib.hid (HV6.out.below hb9)
      obtain ⟨-, -, n2, n3, n4⟩ := HN7.out
      clear hb8 hk8 s2 s3 s4 hb9
      generalize hu8 : w6.alloc (.cells #[.int .i64 0, .int .i64 0, .int .i64 0, .int .i64 0, .int .i64 0] 40) = w8 at *
      go_wp2_with (first | (rw [hu8]) | (refine wpList_runU rfl (s := Instr.storeAt 40 (.pointer (some ⟨w6.heap.size, 0, none⟩)) (.agg #[.int .i64 0, .int .i64 0, .int .i64 0, .int .i64 0, .int .i64 0])) (by kernel_rfl) s1 ?_) | fail)
      clear hu8 s1
      refine (move_n w7 v HV7.out x2 x4).mono ?_
      rintro e w' ⟨rfl, rfl⟩
      go_wp2_with fail
      refine (all_n w7 v HV7.out).mono ?_
      rintro e w' ⟨rfl, rfl⟩
      go_wp2_with fail
      refine (on_n w7 v HV7.out x3 x4).mono ?_
      rintro e w' ⟨rfl, rfl⟩
      go_wp2_with fail
      refine (table_n w7 v HV7.out).mono ?_
      rintro e w' ⟨rfl, rfl⟩
      go_wp2_with fail
      go_roundg (2 - (j + 1))
      case measure => have := HK.out; omega
      case rel => exact ⟨j + 1, by first | rfl | go_num, rfl, by omega, HN7.out, HR7.out⟩
    · obtain rfl : j = 2 := by omega
      clear hlt hj
      have hb2 : Below wr.heap.size wr ((wr.alloc (.cells #[.pointer none, .int .i64 0, .int .i64 0, .int .i64 0, .int .i64 0, .int .i64 0, .int .i64 0, .int .i64 0, .int .i64 0, .int .i64 0, .int .i64 0, .int .i64 0, .int .i64 0, .int .i64 0, .int .i64 0, .int .i64 0, .int .i64 0] 62)).alloc (.cells #[.pointer none, .pointer (some ⟨wr.heap.size, 0, none⟩)] 33)) := ((Below.refl _ _).alloc (Nat.le_refl _) _).alloc (by simp) _
      obtain ⟨s2, hs⟩ : ∃ s, s = wr.heap.size + 1 := ⟨_, rfl⟩
      obtain ⟨z2, hz⟩ : ∃ z, z = wr.heap.size := ⟨_, rfl⟩
      have hR2 : RB ((wr.alloc (.cells #[.pointer none, .int .i64 0, .int .i64 0, .int .i64 0, .int .i64 0, .int .i64 0, .int .i64 0, .int .i64 0, .int .i64 0, .int .i64 0, .int .i64 0, .int .i64 0, .int .i64 0, .int .i64 0, .int .i64 0, .int .i64 0, .int .i64 0] 62)).alloc (.cells #[.pointer none, .pointer (some ⟨wr.heap.size, 0, none⟩)] 33)) s2 z2 (.pointer none) := by
        subst hs hz
        have k1 : Blk ((wr.alloc (.cells #[.pointer none, .int .i64 0, .int .i64 0, .int .i64 0, .int .i64 0, .int .i64 0, .int .i64 0, .int .i64 0, .int .i64 0, .int .i64 0, .int .i64 0, .int .i64 0, .int .i64 0, .int .i64 0, .int .i64 0, .int .i64 0, .int .i64 0] 62)).alloc (.cells #[.pointer none, .pointer (some ⟨wr.heap.size, 0, none⟩)] 33)) (wr.heap.size + 1) #[.pointer none, .pointer (some ⟨wr.heap.size, 0, none⟩)] := Blk.of_heap (heap_at (by simp))
        have k0 : Blk ((wr.alloc (.cells #[.pointer none, .int .i64 0, .int .i64 0, .int .i64 0, .int .i64 0, .int .i64 0, .int .i64 0, .int .i64 0, .int .i64 0, .int .i64 0, .int .i64 0, .int .i64 0, .int .i64 0, .int .i64 0, .int .i64 0, .int .i64 0, .int .i64 0] 62)).alloc (.cells #[.pointer none, .pointer (some ⟨wr.heap.size, 0, none⟩)] 33)) wr.heap.size #[.pointer none, .int .i64 0, .int .i64 0, .int .i64 0, .int .i64 0, .int .i64 0, .int .i64 0, .int .i64 0, .int .i64 0, .int .i64 0, .int .i64 0, .int .i64 0, .int .i64 0, .int .i64 0, .int .i64 0, .int .i64 0, .int .i64 0] := (Blk.of_heap (t := 62) (heap_at rfl) : Blk (wr.alloc (.cells #[.pointer none, .int .i64 0, .int .i64 0, .int .i64 0, .int .i64 0, .int .i64 0, .int .i64 0, .int .i64 0, .int .i64 0, .int .i64 0, .int .i64 0, .int .i64 0, .int .i64 0, .int .i64 0, .int .i64 0, .int .i64 0, .int .i64 0] 62)) wr.heap.size #[.pointer none, .int .i64 0, .int .i64 0, .int .i64 0, .int .i64 0, .int .i64 0, .int .i64 0, .int .i64 0, .int .i64 0, .int .i64 0, .int .i64 0, .int .i64 0, .int .i64 0, .int .i64 0, .int .i64 0, .int .i64 0, .int .i64 0]).same (heap_past (by simp))
        exact ⟨(k1.all.2.2.1 0).trans rfl, (k1.all.2.2.1 1).trans rfl, (k0.all.2.2.1 0).trans rfl⟩
      have HNa := Lib.hid (HN3.out.below hb2)
      have HRa := Lib.hid hR2
      clear hb2 hR2
      generalize hu2 : (wr.alloc (.cells #[.pointer none, .int .i64 0, .int .i64 0, .int .i64 0, .int .i64 0, .int .i64 0, .int .i64 0, .int .i64 0, .int .i64 0, .int .i64 0, .int .i64 0, .int .i64 0, .int .i64 0, .int .i64 0, .int .i64 0, .int .i64 0, .int .i64 0] 62)).alloc (.cells #[.pointer none, .pointer (some ⟨wr.heap.size, 0, none⟩)] 33) = u3 at *
      have hs' : wr.heap.size + 1 = s2 := hs.symm
      clear hs hz
      go_wp2_with (first | (rw [hu2]) | fail)
      clear hu2
      try rw [hs']
      clear hs'
      go_loopg [103] 2 (fun k i_ wr => ∃ j : Nat, i_ = .int .i64 (j : Int) ∧ k = 2 - j ∧ j ≤ 2 ∧ NB w wr ob x0 x1 x2 x3 x4 ∧ RB wr s2 z2 (.pointer none))
      case atStart => exact ⟨0, rfl, rfl, by omega, HNa.out, HRa.out⟩
      case round =>
        obtain ⟨q, rfl, hk, hj, hN, hR⟩ := hrel
        have HK2 := Lib.hid hk
        have HN3 := Lib.hid hN
        have HR3 := Lib.hid hR
        clear hk hN hR
        by_cases hlt : q < 2
        · obtain ⟨v, hcv, hv⟩ : ∃ v, wr.cell? ⟨s2, q, none⟩ = some v ∧ NT wr v := by
            rcases (show q = 0 ∨ q = 1 by omega) with rfl | rfl
            · exact ⟨_, HR3.out.s0, .inl rfl⟩
            · exact ⟨_, HR3.out.s1, .inr ⟨z2, rfl, HR3.out.z0⟩⟩
          have HV3 := Lib.hid hv
          obtain ⟨-, -, n2, n3, n4⟩ := HN3.out
          have hw : IntKind.i64.wrap ((q : Int) + 1) = (q : Int) + 1 := IntWalk.i64_in _ (by omega)
          clear hv
          go_wp2_with fail
          refine (install_n wr v HV3.out x2).mono ?_
          rintro e w' ⟨rfl, rfl⟩
          go_wp2_with fail
          refine (tget_n wr v HV3.out x2).mono ?_
          rintro e w' ⟨rfl, rfl⟩
          go_wp2_with fail
          refine (dup_n wr v HV3.out x2).mono ?_
          rintro e w' ⟨rfl, rfl⟩
          go_wp2_with fail
          refine (close_n wr v HV3.out x2).mono ?_
          rintro e w4 ⟨rfl, hb⟩
          clear n2 n3 n4
          have HN4 := Lib.hid (HN3.out.below hb)
          have HR4 := Lib.hid (HR3.out.below hb)
          have HV4 := Lib.hid (HV3.out.below hb)
          obtain ⟨-, -, n2, n3, n4⟩ := HN4.out
          clear hb
          have hb8 : Below w4.heap.size w4 (w4.alloc (.cells #[.int .i64 0, .int .i64 0, .int .i64 0, .int .i64 0, .int .i64 0] 40)) := (Below.refl _ _).alloc (Nat.le_refl _) _
          have hk8 : Blk (w4.alloc (.cells #[.int .i64 0, .int .i64 0, .int .i64 0, .int .i64 0, .int .i64 0] 40)) w4.heap.size #[.int .i64 0, .int .i64 0, .int .i64 0, .int .i64 0, .int .i64 0] := Blk.of_heap (heap_at rfl)
          obtain ⟨w5, s1, s2, s3, s4⟩ := store5 (w4.alloc (.cells #[.int .i64 0, .int .i64 0, .int .i64 0, .int .i64 0, .int .i64 0] 40)) w4.heap.size 0 0 0 0 0 0 0 0 0 0 hk8
          have hb9 : Below w4.heap.size w4 w5 := hb8.trans (s3.below (B := w4.heap.size) (fun k hk q => by omega) hb8.size)
          have HN5 := Lib.hid (HN4.out.below hb9)
          have HR5 := Lib.hid (HR4.out.below hb9)
          have HV5 := Lib.hid (HV4.out.below hb9)
          obtain ⟨-, -, n2, n3, n4⟩ := HN5.out
          clear hb8 hk8 s2 s3 s4 hb9
          generalize hu8 : w4.alloc (.cells #[.int .i64 0, .int .i64 0, .int .i64 0, .int .i64 0, .int .i64 0] 40) = w8 at *
          go_wp2_with (first | (rw [hu8]) | (refine wpList_runU rfl (s := Instr.storeAt 40 (.pointer (some ⟨w4.heap.size, 0, none⟩)) (.agg #[.int .i64 0, .int .i64 0, .int .i64 0, .int .i64 0, .int .i64 0])) (by kernel_rfl) s1 ?_) | fail)
          clear hu8 s1
          refine (fork_n w5 v HV5.out).mono ?_
          rintro e w' ⟨rfl, rfl⟩
          go_wp2_with fail
          refine (fds_n w5 v HV5.out).mono ?_
          rintro e w' ⟨rfl, rfl⟩
          go_wp2_with fail
          refine (free_n w5 v HV5.out).mono ?_
          rintro e w' ⟨rfl, rfl⟩
          go_wp2_with fail
          go_roundg (2 - (q + 1))
          case measure => have := HK2.out; omega
          case rel => exact ⟨q + 1, by first | rfl | go_num, rfl, by omega, HN5.out, HR5.out⟩
        · obtain rfl : q = 2 := by omega
          go_wp2_with fail
          go_ret
          exact ⟨by first | rfl | simp, by rw [← HOB.out]; exact HN3.out.bel⟩
end Go.Proofs.Ythbbiobffoihaaa
