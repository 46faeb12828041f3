import Derived.Test.YtmifomppnmhmpaaRef
import Derived.Deep.RegionHeld3
/- The reference's pipe: Read and Write. -/
namespace Go.Proofs.Ytmifomppnmhmpaa
open Go.RowKit
set_option linter.unusedVariables false
set_option linter.unusedSimpArgs false
attribute [local go_sem] szIs_lit row_at row_past row_alloc nf_alloc row_set nf_set row_cell nf_cell row_drew nf_drew row_drewN nf_drewN cell_setRow frozen_setRow nlt1 nlt2 nlt3 nlt4 nne1 nne2 nne3 nen1 nen2 nen3
attribute [local go_sem] rg_setf rg_setn rg_setm

set_option maxHeartbeats 2000000 in
theorem rwrite_a (x n c : Nat) (A : Option Addr) (r s : Int) (w : World) (h : Blk w x (rp A n c r s)) (base : Nat) (Q Y : Nat → Int) (hO : Own w base 5 A n c (fun i => .int .u8 (Q i))) (hb : base ≤ w.heap.size) (hx : inB A ≠ some x) (A2 : Option Addr) (m c2 : Nat) (hm : 0 < m) (hmc : m ≤ c2) (hcm : c2 ≤ 9223372036854775807) (hY : Rd w A2 m Y) (hr : 0 < r) (hn : n < 512) (hc : m < 512 - n) :
    Calls Try.prog 35 #[.pointer (some ⟨x, 0, none⟩), .slice A2 m c2] w fun e w' => e = .returned (.tuple #[.int .i64 (m : Nat), .int .i64 0]) ∧ ∃ A' c', Blk w' x (rp A' (n + m) c' r s) ∧ Own w' base 5 A' (n + m) c' (fun i => .int .u8 (cat Q n Y i)) ∧ inB A' ≠ some x ∧ (inB A' = inB A ∨ inB A' = some w.heap.size) ∧ (∀ k, k < w.heap.size → k ≠ x → inB A ≠ some k → w'.heap[k]? = w.heap[k]?) ∧ w.heap.size ≤ w'.heap.size ∧ w'.os = w.os ∧ w'.tape = w.tape ∧ w'.output = w.output := by
  have n0 : (r == 0) = false := beq_eq_false_iff_ne.2 (by omega)
  have n1 : ((m : Int) == 0) = false := beq_eq_false_iff_ne.2 (by omega)
  have n2 : (512 - (n : Int) == 0) = false := beq_eq_false_iff_ne.2 (by omega)
  have n5 : (m : Int) ≤ m := by omega
  have hN : n + m ≤ 512 := by omega
  skip
  obtain ⟨gr, gn, gc, gf⟩ := h.all
  have c0 := (gc 0).trans (show _ = some (.slice A n c) from rfl)
  have c1 := (gc 1).trans (show _ = some (.int .i64 r) from rfl)
  have f0 := gf 0
  have HC0 := Lib.hid c0
  have hxl := h.lt
  obtain ⟨A', hA, hA'⟩ := cut26h A2 m c2 m (by omega)
  have HR := Lib.hid (show RdV w A' m (fun i => .int .u8 (Y i)) from fun hn => by
    obtain ⟨ad, e, hc⟩ := hY (by omega)
    exact ⟨ad, (hA' hn).trans e, fun i hi => ⟨hc i (by omega), rfl⟩⟩)
  have HO := Lib.hid hO
  have HBL := Lib.hid h
  have HX := Lib.hid hx
  have HL1 := Lib.hid (show n + m ≤ maxLen by unfold maxLen; omega)
  have HL2 := Lib.hid (show (n + m) * 1 ≤ 140737488355328 by omega)
  clear gc gr gn gf h hA' hO hx hY
  go_enter Try.func35, Try.ntmps35
  go_wp2_with fail
  go_region_law ((go_must (refine step_app (by rfl) (.tmp 33) (.tmp 36) 26 5 (by rfl) (.int .u8 0) 1 u26 i5 rfl base _ _ _ (by rfl) _ _ _ (by rfl) _ HO.out _ HR.out HL1.out HL2.out hb ?_; intro A6 c6 w6 hO6 hg6 hb6; clear c0; have cz : w6.cell? ⟨x, 0, none⟩ = some (.slice A n c) := (World.cell?_of_block (a := ⟨x, 0, none⟩) (hg6.block x hxl (fun e => HX.out e.symm))).trans HC0.out; have fz : w6.frozen? ⟨x, 0, none⟩ = false := (World.frozen?_of_block (a := ⟨x, 0, none⟩) (hg6.block x hxl (fun e => HX.out e.symm))).trans f0; have HO6 := Lib.hid hO6; have HG6 := Lib.hid hg6; have HB6 := Lib.hid hb6; clear hO6 hg6 hb6)))
  have ne : some x ≠ inB A := fun e => HX.out e.symm
  have hb6 : Blk w6 x (rp A n c r s) := ⟨(row_heap (HG6.out.block x hxl ne)).trans HBL.out.1, (nf_heap (HG6.out.block x hxl ne)).trans HBL.out.2⟩
  have HB7 := Lib.hid (hb6.put 0 (.slice A6 (n + m) c6))
  have hx6 : inB A6 ≠ some x := by
    rcases HB6.out with e | e
    · rw [e]; exact HX.out
    · rw [e]; intro e; injection e with e; have : w.drew.heap.size = w.heap.size := rfl; omega
  have HX6 := Lib.hid hx6
  clear hb6 hx6
  go_wp2
  go_ret2
  refine ⟨by simp, A6, c6, HB7.out, (HO6.out.ext (U := fun i => .int .u8 (cat Q n Y i)) (fun i hi => ?_)).heap (fun k hk => heap_setCell_other w6 ⟨x, 0, none⟩ k _ (fun e => HX6.out (by rw [hk, e]))), HX6.out, HB6.out, fun k hk hkx hkA => ?_, ?_, HG6.out.os, HG6.out.tape, HG6.out.output⟩
  · unfold catV cat
    by_cases h : i < n
    · rw [if_pos h, if_pos h]
    · rw [if_neg h, if_neg h]
  · exact (heap_setCell_other w6 ⟨x, 0, none⟩ k _ hkx).trans (HG6.out.block k hk (fun e => hkA e.symm))
  · simpa using HG6.out.size
set_option maxHeartbeats 2000000 in
theorem rwrite_b (x n c : Nat) (A : Option Addr) (r s : Int) (w : World) (h : Blk w x (rp A n c r s)) (base : Nat) (Q Y : Nat → Int) (hO : Own w base 5 A n c (fun i => .int .u8 (Q i))) (hb : base ≤ w.heap.size) (hx : inB A ≠ some x) (A2 : Option Addr) (m c2 : Nat) (hm : 0 < m) (hmc : m ≤ c2) (hcm : c2 ≤ 9223372036854775807) (hY : Rd w A2 m Y) (hr : 0 < r) (hn : n < 512) (C : Nat) (hc : (512 : Int) - n = C) (hlt : C ≤ m) :
    Calls Try.prog 35 #[.pointer (some ⟨x, 0, none⟩), .slice A2 m c2] w fun e w' => e = .returned (.tuple #[.int .i64 (C : Nat), .int .i64 0]) ∧ ∃ A' c', Blk w' x (rp A' (n + C) c' r s) ∧ Own w' base 5 A' (n + C) c' (fun i => .int .u8 (cat Q n Y i)) ∧ inB A' ≠ some x ∧ (inB A' = inB A ∨ inB A' = some w.heap.size) ∧ (∀ k, k < w.heap.size → k ≠ x → inB A ≠ some k → w'.heap[k]? = w.heap[k]?) ∧ w.heap.size ≤ w'.heap.size ∧ w'.os = w.os ∧ w'.tape = w.tape ∧ w'.output = w.output := by
  have n0 : (r == 0) = false := beq_eq_false_iff_ne.2 (by omega)
  have n1 : ((m : Int) == 0) = false := beq_eq_false_iff_ne.2 (by omega)
  have n2 : (512 - (n : Int) == 0) = false := beq_eq_false_iff_ne.2 (by omega)
  have n5 : (C : Int) ≤ m := by omega
  have hN : n + C ≤ 512 := by omega
  have n6 : ((C : Int) == 0) = false := beq_eq_false_iff_ne.2 (by omega)
  obtain ⟨gr, gn, gc, gf⟩ := h.all
  have c0 := (gc 0).trans (show _ = some (.slice A n c) from rfl)
  have c1 := (gc 1).trans (show _ = some (.int .i64 r) from rfl)
  have f0 := gf 0
  have HC0 := Lib.hid c0
  have hxl := h.lt
  obtain ⟨A', hA, hA'⟩ := cut26h A2 m c2 C (by omega)
  have HR := Lib.hid (show RdV w A' C (fun i => .int .u8 (Y i)) from fun hn => by
    obtain ⟨ad, e, hc⟩ := hY (by omega)
    exact ⟨ad, (hA' hn).trans e, fun i hi => ⟨hc i (by omega), rfl⟩⟩)
  have HO := Lib.hid hO
  have HBL := Lib.hid h
  have HX := Lib.hid hx
  have HL1 := Lib.hid (show n + C ≤ maxLen by unfold maxLen; omega)
  have HL2 := Lib.hid (show (n + C) * 1 ≤ 140737488355328 by omega)
  clear gc gr gn gf h hA' hO hx hY
  go_enter Try.func35, Try.ntmps35
  go_wp2_with fail
  go_region_law ((go_must (refine step_app (by rfl) (.tmp 33) (.tmp 36) 26 5 (by rfl) (.int .u8 0) 1 u26 i5 rfl base _ _ _ (by rfl) _ _ _ (by rfl) _ HO.out _ HR.out HL1.out HL2.out hb ?_; intro A6 c6 w6 hO6 hg6 hb6; clear c0; have cz : w6.cell? ⟨x, 0, none⟩ = some (.slice A n c) := (World.cell?_of_block (a := ⟨x, 0, none⟩) (hg6.block x hxl (fun e => HX.out e.symm))).trans HC0.out; have fz : w6.frozen? ⟨x, 0, none⟩ = false := (World.frozen?_of_block (a := ⟨x, 0, none⟩) (hg6.block x hxl (fun e => HX.out e.symm))).trans f0; have HO6 := Lib.hid hO6; have HG6 := Lib.hid hg6; have HB6 := Lib.hid hb6; clear hO6 hg6 hb6)))
  have ne : some x ≠ inB A := fun e => HX.out e.symm
  have hb6 : Blk w6 x (rp A n c r s) := ⟨(row_heap (HG6.out.block x hxl ne)).trans HBL.out.1, (nf_heap (HG6.out.block x hxl ne)).trans HBL.out.2⟩
  have HB7 := Lib.hid (hb6.put 0 (.slice A6 (n + C) c6))
  have hx6 : inB A6 ≠ some x := by
    rcases HB6.out with e | e
    · rw [e]; exact HX.out
    · rw [e]; intro e; injection e with e; have : w.drew.heap.size = w.heap.size := rfl; omega
  have HX6 := Lib.hid hx6
  clear hb6 hx6
  go_wp2
  go_ret2
  refine ⟨by simp, A6, c6, HB7.out, (HO6.out.ext (U := fun i => .int .u8 (cat Q n Y i)) (fun i hi => ?_)).heap (fun k hk => heap_setCell_other w6 ⟨x, 0, none⟩ k _ (fun e => HX6.out (by rw [hk, e]))), HX6.out, HB6.out, fun k hk hkx hkA => ?_, ?_, HG6.out.os, HG6.out.tape, HG6.out.output⟩
  · unfold catV cat
    by_cases h : i < n
    · rw [if_pos h, if_pos h]
    · rw [if_neg h, if_neg h]
  · exact (heap_setCell_other w6 ⟨x, 0, none⟩ k _ hkx).trans (HG6.out.block k hk (fun e => hkA e.symm))
  · simpa using HG6.out.size
end Go.Proofs.Ytmifomppnmhmpaa
