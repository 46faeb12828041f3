import Derived.Test.YtmifomppnmhmpaaRing
import Derived.Deep.QuietTactic
import Derived.BigQuiet
/- pipe.New and what only looks. -/
namespace Go.Proofs.Ytmifomppnmhmpaa
open Go.RowKit
set_option linter.unusedVariables false
attribute [local go_sem] szIs_lit row_at row_past row_alloc nf_alloc row_set nf_set row_cell nf_cell row_drew nf_drew row_drewN nf_drewN cell_setRow frozen_setRow nlt1 nlt2 nlt3 nlt4 nne1 nne2 nne3 nen1 nen2 nen3
attribute [local go_sem] rg_setf rg_setn rg_setm

/-- All but two blocks stand. -/
structure Keep (w w' : World) (g m : Nat) : Prop where
  os : w'.os = w.os
  tape : w'.tape = w.tape
  output : w'.output = w.output
  size : w.heap.size ≤ w'.heap.size
  block : ∀ k, k < w.heap.size → k ≠ g → k ≠ m → w'.heap[k]? = w.heap[k]?
theorem Keep.refl (w : World) (g m : Nat) : Keep w w g m := ⟨rfl, rfl, rfl, Nat.le_refl _, fun _ _ _ _ => rfl⟩
theorem Keep.trans {w w1 w2 : World} {g m : Nat} (h : Keep w w1 g m) (h2 : Keep w1 w2 g m) : Keep w w2 g m :=
  ⟨h2.os.trans h.os, h2.tape.trans h.tape, h2.output.trans h.output, Nat.le_trans h.size h2.size, fun k hk a b => (h2.block k (Nat.lt_of_lt_of_le hk h.size) a b).trans (h.block k hk a b)⟩
theorem Keep.of_below {w w1 : World} (g m : Nat) (h : Below w.heap.size w w1) : Keep w w1 g m := ⟨h.os, h.tape, h.output, h.size, fun k hk _ _ => h.block k hk⟩
theorem Keep.of_only {w w1 : World} {g m : Nat} (h : w.grownBy w1 (some g)) : Keep w w1 g m := ⟨h.os, h.tape, h.output, h.size, fun k hk a _ => h.block k hk (fun e => a (by injection e))⟩
theorem Keep.of_only2 {w w1 : World} {g m : Nat} (h : w.grownBy w1 (some m)) : Keep w w1 g m := ⟨h.os, h.tape, h.output, h.size, fun k hk _ a => h.block k hk (fun e => a (by injection e))⟩
theorem Keep.below {w w1 : World} {g m B : Nat} (h : Keep w w1 g m) (hg : B ≤ g) (hm : B ≤ m) (hB : B ≤ w.heap.size) : Below B w w1 := ⟨h.os, h.tape, h.output, h.size, fun k hk => h.block k (by omega) (by omega) (by omega)⟩
theorem Keep.blk {w w1 : World} {g m b : Nat} {c : Array Value} (h : Keep w w1 g m) (hb : Blk w b c) (hg : b ≠ g) (hm : b ≠ m) : Blk w1 b c := by
  have e := h.block b hb.lt hg hm
  exact ⟨(row_heap e).trans hb.1, (nf_heap e).trans hb.2⟩
/-- A pipe: its struct g, its map m, its bytes. -/
def PipeAt (w : World) (g m : Nat) (Q : Nat → Int) (n : Nat) (r s : Int) : Prop :=
  ∃ B f, Blk w g (ring B (f : Nat) n (.map (some m))) ∧ w.heap[m]? = some (held r s) ∧ f < 512 ∧ n ≤ 512 ∧ ∀ i, i < n → Q i = B ((f + i) % 512)
theorem PipeAt.ne {w : World} {g m n : Nat} {Q : Nat → Int} {r s : Int} (h : PipeAt w g m Q n r s) : g ≠ m := by
  obtain ⟨B, f, hb, hm, _⟩ := h
  intro e; subst e
  obtain ⟨t, ht⟩ := nf_iff hb.2
  rw [hm] at ht; cases ht
theorem PipeAt.lt {w : World} {g m n : Nat} {Q : Nat → Int} {r s : Int} (h : PipeAt w g m Q n r s) : g < w.heap.size ∧ m < w.heap.size := by
  obtain ⟨B, f, hb, hm, _⟩ := h
  exact ⟨hb.lt, (Array.getElem?_eq_some_iff.1 hm).1⟩
theorem PipeAt.keep {w w1 : World} {g m n g' m' : Nat} {Q : Nat → Int} {r s : Int} (h : PipeAt w g m Q n r s) (hk : Keep w w1 g' m') (h1 : g ≠ g') (h2 : g ≠ m') (h3 : m ≠ g') (h4 : m ≠ m') : PipeAt w1 g m Q n r s := by
  obtain ⟨l1, l2⟩ := h.lt
  obtain ⟨B, f, hb, hm, hr⟩ := h
  exact ⟨B, f, hk.blk hb h1 h2, (hk.block m l2 h3 h4).trans hm, hr⟩
theorem PipeAt.below {w w1 : World} {g m n B : Nat} {Q : Nat → Int} {r s : Int} (h : PipeAt w g m Q n r s) (hk : Below B w w1) (h1 : g < B) (h2 : m < B) : PipeAt w1 g m Q n r s := by
  obtain ⟨B, f, hb, hm, hr⟩ := h
  exact ⟨B, f, hb.below hk h1, (hk.block m h2).trans hm, hr⟩
theorem run_zero61 (w : World) : (zeroValue 61).run Try.prog w = .ok (.agg (ring (fun _ => 0) 0 0 (.map none))) w := by
  kernel_rfl
theorem push_set (a : Array Obj) (x y : Obj) : (a.push x).setIfInBounds a.size y = a.push y := by
  apply Array.ext_getElem?
  intro i
  rw [Array.getElem?_setIfInBounds, Array.getElem?_push, Array.getElem?_push]
  by_cases h : a.size = i
  · subst h; simp
  · rw [if_neg h, if_neg (Ne.symm h), if_neg (Ne.symm h)]
theorem ins1 (w : World) : (Instr.mapUpdate 58 (.map (some w.heap.size)) (.bool false) (.int .i64 1)).run Try.prog (w.alloc (.map #[] 0)) = .ok () (w.alloc (.map #[⟨.bool false, .int .i64 1, 0⟩] 1)) := by
  have h : (w.alloc (.map #[] 0)).heap[w.heap.size]? = some (.map #[] 0) := heap_alloc_new w _
  have hf : Instr.findNow .bool (.bool false) [] 0 = some none := rfl
  have := MapKept.run_findKey (P := Try.prog) (w := w.alloc (.map #[] 0)) (kt := 4) u4 hf
  simp [Instr.mapUpdate, run_underlying u58, MapKept.run_getObj_map h, MapKept.run_checkKey u4 (isKeyB _), this, Result.andThen, MapKept.run_setObj_map _ h]
  exact congrArg (fun h => ({ w with heap := h } : World)) (push_set w.heap _ _)
theorem ins2 (w : World) : (Instr.mapUpdate 58 (.map (some w.heap.size)) (.bool true) (.int .i64 1)).run Try.prog (w.alloc (.map #[⟨.bool false, .int .i64 1, 0⟩] 1)) = .ok () (w.alloc (held 1 1)) := by
  have h : (w.alloc (.map #[⟨.bool false, .int .i64 1, 0⟩] 1)).heap[w.heap.size]? = some (.map #[⟨.bool false, .int .i64 1, 0⟩] 1) := heap_alloc_new w _
  have hf : Instr.findNow .bool (.bool true) [⟨.bool false, .int .i64 1, 0⟩] 0 = some none := rfl
  have := MapKept.run_findKey (P := Try.prog) (w := w.alloc (.map #[⟨.bool false, .int .i64 1, 0⟩] 1)) (kt := 4) u4 hf
  simp [Instr.mapUpdate, run_underlying u58, MapKept.run_getObj_map h, MapKept.run_checkKey u4 (isKeyB _), this, Result.andThen, MapKept.run_setObj_map _ h]
  exact congrArg (fun h => ({ w with heap := h } : World)) (push_set w.heap _ _)
def NewPipe (w : World) (e : Ending) (w' : World) : Prop := ∃ g m, e = .returned (.pointer (some ⟨g, 0, none⟩)) ∧ w.heap.size ≤ g ∧ w.heap.size ≤ m ∧ PipeAt w' g m (fun _ => 0) 0 1 1 ∧ Below w.heap.size w w'
set_option maxRecDepth 20000 in
theorem new_ok (w : World) : Calls Try.prog 9 #[] w (NewPipe w) := by
  have hmm := @run_makeMap Try.prog
  have h1 := ins1 w
  have h2 := ins2 w
  have h3 := fun w => run_zero61 w
  have h4 := rg_size (fun _ => 0) 0 0 (.map none)
  go_enter Try.func9, Try.ntmps9
  go_wp2
  go_ret
  refine ⟨w.heap.size + 1, w.heap.size, by simp, by omega, by omega, ⟨fun _ => 0, 0, ?_, ?_, by omega, by omega, fun i hi => by omega⟩, ?_⟩
  · exact Blk.of_heap (heap_at (by simp))
  · rw [heap_past (by simp)]; exact heap_alloc_new w _
  · exact ((Below.refl _ _).alloc (Nat.le_refl _) _).alloc (by simp) _
theorem made_ok (g m n : Nat) (Q : Nat → Int) (r s : Int) (w : World) (h : PipeAt w g m Q n r s) : Calls Try.prog 30 #[.pointer (some ⟨g, 0, none⟩)] w fun e w' => e = .returned (.bool true) ∧ w = w' := by
  obtain ⟨B, f, hb, hm, hf, hn, hq⟩ := h
  obtain ⟨gr, gn, gc, gf⟩ := hb.all
  have c2 := (gc 512).trans (rg_first ..)
  have c3 := (gc 513).trans (rg_n ..)
  have c4 := (gc 514).trans (rg_map ..)
  clear gc
  have hl0 := look_held hm false
  have hl1 := look_held hm true
  have hl2 := fun k => look_held (w := w.drewN k) hm false
  have hl3 := fun k => look_held (w := w.drewN k) hm true
  simp only [Bool.false_eq_true, if_false, if_true] at hl0 hl1 hl2 hl3
  clear hb hm hq
  have hne := fun w r => run_neq_map_nil (P := Try.prog) w 58 4 3 r u58
  go_enter Try.func30, Try.ntmps30
  go_wp2
  go_ret
  exact ⟨by simp, rfl⟩
theorem len_ok (g m n : Nat) (Q : Nat → Int) (r s : Int) (w : World) (h : PipeAt w g m Q n r s)  : Calls Try.prog 13 #[.pointer (some ⟨g, 0, none⟩)] w fun e w' => e = .returned (.int .i64 n) ∧ w = w' := by
  have HM := Lib.hid (made_ok g m n Q r s w h)
  obtain ⟨B, f, hb, hm, hf, hn, hq⟩ := h
  obtain ⟨gr, gn, gc, gf⟩ := hb.all
  have c2 := (gc 512).trans (rg_first ..)
  have c3 := (gc 513).trans (rg_n ..)
  have c4 := (gc 514).trans (rg_map ..)
  clear gc
  have hl0 := look_held hm false
  have hl1 := look_held hm true
  have hl2 := fun k => look_held (w := w.drewN k) hm false
  have hl3 := fun k => look_held (w := w.drewN k) hm true
  simp only [Bool.false_eq_true, if_false, if_true] at hl0 hl1 hl2 hl3
  clear hb hm hq
  have hne := fun w r => run_neq_map_nil (P := Try.prog) w 58 4 3 r u58
  go_enter Try.func13, Try.ntmps13
  go_wp2_with fail
  refine (HM.out).mono ?_; rintro e w' ⟨rfl, rfl⟩
  go_wp2
  go_ret
  exact ⟨by first | (simp; done) | (simp; omega), rfl⟩
theorem ends_ok (g m n : Nat) (Q : Nat → Int) (r s : Int) (w : World) (h : PipeAt w g m Q n r s)  : Calls Try.prog 23 #[.pointer (some ⟨g, 0, none⟩)] w fun e w' => e = .returned (.tuple #[.int .i64 r, .int .i64 s]) ∧ Below w.heap.size w w' := by
  have HM := Lib.hid (made_ok g m n Q r s w h)
  obtain ⟨B, f, hb, hm, hf, hn, hq⟩ := h
  obtain ⟨gr, gn, gc, gf⟩ := hb.all
  have c2 := (gc 512).trans (rg_first ..)
  have c3 := (gc 513).trans (rg_n ..)
  have c4 := (gc 514).trans (rg_map ..)
  clear gc
  have hl0 := look_held hm false
  have hl1 := look_held hm true
  have hl2 := fun k => look_held (w := w.drewN k) hm false
  have hl3 := fun k => look_held (w := w.drewN k) hm true
  simp only [Bool.false_eq_true, if_false, if_true] at hl0 hl1 hl2 hl3
  clear hb hm hq
  have hne := fun w r => run_neq_map_nil (P := Try.prog) w 58 4 3 r u58
  go_enter Try.func23, Try.ntmps23
  go_wp2_with fail
  refine (HM.out).mono ?_; rintro e w' ⟨rfl, rfl⟩
  go_wp2_with fail
  go_quiet (fail)
  go_wp2
  go_ret2
  exact ⟨by first | (simp; done) | (simp; omega), below_drewN (Below.refl _ _) _⟩
theorem ready_wr0 (g m n : Nat) (Q : Nat → Int) (r s : Int) (w : World) (h : PipeAt w g m Q n r s) (h0 : r = 0) : Calls Try.prog 16 #[.pointer (some ⟨g, 0, none⟩), .bool true] w fun e w' => e = .returned (.bool true) ∧ w = w' := by
  have HM := Lib.hid (made_ok g m n Q r s w h)
  obtain ⟨B, f, hb, hm, hf, hn, hq⟩ := h
  obtain ⟨gr, gn, gc, gf⟩ := hb.all
  have c2 := (gc 512).trans (rg_first ..)
  have c3 := (gc 513).trans (rg_n ..)
  have c4 := (gc 514).trans (rg_map ..)
  clear gc
  have hl0 := look_held hm false
  have hl1 := look_held hm true
  have hl2 := fun k => look_held (w := w.drewN k) hm false
  have hl3 := fun k => look_held (w := w.drewN k) hm true
  simp only [Bool.false_eq_true, if_false, if_true] at hl0 hl1 hl2 hl3
  clear hb hm hq
  have hne := fun w r => run_neq_map_nil (P := Try.prog) w 58 4 3 r u58
  subst h0
  go_enter Try.func16, Try.ntmps16
  go_wp2_with fail
  refine (HM.out).mono ?_; rintro e w' ⟨rfl, rfl⟩
  go_wp2
  go_ret
  exact ⟨by first | (simp; done) | (simp; omega), rfl⟩
theorem ready_wr1 (g m n : Nat) (Q : Nat → Int) (r s : Int) (w : World) (h : PipeAt w g m Q n r s) (h0 : 0 < r) (h1 : n < 512) : Calls Try.prog 16 #[.pointer (some ⟨g, 0, none⟩), .bool true] w fun e w' => e = .returned (.bool true) ∧ w = w' := by
  have HM := Lib.hid (made_ok g m n Q r s w h)
  obtain ⟨B, f, hb, hm, hf, hn, hq⟩ := h
  obtain ⟨gr, gn, gc, gf⟩ := hb.all
  have c2 := (gc 512).trans (rg_first ..)
  have c3 := (gc 513).trans (rg_n ..)
  have c4 := (gc 514).trans (rg_map ..)
  clear gc
  have hl0 := look_held hm false
  have hl1 := look_held hm true
  have hl2 := fun k => look_held (w := w.drewN k) hm false
  have hl3 := fun k => look_held (w := w.drewN k) hm true
  simp only [Bool.false_eq_true, if_false, if_true] at hl0 hl1 hl2 hl3
  clear hb hm hq
  have hne := fun w r => run_neq_map_nil (P := Try.prog) w 58 4 3 r u58
  go_enter Try.func16, Try.ntmps16
  go_wp2_with fail
  refine (HM.out).mono ?_; rintro e w' ⟨rfl, rfl⟩
  go_wp2
  go_ret
  exact ⟨by first | (simp; done) | (simp; omega), rfl⟩
theorem ready_wr2 (g m n : Nat) (Q : Nat → Int) (r s : Int) (w : World) (h : PipeAt w g m Q n r s) (h0 : 0 < r) (h1 : n = 512) : Calls Try.prog 16 #[.pointer (some ⟨g, 0, none⟩), .bool true] w fun e w' => e = .returned (.bool false) ∧ w = w' := by
  have HM := Lib.hid (made_ok g m n Q r s w h)
  obtain ⟨B, f, hb, hm, hf, hn, hq⟩ := h
  obtain ⟨gr, gn, gc, gf⟩ := hb.all
  have c2 := (gc 512).trans (rg_first ..)
  have c3 := (gc 513).trans (rg_n ..)
  have c4 := (gc 514).trans (rg_map ..)
  clear gc
  have hl0 := look_held hm false
  have hl1 := look_held hm true
  have hl2 := fun k => look_held (w := w.drewN k) hm false
  have hl3 := fun k => look_held (w := w.drewN k) hm true
  simp only [Bool.false_eq_true, if_false, if_true] at hl0 hl1 hl2 hl3
  clear hb hm hq
  have hne := fun w r => run_neq_map_nil (P := Try.prog) w 58 4 3 r u58
  go_enter Try.func16, Try.ntmps16
  go_wp2_with fail
  refine (HM.out).mono ?_; rintro e w' ⟨rfl, rfl⟩
  go_wp2
  go_ret
  exact ⟨by first | (simp; done) | (simp; omega), rfl⟩
theorem ready_rd0 (g m n : Nat) (Q : Nat → Int) (r s : Int) (w : World) (h : PipeAt w g m Q n r s) (h0 : s = 0) : Calls Try.prog 16 #[.pointer (some ⟨g, 0, none⟩), .bool false] w fun e w' => e = .returned (.bool true) ∧ w = w' := by
  have HM := Lib.hid (made_ok g m n Q r s w h)
  obtain ⟨B, f, hb, hm, hf, hn, hq⟩ := h
  obtain ⟨gr, gn, gc, gf⟩ := hb.all
  have c2 := (gc 512).trans (rg_first ..)
  have c3 := (gc 513).trans (rg_n ..)
  have c4 := (gc 514).trans (rg_map ..)
  clear gc
  have hl0 := look_held hm false
  have hl1 := look_held hm true
  have hl2 := fun k => look_held (w := w.drewN k) hm false
  have hl3 := fun k => look_held (w := w.drewN k) hm true
  simp only [Bool.false_eq_true, if_false, if_true] at hl0 hl1 hl2 hl3
  clear hb hm hq
  have hne := fun w r => run_neq_map_nil (P := Try.prog) w 58 4 3 r u58
  subst h0
  go_enter Try.func16, Try.ntmps16
  go_wp2_with fail
  refine (HM.out).mono ?_; rintro e w' ⟨rfl, rfl⟩
  go_wp2
  go_ret
  exact ⟨by first | (simp; done) | (simp; omega), rfl⟩
theorem ready_rd1 (g m n : Nat) (Q : Nat → Int) (r s : Int) (w : World) (h : PipeAt w g m Q n r s) (h0 : 0 < s) (h1 : 0 < n) : Calls Try.prog 16 #[.pointer (some ⟨g, 0, none⟩), .bool false] w fun e w' => e = .returned (.bool true) ∧ w = w' := by
  have HM := Lib.hid (made_ok g m n Q r s w h)
  obtain ⟨B, f, hb, hm, hf, hn, hq⟩ := h
  obtain ⟨gr, gn, gc, gf⟩ := hb.all
  have c2 := (gc 512).trans (rg_first ..)
  have c3 := (gc 513).trans (rg_n ..)
  have c4 := (gc 514).trans (rg_map ..)
  clear gc
  have hl0 := look_held hm false
  have hl1 := look_held hm true
  have hl2 := fun k => look_held (w := w.drewN k) hm false
  have hl3 := fun k => look_held (w := w.drewN k) hm true
  simp only [Bool.false_eq_true, if_false, if_true] at hl0 hl1 hl2 hl3
  clear hb hm hq
  have hne := fun w r => run_neq_map_nil (P := Try.prog) w 58 4 3 r u58
  go_enter Try.func16, Try.ntmps16
  go_wp2_with fail
  refine (HM.out).mono ?_; rintro e w' ⟨rfl, rfl⟩
  go_wp2
  go_ret
  exact ⟨by first | (simp; done) | (simp; omega), rfl⟩
theorem ready_rd2 (g m n : Nat) (Q : Nat → Int) (r s : Int) (w : World) (h : PipeAt w g m Q n r s) (h0 : 0 < s) (h1 : n = 0) : Calls Try.prog 16 #[.pointer (some ⟨g, 0, none⟩), .bool false] w fun e w' => e = .returned (.bool false) ∧ w = w' := by
  have HM := Lib.hid (made_ok g m n Q r s w h)
  obtain ⟨B, f, hb, hm, hf, hn, hq⟩ := h
  obtain ⟨gr, gn, gc, gf⟩ := hb.all
  have c2 := (gc 512).trans (rg_first ..)
  have c3 := (gc 513).trans (rg_n ..)
  have c4 := (gc 514).trans (rg_map ..)
  clear gc
  have hl0 := look_held hm false
  have hl1 := look_held hm true
  have hl2 := fun k => look_held (w := w.drewN k) hm false
  have hl3 := fun k => look_held (w := w.drewN k) hm true
  simp only [Bool.false_eq_true, if_false, if_true] at hl0 hl1 hl2 hl3
  clear hb hm hq
  have hne := fun w r => run_neq_map_nil (P := Try.prog) w 58 4 3 r u58
  go_enter Try.func16, Try.ntmps16
  go_wp2_with fail
  refine (HM.out).mono ?_; rintro e w' ⟨rfl, rfl⟩
  go_wp2
  go_ret
  exact ⟨by first | (simp; done) | (simp; omega), rfl⟩

end Go.Proofs.Ytmifomppnmhmpaa
