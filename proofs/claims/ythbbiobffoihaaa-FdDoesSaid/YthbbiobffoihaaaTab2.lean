import Derived.Test.YthbbiobffoihaaaTab
/- Table, Fds, Free. -/
namespace Go.Proofs.Ythbbiobffoihaaa
open Go.RowKit Go.BigFrame
set_option linter.unusedVariables false
set_option linter.unusedSimpArgs false
attribute [local go_sem] szIs_lit row_at row_past row_alloc nf_alloc row_set nf_set row_cell nf_cell row_drew nf_drew row_drewN nf_drewN cell_setRow frozen_setRow nlt1 nlt2 nlt3 nlt4 nne1 nne2 nne3 nen1 nen2 nen3
set_option maxRecDepth 20000
theorem wpList_load_run {P : Program} {ops rest : _} {o : Oper} {a : Act} {w : World} {Q : Exit → Act → World → Prop} (hgd : o.guard = none) (ty : TypeId) (x : Operand) (ho : o.op = .load ty x) (p : Value) (hx : a.eval x = p) {v : Value} (hr : (Instr.loadAt ty p).run P w = .ok v w)
    (h : wpList P ops Q rest (a.put o.dst v) w) : wpList P ops Q (o :: rest) a w := by
  refine wpList_run hgd (s := Instr.loadAt ty p) ?_ hr h
  obtain ⟨dst, op, type, pos, after, guard⟩ := o
  simp only at ho
  subst ho hx
  rfl
theorem TR.arr {w : World} {t g : Nat} {D : List Int} (h : TR w t g D) : (Instr.loadAt 60 (.pointer (some ⟨t, 1, none⟩))).run Try.prog w = .ok (.agg (iv D).toArray) w :=
  run_loadAt_mid w t 1 60 (iv D) (.array 16 3) (fun j v hv => by
    simp only [iv, List.getElem?_map, Option.map_eq_some_iff] at hv
    obtain ⟨x, hx, rfl⟩ := hv
    exact h.at hx) (by kernel_rfl) rfl (by rw [iv_len, h.len]; kernel_rfl)
theorem arr_ix {D : List Int} (hD : D.length = 16) {j : Nat} {x : Int} (hj : D[j]? = some x) (w : World) : (Instr.index 60 (.agg (iv D).toArray) (.int .i64 (j : Int))).run Try.prog w = .ok (.int .i64 x) w := by
  have hl := (List.getElem?_eq_some_iff.1 hj).1
  rw [hD] at hl
  have hu : Try.prog.underlying 60 = some (.array 16 3) := by kernel_rfl
  have hs : ∀ w, (sizeOf 3).run Try.prog w = .ok 1 w := fun w => by kernel_rfl
  have ha : ∀ w, (isAgg 3).run Try.prog w = .ok false w := fun w => by kernel_rfl
  have hx : (iv D)[j]? = some (.int .i64 x) := iv_get hj
  have h0 : ¬ ((j : Int) < 0) := by omega
  have h1 : ¬ ((16 : Int) ≤ (j : Int)) := by omega
  simp [go_sem, Instr.index, run_underlying hu, hs, ha, h0, h1, hx, iv]
  rw [if_pos hl, hj]; rfl
/-- The descriptors below j that name one. -/
def fdl (D : List Int) (j : Nat) : List Int := ((List.range j).filter fun i => decide (D[i]? ≠ some (-1))).map fun i : Nat => (i : Int)
theorem fdl_succ (D : List Int) (j : Nat) : fdl D (j + 1) = if D[j]? = some (-1) then fdl D j else fdl D j ++ [(j : Int)] := by
  unfold fdl
  rw [List.range_succ, List.filter_append, List.map_append]
  by_cases h : D[j]? = some (-1)
  · rw [if_pos h]; simp [h]
  · rw [if_neg h]; simp [h]
theorem fdl_len (D : List Int) (j : Nat) : (fdl D j).length ≤ j := by
  induction j with
  | zero => simp [fdl]
  | succ j ih =>
    rw [fdl_succ]
    split
    · omega
    · simp; omega
theorem mem_fdl {D : List Int} {j : Nat} {x : Int} : x ∈ fdl D j ↔ ∃ i : Nat, i < j ∧ x = (i : Int) ∧ D[i]? ≠ some (-1) := by
  unfold fdl
  simp only [List.mem_map, List.mem_filter, List.mem_range, decide_eq_true_eq]
  constructor
  · rintro ⟨i, ⟨h1, h2⟩, rfl⟩; exact ⟨i, h1, rfl, h2⟩
  · rintro ⟨i, h1, rfl, h2⟩; exact ⟨i, ⟨h1, h2⟩, rfl⟩
theorem bs56 (x : Int) (w : World) : (Instr.buildSlice 56 1 #[(0, .int .i64 x)]).run Try.prog w = .ok (.slice (some ⟨w.heap.size, 0, none⟩) 1 1) (w.alloc (.cells #[.int .i64 x] 3)) := by
  simp [go_sem]
section
variable {w w' : World} {t g m : Nat} {D : List Int}
set_option maxHeartbeats 2000000 in
theorem fds_ok (h : TR w t g D) : Calls Try.prog 24 #[.pointer (some ⟨t, 0, none⟩)] w fun e w' => ∃ A c, e = .returned (.slice A (fdl D 16).length c) ∧ Rw w' 3 1 A (fdl D 16).length c (iv (fdl D 16)) ∧ Below w.heap.size w w' ∧ ∀ k, blkOf A = some k → w.heap.size ≤ k := by
  have HM := Lib.hid (tmade_ok h)
  have HD := Lib.hid h.len
  have hld := h.arr
  clear h
  go_enter Try.func24, Try.ntmps24
  go_wp2_with fail
  refine HM.out.mono ?_
  rintro e w' ⟨rfl, rfl⟩
  go_wp2_with (first | (refine wpList_load_run rfl 60 (.tmp 11) rfl (.pointer (some ⟨t, 1, none⟩)) rfl hld ?_) | fail)
  go_loopg [3, 13] 16 (fun m o_ p_ wr => ∃ (j c : Nat) (A : Option Addr), o_ = .slice A (fdl D j).length c ∧ p_ = .int .i64 (j : Int) ∧ m = 16 - j ∧ j ≤ 16 ∧ Rw wr 3 1 A (fdl D j).length c (iv (fdl D j)) ∧ Below w.heap.size w wr ∧ ∀ b, blkOf A = some b → w.heap.size ≤ b)
  case atStart => exact ⟨0, 0, none, rfl, rfl, rfl, by omega, Rw.nil _ _ _, Below.refl _ _, by simp [blkOf]⟩
  case round =>
    obtain ⟨j, c, A, rfl, rfl, hm, hj, hr, hb, hf⟩ := hrel
    have HM2 := Lib.hid hm
    have HR := Lib.hid hr
    have HB := Lib.hid hb
    have HF := Lib.hid hf
    clear hm hr hb hf
    by_cases hlt : j < 16
    · obtain ⟨x, hx⟩ : ∃ x, D[j]? = some x := ⟨_, List.getElem?_eq_getElem (by rw [HD.out]; exact hlt)⟩
      have hix := arr_ix HD.out hx
      have HX := Lib.hid hx
      have hw : IntKind.i64.wrap ((j : Int) + 1) = (j : Int) + 1 := IntWalk.i64_in _ (by omega)
      clear hx
      by_cases hv : x = -1
      · subst hv
        go_wp2_with fail
        go_roundg (16 - (j + 1))
        case measure => have := HM2.out; omega
        case rel => exact ⟨j + 1, c, A, by rw [fdl_succ, if_pos HX.out], by first | rfl | go_num, rfl, by omega, by rw [fdl_succ, if_pos HX.out]; exact HR.out, HB.out, HF.out⟩
      · have hv2 : (x == -1) = false := by simpa using hv
        have hle := fdl_len D j
        have hbb : Below wr.heap.size wr (wr.alloc (.cells #[.int .i64 (j : Int)] 3)) := (Below.refl _ _).alloc (Nat.le_refl _) _
        obtain ⟨A2, c2, w2, e1, e2, e3, e4⟩ := rw_append (P := Try.prog) intT 56 (HR.out.below hbb) (some ⟨wr.heap.size, 0, none⟩) 1 1 [.int .i64 (j : Int)] rfl (Rd.of_cells (fun j u hu => by
          cases j with
          | zero => simp at hu; subst hu; simp [go_sem]
          | succ j => simp at hu) (by simp [Value.oneCell'])) (by intro e; cases e) (by unfold maxLen; omega) (by omega)
        have hbs := bs56 (j : Int)
        have HE1 := Lib.hid e1
        have HE := Lib.hid (And.intro e2 (And.intro hbb (And.intro e3 e4)))
        clear e1 e2 e3 e4 hbb hle
        go_wp2_with (at_builtin; go_must (refine wpList_run rfl (s := Builtin.append_ #[56, 56] 56 #[.slice A (fdl D j).length c, .slice (some ⟨wr.heap.size, 0, none⟩) 1 1]) (by kernel_rfl) HE1.out ?_))
        go_roundg (16 - (j + 1))
        case measure => have := HM2.out; omega
        case rel =>
          obtain ⟨x2, x1, x3, x4⟩ := HE.out
          have hsz := HB.out.size
          have hs : fdl D (j + 1) = fdl D j ++ [(j : Int)] := by rw [fdl_succ, if_neg (by rw [HX.out]; intro e; injection e with e; exact hv e)]
          refine ⟨j + 1, c2, A2, by rw [hs]; simp, by first | rfl | go_num, rfl, by omega, by rw [hs]; simpa [iv] using x2, HB.out.trans ((Below.mono x1 hsz).trans (x3.below (fun b hk q => ?_) (by have := x1.size; omega))), fun b q => ?_⟩
          · have := HF.out b q; omega
          · rcases x4 with e | e
            · exact HF.out b (e ▸ q)
            · rw [e] at q; injection q with q; simp at q; omega
    · obtain rfl : j = 16 := by omega
      go_wp2_with fail
      go_ret
      exact ⟨A, c, by first | rfl | simp, HR.out, HB.out, HF.out⟩
theorem free_ok (h : TR w t g D) : Calls Try.prog 7 #[.pointer (some ⟨t, 0, none⟩)] w fun e w' => e = .returned (.int .i64 (16 - ((fdl D 16).length : Int))) ∧ Below w.heap.size w w' := by
  have HM := Lib.hid (tmade_ok h)
  have HF := Lib.hid (fds_ok h)
  have hl := fdl_len D 16
  clear h
  go_enter Try.func7, Try.ntmps7
  go_wp2_with fail
  refine HM.out.mono ?_
  rintro e w' ⟨rfl, rfl⟩
  go_wp2_with fail
  refine HF.out.mono ?_
  rintro e w' ⟨A, c, rfl, hr, hb, hf⟩
  have HB := Lib.hid hb
  have hw : IntKind.i64.wrap (16 - ((fdl D 16).length : Int)) = 16 - ((fdl D 16).length : Int) := IntWalk.i64_in _ (by omega)
  clear hr hb hf
  go_wp2_with fail
  go_ret
  exact ⟨by first | rfl | simp, HB.out⟩
set_option maxHeartbeats 1000000 in
theorem table_ok {L : PL Fl} (h : FR w g m L) : Calls Try.prog 23 #[.pointer (some ⟨g, 0, none⟩)] w fun e w' => e = .returned (.pointer (some ⟨w.heap.size, 0, none⟩)) ∧ TR w' w.heap.size g (List.replicate 16 (-1)) ∧ Below w.heap.size w w' := by
  have HM := Lib.hid (made_ok h)
  clear h
  have hb0 : Below w.heap.size w (w.alloc (.cells (tcells g (List.replicate 16 0)) 62)) := (Below.refl _ _).alloc (Nat.le_refl _) _
  have ht0 : TR (w.alloc (.cells (tcells g (List.replicate 16 0)) 62)) w.heap.size g (List.replicate 16 0) := ⟨Blk.of_heap (heap_at rfl), rfl⟩
  generalize hu : w.alloc (.cells (tcells g (List.replicate 16 0)) 62) = u at *
  have hu2 : w.alloc (.cells #[.pointer (some ⟨g, 0, none⟩), .int .i64 0, .int .i64 0, .int .i64 0, .int .i64 0, .int .i64 0, .int .i64 0, .int .i64 0, .int .i64 0, .int .i64 0, .int .i64 0, .int .i64 0, .int .i64 0, .int .i64 0, .int .i64 0, .int .i64 0, .int .i64 0] 62) = u := hu
  have HB := Lib.hid hb0
  have HT := Lib.hid ht0
  clear hb0 ht0 hu
  go_enter Try.func23, Try.ntmps23
  go_wp2_with fail
  refine HM.out.mono ?_
  rintro e w' ⟨rfl, rfl⟩
  go_wp2_with (rw [hu2])
  clear hu2
  go_loopg [11] 16 (fun k i_ wr => ∃ j : Nat, i_ = .int .i64 (j : Int) ∧ k = 16 - j ∧ j ≤ 16 ∧ TR wr w.heap.size g (List.replicate j (-1) ++ List.replicate (16 - j) 0) ∧ Below w.heap.size w wr)
  case atStart => exact ⟨0, rfl, rfl, by omega, HT.out, HB.out⟩
  case round =>
    obtain ⟨j, rfl, hk, hj, ht, hb⟩ := hrel
    have HK := Lib.hid hk
    have HT2 := Lib.hid ht
    have HB2 := Lib.hid hb
    clear hk hb
    by_cases hlt : j < 16
    · have hc : wr.cell? ⟨w.heap.size, 1 + j, none⟩ = some (.int .i64 0) := ht.at (by rw [List.getElem?_append_right (by simp), List.getElem?_replicate, if_pos (by simp; omega)])
      have hf := ht.frz
      have hw : IntKind.i64.wrap ((j : Int) + 1) = (j : Int) + 1 := IntWalk.i64_in _ (by omega)
      clear ht
      go_wp2_with fail
      go_roundg (16 - (j + 1))
      case measure => have := HK.out; omega
      case rel =>
        refine ⟨j + 1, by first | rfl | go_num, rfl, by omega, ?_, ?_⟩
        · have h1 := HT2.out.put j (-1)
          have e : (List.replicate j (-1 : Int) ++ List.replicate (16 - j) 0).set j (-1) = List.replicate (j + 1) (-1) ++ List.replicate (16 - (j + 1)) 0 := by
            obtain ⟨r, hr⟩ : ∃ r, 16 - j = r + 1 := ⟨15 - j, by omega⟩
            rw [hr, show 16 - (j + 1) = r by omega, List.set_append_right _ _ (by simp)]
            rw [List.replicate_succ' (n := j)]
            simp [List.replicate_succ]
          rw [e] at h1
          exact h1
        · exact HB2.out.setCell (Nat.le_refl _) _
    · obtain rfl : j = 16 := by omega
      clear ht
      go_wp2_with fail
      go_ret
      exact ⟨by first | rfl | simp, by simpa using HT2.out, HB2.out⟩
end
end Go.Proofs.Ythbbiobffoihaaa
