import Derived.Test.YthbbiobffoihaaaRefC
/- The reference's tables. -/
namespace Go.Proofs.Ythbbiobffoihaaa
open Go.RowKit Go.BigFrame
set_option linter.unusedVariables false
set_option linter.unusedSimpArgs false
attribute [local go_sem] szIs_lit row_at row_past row_alloc nf_alloc row_set nf_set row_cell nf_cell row_drew nf_drew row_drewN nf_drewN cell_setRow frozen_setRow nlt1 nlt2 nlt3 nlt4 nne1 nne2 nne3 nen1 nen2 nen3
set_option maxRecDepth 20000
/-- What a reference's table holds where the program's holds D. -/
def up (D : List Int) : List Int := D.map (· + 1)
theorem up_get {D : List Int} {j : Nat} {v : Int} (h : D[j]? = some v) : (up D)[j]? = some (v + 1) := by simp [up, h]
theorem up_set (D : List Int) (j : Nat) (v : Int) : (up D).set j (v + 1) = up (D.set j v) := by simp [up, List.map_set]
theorem up_len (D : List Int) : (up D).length = D.length := by simp [up]
structure XR (w : World) (x r : Nat) (D : List Int) : Prop where
  blk : Blk w x (tcells r (up D))
  len : D.length = 16
  val : ∀ v ∈ D, -1 ≤ v ∧ v < 64
section
variable {w w' : World} {x r : Nat} {D : List Int} {L : PL Fl}
theorem XR.lt (h : XR w x r D) : x < w.heap.size := h.blk.lt
theorem XR.same (h : XR w x r D) (e : w'.heap[x]? = w.heap[x]?) : XR w' x r D := ⟨h.blk.same e, h.len, h.val⟩
theorem XR.ch {F : Nat → Prop} (h : XR w x r D) (hc : Ch F w w') (hx : ¬ F x) : XR w' x r D := ⟨h.blk.ch hc hx, h.len, h.val⟩
theorem XR.below (h : XR w x r D) (hb : Below w.heap.size w w') : XR w' x r D := h.same (hb.block x h.lt)
theorem XR.alloc (h : XR w x r D) (o : Obj) : XR (w.alloc o) x r D := h.below ((Below.refl _ _).alloc (Nat.le_refl _) _)
theorem XR.drew (h : XR w x r D) : XR w.drew x r D := h.same rfl
theorem XR.c0 (h : XR w x r D) : w.cell? ⟨x, 0, none⟩ = some (.pointer (some ⟨r, 0, none⟩)) := (h.blk.all.2.2.1 0).trans rfl
theorem XR.at (h : XR w x r D) {j : Nat} {v : Int} (hj : D[j]? = some v) : w.cell? ⟨x, 1 + j, none⟩ = some (.int .i64 (v + 1)) := by
  rw [h.blk.all.2.2.1 (1 + j)]
  simp [tcells, iv, Nat.add_comm 1 j, up_get hj]
theorem XR.frz (h : XR w x r D) (i : Nat) : w.frozen? ⟨x, i, none⟩ = false := h.blk.all.2.2.2 i
theorem XR.put (h : XR w x r D) (j : Nat) (v : Int) (hv : -1 ≤ v ∧ v < 64) : XR (w.setCell ⟨x, 1 + j, none⟩ (.int .i64 (v + 1))) x r (D.set j v) := by
  refine ⟨by rw [← up_set, ← tcells_set]; exact h.blk.put _ _, by rw [List.length_set]; exact h.len, fun u hu => ?_⟩
  rcases List.mem_or_eq_of_mem_set hu with hu | rfl
  · exact h.val u hu
  · exact hv
theorem XR.clear (h : XR w x r D) (j : Nat) : XR (w.setCell ⟨x, 1 + j, none⟩ (.int .i64 0)) x r (D.set j (-1)) := by
  have := h.put j (-1) ⟨by omega, by omega⟩
  have e : (-1 : Int) + 1 = 0 := by omega
  rwa [e] at this
theorem XR.arr (h : XR w x r D) : (Instr.loadAt 60 (.pointer (some ⟨x, 1, none⟩))).run Try.prog w = .ok (.agg (iv (up D)).toArray) w :=
  run_loadAt_mid w x 1 60 (iv (up D)) (.array 16 3) (fun j v hv => by
    simp only [iv, up, List.getElem?_map, Option.map_eq_some_iff] at hv
    obtain ⟨y, ⟨z, hz, rfl⟩, rfl⟩ := hv
    exact h.at hz) (by kernel_rfl) rfl (by rw [iv_len, up_len, h.len]; kernel_rfl)
theorem XR.lt16 (h : XR w x r D) {j : Nat} {v : Int} (hj : D[j]? = some v) : j < 16 := by have := (List.getElem?_eq_some_iff.1 hj).1; rw [h.len] at this; exact this
theorem XR.vat (h : XR w x r D) {j : Nat} {v : Int} (hj : D[j]? = some v) : -1 ≤ v ∧ v < 64 := h.val v (List.mem_of_getElem? hj)
theorem rtget_out (h : XR w x r D) (f : Int) (hf : f < 0 ∨ 16 ≤ f) : Calls Try.prog 39 #[.pointer (some ⟨x, 0, none⟩), .int .i64 f] w fun e w' => e = .returned (.tuple #[.int .i64 0, .int .i64 220]) ∧ w = w' := by
  clear h
  by_cases h1 : f < 0
  · have h2 : decide (f < 0) = true := by simpa using h1
    clear hf
    go_enter Try.func39, Try.ntmps39
    go_wp2
    go_ret2
    exact ⟨by first | rfl | simp, rfl⟩
  · have h2 : decide (f < 0) = false := by simpa using h1
    have h3 : decide (f ≥ 16) = true := by simp; omega
    clear hf
    go_enter Try.func39, Try.ntmps39
    go_wp2
    go_ret2
    exact ⟨by first | rfl | simp, rfl⟩
theorem rtget_free (h : XR w x r D) (j : Nat) (hj : D[j]? = some (-1)) : Calls Try.prog 39 #[.pointer (some ⟨x, 0, none⟩), .int .i64 (j : Int)] w fun e w' => e = .returned (.tuple #[.int .i64 0, .int .i64 220]) ∧ w = w' := by
  have hc : w.cell? ⟨x, 1 + j, none⟩ = some (.int .i64 0) := h.at hj
  have hl := h.lt16 hj
  have h2 : decide ((j : Int) < 0) = false := by simp
  have h3 : decide ((j : Int) ≥ 16) = false := by simp; omega
  clear h hj
  go_enter Try.func39, Try.ntmps39
  go_wp2
  go_ret2
  exact ⟨by first | rfl | simp, rfl⟩
theorem rtget_ok (h : XR w x r D) (j : Nat) (v : Int) (hj : D[j]? = some v) (hv : v ≠ -1) : Calls Try.prog 39 #[.pointer (some ⟨x, 0, none⟩), .int .i64 (j : Int)] w fun e w' => e = .returned (.tuple #[.int .i64 v, .int .i64 0]) ∧ w = w' := by
  have hc := h.at hj
  have hl := h.lt16 hj
  have hvv := h.vat hj
  have h2 : decide ((j : Int) < 0) = false := by simp
  have h3 : decide ((j : Int) ≥ 16) = false := by simp; omega
  have h4 : (v + 1 == 0) = false := by simp; omega
  have h5 : IntKind.i64.wrap ((v + 1) - 1) = v := by rw [show v + 1 - 1 = v by omega]; exact IntWalk.i64_in _ (by omega)
  have h6 : IntKind.i64.wrap v = v := IntWalk.i64_in _ (by omega)
  have h7 : v + 1 - 1 = v := by omega
  clear h hj hv hvv
  generalize hq : v + 1 = q at *
  clear hq
  go_enter Try.func39, Try.ntmps39
  go_wp2
  go_ret2
  exact ⟨by first | rfl | simp, rfl⟩
theorem rinst_no (h : XR w x r D) (hR : RF w r L) {v : Int} (hg : PL.get L v = none) : Calls Try.prog 30 #[.pointer (some ⟨x, 0, none⟩), .int .i64 v] w fun e w' => e = .returned (.tuple #[.int .i64 0, .int .i64 221]) ∧ w = w' := by
  have HF := Lib.hid (is_no hR hg)
  have c0 := h.c0
  clear h hR hg
  go_enter Try.func30, Try.ntmps30
  go_wp2_with fail
  refine HF.out.mono ?_
  rintro e w' ⟨rfl, rfl⟩
  go_wp2_with fail
  go_ret2
  exact ⟨by first | rfl | simp, rfl⟩
set_option maxHeartbeats 1000000 in
theorem rinst_any (h : XR w x r D) (hR : RF w r L) {v b : Nat} {f : Fl} (hv : v < 64) (hg : PL.get L (v : Int) = some (b, f)) : Calls Try.prog 30 #[.pointer (some ⟨x, 0, none⟩), .int .i64 (v : Int)] w fun e w' =>
    match D.findIdx? (fun y => y == -1) with | none => e = .returned (.tuple #[.int .i64 0, .int .i64 2]) ∧ w = w' | some j => e = .returned (.tuple #[.int .i64 (j : Int), .int .i64 0]) ∧ XR w' x r (D.set j (v : Int)) ∧ Ch (· = x) w w' := by
  have HF := Lib.hid (is_yes hR hv hg)
  have c0 := h.c0
  have hld := h.arr
  have HH := Lib.hid h
  have hvw : IntKind.i64.wrap ((v : Int) + 1) = (v : Int) + 1 := IntWalk.i64_in _ (by omega)
  clear h hR hg
  generalize hQ : (fun (e : Ending) (w' : World) => match D.findIdx? (fun y => y == -1) with | none => e = Ending.returned (.tuple #[.int .i64 0, .int .i64 2]) ∧ w = w' | some j => e = Ending.returned (.tuple #[.int .i64 (j : Int), .int .i64 0]) ∧ XR w' x r (D.set j (v : Int)) ∧ Ch (· = x) w w') = Q
  have HQ := Lib.hid hQ
  clear hQ
  go_enter Try.func30, Try.ntmps30
  go_wp2_with fail
  refine HF.out.mono ?_
  rintro e w' ⟨rfl, rfl⟩
  go_wp2_with (first | (refine wpList_load_run rfl 60 (.tmp 17) rfl (.pointer (some ⟨x, 1, none⟩)) rfl hld ?_) | fail)
  clear hld
  go_loopg [19] 16 (fun k i_ wr => ∃ i : Nat, i_ = .int .i64 (i : Int) ∧ k = 16 - i ∧ i ≤ 16 ∧ (∀ j : Nat, j < i → D[j]? ≠ some (-1)) ∧ wr = w)
  case atStart => exact ⟨0, rfl, rfl, by omega, fun j hj => by omega, rfl⟩
  case round =>
    obtain ⟨i, rfl, hk, hi, hb, rfl⟩ := hrel
    have HK := Lib.hid (And.intro hk hb)
    clear hk hb
    by_cases hlt : i < 16
    · obtain ⟨y, hy⟩ : ∃ y, D[i]? = some y := ⟨_, List.getElem?_eq_getElem (by rw [HH.out.len]; exact hlt)⟩
      have hix := arr_ix (D := up D) (by rw [up_len, HH.out.len]) (up_get hy)
      have hyv := HH.out.vat hy
      by_cases hv1 : y = -1
      · subst hv1
        have hix0 : ∀ w, (Instr.index 60 (.agg (iv (up D)).toArray) (.int .i64 (i : Int))).run Try.prog w = .ok (.int .i64 0) w := hix
        have hcc : wr.cell? ⟨x, 1 + i, none⟩ = some (.int .i64 0) := HH.out.at hy
        have hff := HH.out.frz
        have HP := Lib.hid (And.intro (HH.out.put i (v : Int) ⟨by omega, by omega⟩) ((Ch.refl (· = x) wr).cell ⟨x, 1 + i, none⟩ (.int .i64 ((v : Int) + 1)) (fun _ => rfl)))
        have hfi : D.findIdx? (fun y => y == -1) = some i := by
          rw [List.findIdx?_eq_some_iff_getElem]
          refine ⟨by rw [HH.out.len]; exact hlt, ?_, fun j hj => ?_⟩
          · have := (List.getElem?_eq_some_iff.1 hy).2; simp [this]
          · have := HK.out.2 j hj
            rw [List.getElem?_eq_getElem (by rw [HH.out.len]; omega)] at this
            simpa using this
        have HFI := Lib.hid hfi
        clear hix hy hyv hfi
        go_wp2_with fail
        rw [← HQ.out]
        simp only [HFI.out]
        exact ⟨by first | rfl | simp, HP.out⟩
      · have hy0 : (y + 1 == 0) = false := by simp; omega
        have hw : IntKind.i64.wrap ((i : Int) + 1) = (i : Int) + 1 := IntWalk.i64_in _ (by omega)
        have HY := Lib.hid hy
        generalize hq : y + 1 = q at *
        clear hy hyv hq
        go_wp2_with fail
        go_roundg (16 - (i + 1))
        case measure => have := HK.out.1; omega
        case rel =>
          refine ⟨i + 1, by first | rfl | go_num, rfl, by omega, fun j hj => ?_, rfl⟩
          rcases Nat.lt_or_ge j i with h4 | h4
          · exact HK.out.2 j h4
          · obtain rfl : j = i := by omega
            rw [HY.out]; intro e; injection e with e; exact hv1 e
    · obtain rfl : i = 16 := by omega
      have hfi : D.findIdx? (fun y => y == -1) = none := by
        rw [List.findIdx?_eq_none_iff]
        intro y hy
        obtain ⟨j, hj⟩ := List.getElem?_of_mem hy
        have := HK.out.2 j (HH.out.lt16 hj)
        rw [hj] at this
        simpa using this
      have HFI := Lib.hid hfi
      clear hfi
      go_wp2_with fail
      rw [← HQ.out]
      simp only [HFI.out]
      first
        | exact ⟨by first | rfl | simp, rfl⟩
        | exact ⟨by first | rfl | simp, trivial⟩
/-! Fds -/
set_option maxHeartbeats 2000000 in
theorem rfds_ok (h : XR w x r D) : Calls Try.prog 40 #[.pointer (some ⟨x, 0, none⟩)] w fun e w' => ∃ A c, e = .returned (.slice A (fdl D 16).length c) ∧ Rw w' 3 1 A (fdl D 16).length c (iv (fdl D 16)) ∧ Below w.heap.size w w' ∧ ∀ k, blkOf A = some k → w.heap.size ≤ k := by
  have HD := Lib.hid h
  have hld := h.arr
  clear h
  go_enter Try.func40, Try.ntmps40
  go_wp2_with (first | (refine wpList_load_run rfl 60 (.tmp 8) rfl (.pointer (some ⟨x, 1, none⟩)) rfl hld ?_) | fail)
  clear hld
  go_loopg [3, 10] 16 (fun m o_ p_ wr => ∃ (j c : Nat) (A : Option Addr), o_ = .slice A (fdl D j).length c ∧ p_ = .int .i64 (j : Int) ∧ m = 16 - j ∧ j ≤ 16 ∧ Rw wr 3 1 A (fdl D j).length c (iv (fdl D j)) ∧ Below w.heap.size w wr ∧ ∀ b, blkOf A = some b → w.heap.size ≤ b)
  case atStart => exact ⟨0, 0, none, rfl, rfl, rfl, by omega, Rw.nil _ _ _, Below.refl _ _, by simp [blkOf]⟩
  case round =>
    obtain ⟨j, c, A, rfl, rfl, hm, hj, hr, hb, hf⟩ := hrel
    have HM2 := Lib.hid hm
    have HR := Lib.hid hr
    have HB := Lib.hid hb
    have HF := Lib.hid hf
    clear hm hr hb hf
    by_cases hlt : j < 16
    · obtain ⟨y, hy⟩ : ∃ y, D[j]? = some y := ⟨_, List.getElem?_eq_getElem (by rw [HD.out.len]; exact hlt)⟩
      have hix := arr_ix (D := up D) (by rw [up_len, HD.out.len]) (up_get hy)
      have hyv := HD.out.vat hy
      have HX := Lib.hid hy
      have hw : IntKind.i64.wrap ((j : Int) + 1) = (j : Int) + 1 := IntWalk.i64_in _ (by omega)
      clear hy
      by_cases hv : y = -1
      · subst hv
        have hix0 : ∀ w, (Instr.index 60 (.agg (iv (up D)).toArray) (.int .i64 (j : Int))).run Try.prog w = .ok (.int .i64 0) w := hix
        clear hix
        go_wp2_with fail
        go_roundg (16 - (j + 1))
        case measure => have := HM2.out; omega
        case rel => exact ⟨j + 1, c, A, by rw [fdl_succ, if_pos HX.out], by first | rfl | go_num, rfl, by omega, by rw [fdl_succ, if_pos HX.out]; exact HR.out, HB.out, HF.out⟩
      · have hy0 : decide (y + 1 > 0) = true := by simp; omega
        have hle := fdl_len D j
        have hbb : Below wr.heap.size wr (wr.alloc (.cells #[.int .i64 (j : Int)] 3)) := (Below.refl _ _).alloc (Nat.le_refl _) _
        obtain ⟨A2, c2, w2, e1, e2, e3, e4⟩ := rw_append (P := Try.prog) intT 56 (HR.out.below hbb) (some ⟨wr.heap.size, 0, none⟩) 1 1 [.int .i64 (j : Int)] rfl (Rd.of_cells (fun j u hu => by
          cases j with
          | zero => simp at hu; subst hu; simp [go_sem]
          | succ j => simp at hu) (by simp [Value.oneCell'])) (by intro e; cases e) (by unfold maxLen; omega) (by omega)
        have hbs := bs56 (j : Int)
        have HE1 := Lib.hid e1
        have HE := Lib.hid (And.intro e2 (And.intro hbb (And.intro e3 e4)))
        generalize hq : y + 1 = q at *
        clear e1 e2 e3 e4 hbb hle hyv hq
        go_wp2_with (at_builtin; go_must (refine wpList_run rfl (s := Builtin.append_ #[56, 56] 56 #[.slice A (fdl D j).length c, .slice (some ⟨wr.heap.size, 0, none⟩) 1 1]) (by kernel_rfl) HE1.out ?_))
        go_roundg (16 - (j + 1))
        case measure => have := HM2.out; omega
        case rel =>
          obtain ⟨x2, x1, x3, x4⟩ := HE.out
          have hsz := HB.out.size
          have hs : fdl D (j + 1) = fdl D j ++ [(j : Int)] := by rw [fdl_succ, if_neg (by rw [HX.out]; intro e; injection e with e; exact hv e)]
          refine ⟨j + 1, c2, A2, by rw [hs]; simp, by first | rfl | go_num, rfl, by omega, by rw [hs]; simpa [iv] using x2, HB.out.trans ((Below.mono x1 hsz).trans (x3.below (fun b hk q => ?_) (by have := x1.size; omega))), fun b q => ?_⟩
          · have := HF.out b q; omega
          · rcases x4 with e | e
            · exact HF.out b (e ▸ q)
            · rw [e] at q; injection q with q; simp at q; omega
    · obtain rfl : j = 16 := by omega
      go_wp2_with fail
      go_ret
      exact ⟨A, c, by first | rfl | simp, HR.out, HB.out, HF.out⟩
end
end Go.Proofs.Ythbbiobffoihaaa
