import Derived.Test.YtphikmdgdbdaiaaLook
/- New; Put. -/
namespace Go.Proofs.Ytphikmdgdbdaiaa
open Go.RowKit Go.BigFrame
set_option linter.unusedVariables false
set_option linter.unusedSimpArgs false
attribute [local go_sem] szIs_lit row_at row_past row_alloc nf_alloc row_set nf_set row_cell nf_cell row_drew nf_drew row_drewN nf_drewN cell_setRow frozen_setRow nlt1 nlt2 nlt3 nlt4 nne1 nne2 nne3 nen1 nen2 nen3
theorem intT : ElT Try.prog 31 3 1 8 (.int .i64 0) := ⟨by kernel_rfl, by kernel_rfl, rfl, by simp [Value.cells, Value.oneCell'], by decide⟩
theorem bs31 (t : Int) (w : World) : (Instr.buildSlice 31 1 #[(0, .int .i64 t)]).run Try.prog w = .ok (.slice (some ⟨w.heap.size, 0, none⟩) 1 1) (w.alloc (.cells #[.int .i64 t] 3)) := by
  simp [go_sem]
theorem sz31 (w : World) : (sizeOf 31).run Try.prog w = .ok 1 w := by kernel_rfl
theorem sz3 (w : World) : (sizeOf 3).run Try.prog w = .ok 1 w := by kernel_rfl
theorem iv_len (l : List Int) : (iv l).length = l.length := by simp [iv]
theorem iv_app (l m : List Int) : iv l ++ iv m = iv (l ++ m) := by simp [iv]
theorem iv_one (l : List Int) : ∀ u ∈ iv l, u.oneCell' = true := fun u hu => by
  obtain ⟨x, _, rfl⟩ := List.mem_map.1 hu; rfl
/-- One number behind a hart's queue: what the append and the store do. -/
theorem push_ok {w : World} {a : QA} {S : QS} (H : QR w a S) {i : Nat} (hi : i < 8) (t : Int) (hlen : (S.Q i).length ≤ 1000) :
    ∃ A2 c2 w2, (Builtin.append_ #[31, 31] 31 #[.slice (a.A i) (S.Q i).length (a.c i), .slice (some ⟨w.heap.size, 0, none⟩) 1 1]).run Try.prog (w.alloc (.cells #[.int .i64 t] 3)) = .ok (.slice A2 ((S.Q i).length + 1) c2) w2 ∧
      (Instr.storeAt 31 (.pointer (some ⟨a.g, 1 + i * 2 + 1, none⟩)) (.slice A2 ((S.Q i).length + 1) c2)).run Try.prog w2 = .ok () (w2.setCell ⟨a.g, 1 + i * 2 + 1, none⟩ (.slice A2 ((S.Q i).length + 1) c2)) ∧
      QR (w2.setCell ⟨a.g, 1 + i * 2 + 1, none⟩ (.slice A2 ((S.Q i).length + 1) c2)) (a.setA i A2 c2) (S.setQ i (S.Q i ++ [t])) ∧ Ch a.foot w (w2.setCell ⟨a.g, 1 + i * 2 + 1, none⟩ (.slice A2 ((S.Q i).length + 1) c2)) ∧
      (blkOf A2 = blkOf (a.A i) ∨ ∃ k, blkOf A2 = some k ∧ w.heap.size ≤ k) ∧ Ch (fun k => blkOf (a.A i) = some k) (w.alloc (.cells #[.int .i64 t] 3)) w2 := by
  have H1 := H.alloc (.cells #[.int .i64 t] 3)
  obtain ⟨A2, c2, w2, e1, e2, e3, e4⟩ := rw_append (P := Try.prog) intT 31 (H1.row i hi) (some ⟨w.heap.size, 0, none⟩) 1 1 (iv [t]) rfl
    (Rd.of_cells (fun j u hu => by
      have hj : j = 0 := by have := (List.getElem?_eq_some_iff.1 hu).1; simp [iv] at this; omega
      subst hj
      rw [← hu]
      simp [cell_of_row _ _ _ _ _ _ (heap_alloc_new w _), iv]) (iv_one _)) (by simp) (by unfold maxLen; omega) (by omega)
  have hA : blkOf A2 = blkOf (a.A i) ∨ ∃ k, blkOf A2 = some k ∧ (w.alloc (.cells #[.int .i64 t] 3)).heap.size ≤ k := by
    rcases e4 with e | e
    · exact .inl e
    · exact .inr ⟨_, e, Nat.le_refl _⟩
  have hl : (S.Q i ++ [t]).length = (S.Q i).length + 1 := by simp
  rw [iv_app] at e2
  have hp := H1.putQ hi (l := S.Q i ++ [t]) (A := A2) (c := c2) (w' := w2) (by rw [hl]; exact e2) e3 hA
  rw [hl] at hp
  have hg : ¬ (fun k => blkOf (a.A i) = some k) a.g := (H.ag i hi).1
  have hB := (H1.blk.ch e3 hg).all
  refine ⟨A2, c2, w2, e1, ?_, hp.1, ((Ch.refl a.foot w).alloc _).trans hp.2 (fun k _ q => q), ?_, e3⟩
  · exact store_cell 31 _ _ _ w2 (sz31 w2) rfl ((hB.2.2.1 _).trans (qcells_Q a S hi)) (hB.2.2.2 _)
  · rcases hA with e | ⟨k, e, hk⟩
    · exact .inl e
    · exact .inr ⟨k, e, by simp at hk; omega⟩
theorem put_nil (h t : Int) (w : World) : Calls Try.prog 11 #[.pointer none, .int .i64 h, .int .i64 t] w fun e w' => e = .returned (.int .i64 6) ∧ w = w' := by
  go_enter Try.func11, Try.ntmps11
  go_wp2
  go_ret
  exact ⟨by first | rfl | simp, rfl⟩
section
variable {w : World} {a : QA} {S : QS}
theorem put_arg (H : QR w a S) (h t : Int) (hh : ¬ (0 ≤ h ∧ h < S.n)) : Calls Try.prog 11 #[.pointer (some ⟨a.g, 0, none⟩), .int .i64 h, .int .i64 t] w fun e w' => e = .returned (.int .i64 1) ∧ w = w' := by
  have HI := Lib.hid (is_no H h hh)
  clear H hh
  go_enter Try.func11, Try.ntmps11
  go_wp2_with fail
  refine HI.out.mono ?_
  rintro e w' ⟨rfl, rfl⟩
  go_wp2
  go_ret
  exact ⟨by first | rfl | simp, rfl⟩
theorem put_low (H : QR w a S) (h : Nat) (hh : h < S.n) (t : Int) (ht : t < 1) : Calls Try.prog 11 #[.pointer (some ⟨a.g, 0, none⟩), .int .i64 (h : Int), .int .i64 t] w fun e w' => e = .returned (.int .i64 1) ∧ w = w' := by
  have HI := Lib.hid (is_yes H h hh)
  clear H hh
  go_enter Try.func11, Try.ntmps11
  go_wp2_with fail
  refine HI.out.mono ?_
  rintro e w' ⟨rfl, rfl⟩
  go_wp2
  go_ret
  exact ⟨by first | rfl | simp, rfl⟩
theorem put_busy (H : QR w a S) (h : Nat) (hh : h < S.n) (t : Int) (ht : ¬ t < 1) (v : Value) (hv : S.M.get t = some v) : Calls Try.prog 11 #[.pointer (some ⟨a.g, 0, none⟩), .int .i64 (h : Int), .int .i64 t] w fun e w' => e = .returned (.int .i64 5) ∧ w = w' := by
  have HI := Lib.hid (is_yes H h hh)
  have c17 := H.cells.2.1
  have hlk := imap_lookup (P := Try.prog) H.map ty48 ty3 (zero3 w) t true
  rw [hv] at hlk
  simp only [if_true, Option.getD_some, Option.isSome_some] at hlk
  clear H hh hv
  go_enter Try.func11, Try.ntmps11
  go_wp2_with fail
  refine HI.out.mono ?_
  rintro e w' ⟨rfl, rfl⟩
  go_wp2
  go_ret
  exact ⟨by first | rfl | simp, rfl⟩
theorem put_full (H : QR w a S) (h : Nat) (hh : h < S.n) (t : Int) (ht : ¬ t < 1) (hv : S.M.get t = none) (hf : 64 ≤ S.M.length) : Calls Try.prog 11 #[.pointer (some ⟨a.g, 0, none⟩), .int .i64 (h : Int), .int .i64 t] w fun e w' => e = .returned (.int .i64 2) ∧ w = w' := by
  have HI := Lib.hid (is_yes H h hh)
  have c17 := H.cells.2.1
  have hlk := imap_lookup (P := Try.prog) H.map ty48 ty3 (zero3 w) t true
  have hlen := fun ty => imap_len H.map ty48 ty
  rw [hv] at hlk
  simp only [if_true, Option.getD_none, Option.isSome_none] at hlk
  clear H hh hv
  go_enter Try.func11, Try.ntmps11
  go_wp2_with fail
  refine HI.out.mono ?_
  rintro e w' ⟨rfl, rfl⟩
  go_wp2
  go_ret
  exact ⟨by first | rfl | simp, rfl⟩
end
/-- The worlds of the region 'xs = append(xs, x)': before, the new element laid, appended, stored. -/
def puK (w0 w1 w2 w3 : World) (i j k : Nat) (D : Nat → Bool) (w : World) : Prop := w = if D k then w3 else if D j then w2 else if D i then w1 else w0
theorem puK_out (w0 w1 w2 w3 : World) (i j k jj : Nat) (hj : ¬ (jj = i ∨ jj = j ∨ jj = k)) (D : Nat → Bool) (u : World) (hK : puK w0 w1 w2 w3 i j k D u) : puK w0 w1 w2 w3 i j k (upd D jj) u := by
  unfold puK at hK ⊢
  unfold upd
  have q1 : (i == jj) = false := by simp; omega
  have q2 : (j == jj) = false := by simp; omega
  have q3 : (k == jj) = false := by simp; omega
  rw [q1, q2, q3, Bool.or_false, Bool.or_false, Bool.or_false]; exact hK
section
variable {w0 w1 w2 w3 u : World} {i j k : Nat} {D : Nat → Bool} {α : Type} {run : World → Result α} {v : α}
theorem puK_1 (hi : D i = false) (hj : D j = false) (hk : D k = false) (hK : puK w0 w1 w2 w3 i j k D u) (q1 : i ≠ j) (q2 : i ≠ k) (hr : run w0 = .ok v w1) : ∃ w', run u = .ok v w' ∧ puK w0 w1 w2 w3 i j k (upd D i) w' := by
  unfold puK at hK
  rw [hi, hj, hk] at hK
  simp only [Bool.false_eq_true, if_false] at hK
  subst hK
  refine ⟨_, hr, ?_⟩
  unfold puK upd
  have e1 : (j == i) = false := by simp; omega
  have e2 : (k == i) = false := by simp; omega
  rw [hj, hk, e1, e2]; simp
theorem puK_2 (hi : D i = true) (hj : D j = false) (hk : D k = false) (hK : puK w0 w1 w2 w3 i j k D u) (q2 : j ≠ k) (hr : run w1 = .ok v w2) : ∃ w', run u = .ok v w' ∧ puK w0 w1 w2 w3 i j k (upd D j) w' := by
  unfold puK at hK
  rw [hi, hj, hk] at hK
  simp only [Bool.false_eq_true, if_false, if_true] at hK
  subst hK
  refine ⟨_, hr, ?_⟩
  unfold puK upd
  have e2 : (k == j) = false := by simp; omega
  rw [hk, e2]; simp
theorem puK_3 (hj : D j = true) (hk : D k = false) (hK : puK w0 w1 w2 w3 i j k D u) (hr : run w2 = .ok v w3) : ∃ w', run u = .ok v w' ∧ puK w0 w1 w2 w3 i j k (upd D k) w' := by
  unfold puK at hK
  rw [hj, hk] at hK
  simp only [Bool.false_eq_true, if_false, if_true] at hK
  subst hK
  refine ⟨_, hr, ?_⟩
  unfold puK upd
  simp
theorem puK_end (hk : D k = true) (hK : puK w0 w1 w2 w3 i j k D u) : u = w3 := by
  unfold puK at hK; rw [hk, if_pos rfl] at hK; exact hK
theorem puK_load {X : World → Prop} (h0 : X w0) (h1 : X w1) (h2 : X w2) (s : Sub (puK w0 w1 w2 w3 i j k) [] [k]) : X s.val := by
  obtain ⟨u, D, hu, _, hq⟩ := s
  have h16 := hq k (by simp)
  unfold puK at hu
  rw [h16, if_neg (by decide)] at hu
  show X u
  rw [hu]
  split
  · exact h2
  · split
    · exact h1
    · exact h0
end
section
variable {w : World} {a : QA} {S : QS}
theorem pu_load (H : QR w a S) {i : Nat} (hi : i < 8) (t : Int) {w2 : World}
    (hc : Ch (fun k => blkOf (a.A i) = some k) (w.drew.alloc (.cells #[.int .i64 t] 3)) w2) (b1 b2 : Bool) :
    (if b1 then w2 else if b2 then w.drew.alloc (.cells #[.int .i64 t] 3) else w.drew).cell? ⟨a.g, 1 + i * 2 + 1, none⟩ = some (.slice (a.A i) (S.Q i).length (a.c i)) := by
  have H1 := H.drew.alloc (.cells #[.int .i64 t] 3)
  cases b1
  · cases b2
    · exact H.drew.queue hi
    · exact H1.queue hi
  · exact ((H1.blk.ch hc (H.ag i hi).1).all.2.2.1 _).trans (qcells_Q a S hi)
theorem pu_loadR (H : QR w a S) {i : Nat} (hi : i < 8) (t : Int) {w2 : World}
    (hc : Ch (fun k => blkOf (a.A i) = some k) (w.drew.alloc (.cells #[.int .i64 t] 3)) w2) (b1 b2 : Bool) :
    (if b1 then w2 else if b2 then w.drew.alloc (.cells #[.int .i64 t] 3) else w.drew).cell? ⟨a.g, 1 + i * 2, none⟩ = some (.int .i64 (S.R i)) := by
  have H1 := H.drew.alloc (.cells #[.int .i64 t] 3)
  cases b1
  · cases b2
    · exact H.drew.runs hi
    · exact H1.runs hi
  · exact ((H1.blk.ch hc (H.ag i hi).1).all.2.2.1 _).trans (qcells_R a S hi)
set_option maxRecDepth 100000 in
set_option maxHeartbeats 4000000 in
theorem put_in (H : QR w a S) (h : Nat) (hh : h < S.n) (t : Int) (ht : ¬ t < 1) (hv : S.M.get t = none) (hf : S.M.length < 64) (hlen : (S.Q h).length ≤ 1000) : Calls Try.prog 11 #[.pointer (some ⟨a.g, 0, none⟩), .int .i64 (h : Int), .int .i64 t] w fun e w' => ∃ A2 c2, e = .returned (.int .i64 0) ∧ QR w' (a.setA h A2 c2) ((S.setQ h (S.Q h ++ [t])).setM (S.M.put t (.int .i64 h))) ∧ Ch a.foot w w' ∧ (blkOf A2 = blkOf (a.A h) ∨ ∃ k, blkOf A2 = some k ∧ w.heap.size ≤ k) := by
  have h8 : h < 8 := Nat.lt_of_lt_of_le hh H.n8
  have HI := Lib.hid (is_yes H h hh)
  have c17 := H.cells.2.1
  have cq := H.queue h8
  have hlk := imap_lookup (P := Try.prog) H.map ty48 ty3 (zero3 w) t true
  have hml := fun ty => imap_len H.map ty48 ty
  rw [hv] at hlk
  simp only [if_true, Option.getD_none, Option.isSome_none] at hlk
  obtain ⟨A2, c2, w2, e1, e2, e3, e4, e5, e6⟩ := push_ok H.drew h8 t hlen
  obtain ⟨w4, m1, m2, m3, _⟩ := imap_update (P := Try.prog) e3.map ty48 ty3 t (.int .i64 (h : Int))
  have hfin := e3.putM m2 m3
  have d17 := e3.cells.2.1
  have HF := Lib.hid hfin
  have HE1 := Lib.hid e1
  have HE2 := Lib.hid e2
  have HE4 := Lib.hid (And.intro e4 e5)
  have HM1 := Lib.hid m1
  have HD17 := Lib.hid d17
  have HCQ := Lib.hid (pu_load H h8 t e6)
  have hxl : (S.Q h).length ≤ a.c h ∧ a.c h ≤ maxLen := (H.row h h8).le
  clear e1 e2 e3 e4 e5 e6 m1 m2 m3 hfin d17 H hh hv
  go_enter Try.func11, Try.ntmps11
  go_wp2_with fail
  refine HI.out.mono ?_
  rintro e w' ⟨rfl, rfl⟩
  go_wp2_with fail
  generalize hW3 : w2.setCell ⟨a.g, 1 + h * 2 + 1, none⟩ (.slice A2 ((S.Q h).length + 1) c2) = w3 at *
  have HBS := Lib.hid (bs31 t w.drew)
  generalize hW1 : w.drew.alloc (.cells #[.int .i64 t] 3) = w1 at *
  have HW1 := Lib.hid hW1
  have HW3 := Lib.hid hW3
  clear hW1 hW3
  have hld : ∀ s : Sub (puK w.drew w1 w2 w3 10 11 16) [] [16], s.val.cell? ⟨a.g, 1 + h * 2 + 1, none⟩ = some (.slice (a.A h) (S.Q h).length (a.c h)) :=
    puK_load (X := fun u => u.cell? ⟨a.g, 1 + h * 2 + 1, none⟩ = some (.slice (a.A h) (S.Q h).length (a.c h))) (HCQ.out false false) (HCQ.out false true) (HCQ.out true true)
  have i1 : Nonempty (Sub (puK w.drew w1 w2 w3 10 11 16) [] [16]) := ⟨⟨w.drew, fun _ => false, rfl, by simp, by simp⟩⟩
  refine wp_segs [(10, [], [16]), (11, [], [16]), (16, [], [16])] ([], []) (puK w.drew w1 w2 w3 10 11 16) ?_ ?_ ?_ ?_ ?_ ?_ ?_ ?_ ?_
  · kernel_rfl
  · kernel_rfl
  · kernel_rfl
  · kernel_rfl
  · kernel_rfl
  · kernel_rfl
  · rfl
  · exact fun jj hj D u hK => puK_out w.drew w1 w2 w3 10 11 16 jj (by simpa using hj) D u hK
  · simp only [Segs, List.take_succ_cons, List.take_zero, List.drop_succ_cons, List.drop_zero, Nat.sub_zero, Nat.reduceSub, Nat.reduceAdd, List.drop_nil, List.take_nil]
    repeat (go_big_quiet_step (fail))
    refine wpQuiet_nil ?_
    refine ⟨.slice (some ⟨w.heap.size, 0, none⟩) 1 1, stepOK_run (by kernel_rfl) (fun D u hb hb2 hi hK => puK_1 hi (hb2 11 (by decide) (by kernel_rfl)) (hb2 16 (by decide) (by kernel_rfl)) hK (by decide) (by decide) (run_box_any (s := Instr.buildSlice 31 1 #[(0, .int .i64 t)]) (by kernel_rfl) HBS.out)), ?_⟩
    go_frame
    repeat (go_big_quiet_step (fail))
    refine wpQuiet_nil ?_
    refine ⟨.slice A2 ((S.Q h).length + 1) c2, stepOK_run (by kernel_rfl) (fun D u hb hb2 hi hK => puK_2 (hb 10 (by decide) (by kernel_rfl)) hi (hb2 16 (by decide) (by kernel_rfl)) hK (by decide) (run_box_any (s := Builtin.append_ #[31, 31] 31 #[.slice (a.A h) (S.Q h).length (a.c h), .slice (some ⟨w.heap.size, 0, none⟩) 1 1]) (by kernel_rfl) HE1.out)), ?_⟩
    go_frame
    repeat (go_big_quiet_step (fail))
    refine wpQuiet_nil ?_
    refine ⟨undef, stepOK_skip (by kernel_rfl) (fun D u hb hb2 hi hK => puK_3 (hb 11 (by decide) (by kernel_rfl)) hi hK (run_skip_any (s := Instr.storeAt 31 (.pointer (some ⟨a.g, 1 + h * 2 + 1, none⟩)) (.slice A2 ((S.Q h).length + 1) c2)) (by kernel_rfl) HE2.out)), ?_⟩
    refine wpQuiet_nil ?_
    intro u hK
    obtain rfl := puK_end (D := _) (by decide) hK
    have d17 : u.cell? ⟨a.g, 17, none⟩ = some (.map (some a.m)) := HD17.out
    have hm : (Instr.mapUpdate 48 (.map (some a.m)) (.int .i64 t) (.int .i64 (h : Int))).run Try.prog u = .ok () w4 := HM1.out
    go_wp2
    go_ret
    exact ⟨A2, c2, by first | rfl | simp, HF.out.1, HE4.out.1.undrew.trans HF.out.2 (fun k _ q => (QA.foot_setA h8 HE4.out.2 q).elim id fun q => by simp at q; omega), HE4.out.2⟩
end
end Go.Proofs.Ytphikmdgdbdaiaa
