import Derived.Test.YtphikmdgdbdaiaaTick
/- slices.Clone, Delete of the first, IndexFunc, DeleteFunc; steal. -/
namespace Go.Proofs.Ytphikmdgdbdaiaa
open Go.RowKit Go.BigFrame
set_option linter.unusedVariables false
set_option linter.unusedSimpArgs false
attribute [local go_sem] szIs_lit row_at row_past row_alloc nf_alloc row_set nf_set row_cell nf_cell row_drew nf_drew row_drewN nf_drewN cell_setRow frozen_setRow nlt1 nlt2 nlt3 nlt4 nne1 nne2 nne3 nen1 nen2 nen3
theorem zero3v (w : World) : (zeroValue 3).run Try.prog w = .ok (.int .i64 0) w := by kernel_rfl
theorem bs31e (w : World) : (Instr.buildSlice 31 0 #[]).run Try.prog w = .ok (.slice (some ⟨w.heap.size, 0, none⟩) 0 0) (w.alloc (.cells #[] 3)) := by
  simp [go_sem]
theorem eql31_none (w : World) : (binOp .eql 31 (.slice none 0 0) (.slice none 0 0)).run Try.prog w = .ok (.bool true) w := by kernel_rfl
theorem eql31_some (a : Addr) (n c : Nat) (w : World) : (binOp .eql 31 (.slice (some a) n c) (.slice none 0 0)).run Try.prog w = .ok (.bool false) w := by kernel_rfl
set_option maxHeartbeats 1000000 in
theorem clone_ok (w : World) (A : Option Addr) (c : Nat) (l : List Int) (h : Rw w 3 1 A l.length c (iv l)) (hl : l.length ≤ 1000) : Calls Try.prog 27 #[.slice A l.length c] w fun e w' => ∃ A' c', e = .returned (.slice A' l.length c') ∧ Rw w' 3 1 A' l.length c' (iv l) ∧ Below w.heap.size w w' ∧ (∀ k, blkOf A' = some k → w.heap.size ≤ k) := by
  rcases h.addr with ⟨rfl, h0, rfl⟩ | ⟨b, rfl⟩
  · rw [h0] at h ⊢
    have hq := eql31_none
    obtain rfl : l = [] := by cases l; rfl; simp at h0
    clear h h0
    go_enter Try.func27, Try.ntmps27
    go_wp2
    go_ret
    exact ⟨none, 0, by first | rfl | simp, Rw.nil _ _ _, ⟨rfl, rfl, rfl, Nat.le_refl _, fun _ _ => rfl⟩, by simp [blkOf]⟩
  · have hq := fun w => eql31_some ⟨b, 0, none⟩ l.length c w
    have hm := h.le
    have HH := Lib.hid h
    have hB1 : Below w.heap.size w (w.alloc (.cells #[] 3)) := (Below.refl _ _).alloc (Nat.le_refl _) _
    obtain ⟨A2, c2, w2, e1, e2, e3, e4⟩ := rw_append (P := Try.prog) intT 31 (Rw.fresh w 3 #[] 0 0 (Nat.le_refl _) (by unfold maxLen; omega) rfl) (some ⟨b, 0, none⟩) l.length c (iv l) (by rw [iv_len]; omega) ((h.below hB1).rd (iv_one l)) (by intro e; cases e) (by unfold maxLen; omega) (by omega)
    simp only [Nat.zero_add] at e1 e2
    have hbs := bs31e w
    have HE1 := Lib.hid e1
    have HE := Lib.hid (And.intro e2 (And.intro e3 e4))
    have HB := Lib.hid hB1
    clear h e1 e2 e3 e4 hm hB1
    go_enter Try.func27, Try.ntmps27
    go_wp2_with (at_builtin; (refine wpList_run rfl (s := Builtin.append_ #[31, 31] 31 #[.slice (some ⟨w.heap.size, 0, none⟩) 0 0, .slice (some ⟨b, 0, none⟩) l.length c]) (by kernel_rfl) HE1.out ?_))
    go_ret
    refine ⟨A2, c2, by first | rfl | simp, by simpa using HE.out.1, HB.out.trans ((HE.out.2.1.below (B := w.heap.size) (fun k hk q => ?_) HB.out.size)), fun k q => ?_⟩
    · simp [blkOf] at q; omega
    · rcases HE.out.2.2 with e | e
      · rw [e] at q; simp [blkOf] at q; omega
      · rw [e] at q; injection q with q; have := HB.out.size; omega
theorem cut31_0 (b n c : Nat) (hc : c ≤ maxLen) (w : World) : (Instr.slice 31 (.slice (some ⟨b, 0, none⟩) n c) none (some (.int .i64 0)) none).run Try.prog w = .ok (.slice (some ⟨b, 0, none⟩) 0 c) w := by
  have := cut_h (P := Try.prog) intT (some ⟨b, 0, none⟩) n c 0 (Nat.zero_le _) hc w
  simpa using this
theorem cut31_1 (b n c : Nat) (hn : 1 ≤ n) (hnc : n ≤ c) (hc : c ≤ maxLen) : ∃ A', (∀ w : World, (Instr.slice 31 (.slice (some ⟨b, 0, none⟩) n c) (some (.int .i64 1)) none none).run Try.prog w = .ok (.slice A' (n - 1) (c - 1)) w) ∧ (0 < c - 1 → A' = some ⟨b, 1, none⟩) ∧ A'.isSome = true := by
  have := cut_l (P := Try.prog) intT b n c 1 hn hnc hc
  simpa using this
set_option maxHeartbeats 2000000 in
theorem del1_ok (w : World) (b c : Nat) (x : Int) (r : List Int) (h : Rw w 3 1 (some ⟨b, 0, none⟩) (r.length + 1) c (iv (x :: r))) (hl : r.length ≤ 1000) : Calls Try.prog 25 #[.slice (some ⟨b, 0, none⟩) (r.length + 1) c, .int .i64 0, .int .i64 1] w fun e w' => e = .returned (.slice (some ⟨b, 0, none⟩) r.length c) ∧ Rw w' 3 1 (some ⟨b, 0, none⟩) r.length c (iv r) ∧ Ch (· = b) w w' := by
  have hm := h.le
  have hm2 : c ≤ 9223372036854775807 := by have := hm.2; unfold maxLen at this; omega
  have q0 := cut31_0 b (r.length + 1) c hm.2
  obtain ⟨A1, q1, qa, qs⟩ := cut31_1 b (r.length + 1) c (by omega) hm.1 hm.2
  obtain ⟨ad, rfl⟩ := Option.isSome_iff_exists.1 qs
  simp only [Nat.add_sub_cancel] at q1
  obtain ⟨w1, e1, e2, e3⟩ := rw_fits (P := Try.prog) intT 31 (h.drew.take 0 (Nat.zero_le _)) ad r.length (c - 1) (iv r) (by rw [iv_len]; omega) (fun j u hu => by
    have hj := (List.getElem?_eq_some_iff.1 hu).1
    rw [iv_len] at hj
    have := qa (by omega)
    injection this with this
    subst this
    rw [add_plain]
    have h1 := h.drew.cell (1 + j) (by omega)
    rw [h1, Nat.add_comm 1 j, ← hu]; rfl) (iv_one r) (by omega)
  simp only [Nat.zero_add, Nat.zero_mul, List.take_zero, List.nil_append] at e1 e2
  obtain ⟨A2, q2, qb, _⟩ := cut_lh (P := Try.prog) intT b r.length c r.length (r.length + 1) (by omega) (by omega) hm.2
  have q2' : ∀ w : World, (Instr.slice 31 (.slice (some ⟨b, 0, none⟩) r.length c) (some (.int .i64 (r.length : Int))) (some (.int .i64 ((r.length : Int) + 1))) none).run Try.prog w = .ok (.slice A2 1 (c - r.length)) w := fun w => by
    have := q2 w
    rwa [show r.length + 1 - r.length = 1 by omega] at this
  obtain ⟨w2, f1, f2, f3, _⟩ := rw_clear (P := Try.prog) intT 0 e2 (k := 1) (c' := c - r.length) (by omega) zero3v A2 (fun _ => by rw [qb (by omega), Nat.mul_one])
  have HE1 := Lib.hid e1
  have HF1 := Lib.hid f1
  have HF := Lib.hid (And.intro f2 (e3.trans f3 (fun k _ q => q)))
  have hrc : r.length + 1 ≤ c := hm.1
  clear h e1 e2 e3 f1 f2 f3 qa qb q2 hm qs
  go_enter Try.func25, Try.ntmps25
  go_wp2_with fail
  haveI i1 := k1K_ne w.drew w1 6
  haveI i2 := k1K_ne0 w.drew w1 6
  refine wp_segs [(6, [], [6])] ([], []) (k1K w.drew w1 6) ?_ ?_ ?_ ?_ ?_ ?_ ?_ ?_ ?_
  · kernel_rfl
  · kernel_rfl
  · kernel_rfl
  · kernel_rfl
  · kernel_rfl
  · kernel_rfl
  · rfl
  · exact fun jj hj D u hK => k1K_out w.drew w1 6 jj (by simpa using hj) D u hK
  · simp only [Segs, List.take_succ_cons, List.take_zero, List.drop_succ_cons, List.drop_zero, Nat.sub_zero, Nat.reduceSub, Nat.reduceAdd, List.drop_nil, List.take_nil]
    repeat (go_big_quiet_step (fail))
    refine wpQuiet_nil ?_
    refine ⟨.slice (some ⟨b, 0, none⟩) r.length c, stepOK_run (by kernel_rfl) (fun D u hb hb2 hi hK => k1K_1 hi hK (run_box_any (s := Builtin.append_ #[31, 31] 31 #[.slice (some ⟨b, 0, none⟩) 0 c, .slice (some ad) r.length (c - 1)]) (by kernel_rfl) HE1.out)), ?_⟩
    (try go_frame)
    repeat (go_big_quiet_step (fail))
    refine wpQuiet_nil ?_
    intro u hK
    obtain rfl := k1K_end (D := _) (by decide) hK
    have hcl := HF1.out
    go_wp2_with fail
    go_ret
    exact ⟨by first | rfl | simp, HF.out.1, HF.out.2.undrew⟩
end Go.Proofs.Ytphikmdgdbdaiaa
