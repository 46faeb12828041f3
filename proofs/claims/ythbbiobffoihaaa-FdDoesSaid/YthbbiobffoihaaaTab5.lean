import Derived.Test.YthbbiobffoihaaaTab4
/- Fork. -/
namespace Go.Proofs.Ythbbiobffoihaaa
open Go.RowKit Go.BigFrame
set_option linter.unusedVariables false
set_option linter.unusedSimpArgs false
attribute [local go_sem] szIs_lit row_at row_past row_alloc nf_alloc row_set nf_set row_cell nf_cell row_drew nf_drew row_drewN nf_drewN cell_setRow frozen_setRow nlt1 nlt2 nlt3 nlt4 nne1 nne2 nne3 nen1 nen2 nen3
set_option maxRecDepth 20000
/-- One more descriptor names x. -/
def bump (L : PL Fl) (x : Int) : PL Fl := match PL.get L x with | some (_, f) => PL.set L x { f with rf := f.rf + 1 } | none => L
def bumps (L : PL Fl) (D : List Int) : PL Fl := D.foldl bump L
theorem bumps_succ (L : PL Fl) (D : List Int) (j : Nat) (x : Int) (hx : D[j]? = some x) : bumps L (D.take (j + 1)) = bump (bumps L (D.take j)) x := by
  unfold bumps
  rw [List.take_add_one, hx, List.foldl_append]; rfl
theorem bump_bs (L : PL Fl) (x : Int) : PL.bs (bump L x) = PL.bs L := by
  unfold bump; split
  · exact PL.bs_set _ _ _
  · rfl
theorem bumps_bs (D : List Int) : ∀ (L : PL Fl), PL.bs (bumps L D) = PL.bs L := by
  induction D with
  | nil => intro L; rfl
  | cons x D ih => intro L; show PL.bs (bumps (bump L x) D) = _; rw [ih, bump_bs]
theorem bump_rf {L : PL Fl} {B : Int} (h : ∀ x q, PL.get L x = some q → 0 ≤ q.2.rf ∧ q.2.rf ≤ B) (y : Int) : ∀ x q, PL.get (bump L y) x = some q → 0 ≤ q.2.rf ∧ q.2.rf ≤ B + 1 := by
  intro x q hq
  unfold bump at hq
  split at hq
  · rename_i b f hg
    rw [PL.get_set] at hq
    by_cases hx : x = y
    · rw [if_pos hx, hg] at hq
      simp only [Option.map_some, Option.some.injEq] at hq
      subst hq
      have := h y _ hg
      simp only at this ⊢
      omega
    · rw [if_neg hx] at hq
      have := h x q hq; omega
  · have := h x q hq; omega
theorem bumps_rf (D : List Int) : ∀ {L : PL Fl} {B : Int}, (∀ x q, PL.get L x = some q → 0 ≤ q.2.rf ∧ q.2.rf ≤ B) → ∀ x q, PL.get (bumps L D) x = some q → 0 ≤ q.2.rf ∧ q.2.rf ≤ B + D.length := by
  induction D with
  | nil => intro L B h; simpa [bumps] using h
  | cons y D ih =>
    intro L B h x q hq
    have := ih (bump_rf h y) x q hq
    simp only [List.length_cons]
    omega
section
variable {w w' : World} {t g m : Nat} {D : List Int} {L : PL Fl}
theorem bump_all {x : Int} {k : Nat} : FR.all g m (bump L x) k ↔ FR.all g m L k := by unfold FR.all PL.foot; rw [bump_bs]
theorem bumps_all {k : Nat} : FR.all g m (bumps L D) k ↔ FR.all g m L k := by unfold FR.all PL.foot; rw [bumps_bs]
theorem TR.whole (h : TR w t g D) : (Instr.loadAt 62 (.pointer (some ⟨t, 0, none⟩))).run Try.prog w = .ok (.agg (tcells g D)) w :=
  h.blk.load (ty := 62) (d := (Try.prog.underlying 62).getD default) (by kernel_rfl) (by kernel_rfl) (by rw [tcells_size, h.len]; kernel_rfl)
set_option maxHeartbeats 2000000 in
theorem fork_ok (h : TR w t g D) (hF : FR w g m L) (ht : ¬ FR.all g m L t) (hB : ∀ x q, PL.get L x = some q → 0 ≤ q.2.rf ∧ q.2.rf ≤ 4611686018427387904) :
    Calls Try.prog 12 #[.pointer (some ⟨t, 0, none⟩)] w fun e w' => e = .returned (.tuple #[.pointer (some ⟨w.heap.size, 0, none⟩), .int .i64 0]) ∧ TR w' w.heap.size g D ∧ TR w' t g D ∧ FR w' g m (bumps L D) ∧ Ch (PL.foot m L) w w' := by
  have HM := Lib.hid (tmade_ok h)
  have hwh := h.whole
  have htl := h.lt
  have hcsz : (tcells g D).size = 17 := by rw [tcells_size, h.len]
  have hk : Blk (w.alloc (.cells #[.pointer none, .int .i64 0, .int .i64 0, .int .i64 0, .int .i64 0, .int .i64 0, .int .i64 0, .int .i64 0, .int .i64 0, .int .i64 0, .int .i64 0, .int .i64 0, .int .i64 0, .int .i64 0, .int .i64 0, .int .i64 0, .int .i64 0] 62)) w.heap.size #[.pointer none, .int .i64 0, .int .i64 0, .int .i64 0, .int .i64 0, .int .i64 0, .int .i64 0, .int .i64 0, .int .i64 0, .int .i64 0, .int .i64 0, .int .i64 0, .int .i64 0, .int .i64 0, .int .i64 0, .int .i64 0, .int .i64 0] := Blk.of_heap (heap_at rfl)
  have h1 := h.alloc (.cells #[.pointer none, .int .i64 0, .int .i64 0, .int .i64 0, .int .i64 0, .int .i64 0, .int .i64 0, .int .i64 0, .int .i64 0, .int .i64 0, .int .i64 0, .int .i64 0, .int .i64 0, .int .i64 0, .int .i64 0, .int .i64 0, .int .i64 0] 62)
  have hF1 := hF.alloc (.cells #[.pointer none, .int .i64 0, .int .i64 0, .int .i64 0, .int .i64 0, .int .i64 0, .int .i64 0, .int .i64 0, .int .i64 0, .int .i64 0, .int .i64 0, .int .i64 0, .int .i64 0, .int .i64 0, .int .i64 0, .int .i64 0, .int .i64 0] 62)
  have hc1 : Ch (PL.foot m L) w (w.alloc (.cells #[.pointer none, .int .i64 0, .int .i64 0, .int .i64 0, .int .i64 0, .int .i64 0, .int .i64 0, .int .i64 0, .int .i64 0, .int .i64 0, .int .i64 0, .int .i64 0, .int .i64 0, .int .i64 0, .int .i64 0, .int .i64 0, .int .i64 0] 62)) := (Ch.refl _ _).alloc _
  generalize hu : w.alloc (.cells #[.pointer none, .int .i64 0, .int .i64 0, .int .i64 0, .int .i64 0, .int .i64 0, .int .i64 0, .int .i64 0, .int .i64 0, .int .i64 0, .int .i64 0, .int .i64 0, .int .i64 0, .int .i64 0, .int .i64 0, .int .i64 0, .int .i64 0] 62) = u at *
  obtain ⟨u2, s1, s2, s3, s4⟩ := hk.storeAll (P := Try.prog) (ty := 62) (c' := tcells g D) (by rw [hcsz]; kernel_rfl) (by rw [hcsz]; rfl) (by
    intro v hv
    simp only [tcells, List.mem_cons] at hv
    rcases hv with rfl | hv
    · rfl
    · exact iv_one D v hv)
  have hfw : ∀ k, FR.all g m L k → k ≠ w.heap.size := fun k q => hF.all_lt_ne q
  have h2 : TR u2 t g D := h1.ch s3 (by omega)
  have hF2 : FR u2 g m L := hF1.ch s3 hfw
  have hc2 : TR u2 w.heap.size g D := ⟨s2, h.len⟩
  have hC2 : Ch (PL.foot m L) w u2 := hc1.trans s3 (fun k hk q => by omega)
  have hld := h2.arr
  have HD := Lib.hid h.len
  have HT := Lib.hid h2
  have HF := Lib.hid hF2
  have HCt := Lib.hid hc2
  have HC := Lib.hid hC2
  have HW := Lib.hid (And.intro ht (And.intro hfw htl))
  have HBd := Lib.hid hB
  clear h hF h1 hF1 hc1 h2 hF2 hc2 hC2 s2 s3 s4 hk ht hfw htl hB
  go_enter Try.func12, Try.ntmps12
  go_wp2_with fail
  refine HM.out.mono ?_
  rintro r w' ⟨rfl, rfl⟩
  have ct := HT.out.c0
  go_wp2_with (first | (refine wpList_load_run rfl 62 (.tmp 12) rfl (.pointer (some ⟨t, 0, none⟩)) rfl hwh ?_) | (rw [hu]) | (refine wpList_runU rfl (s := Instr.storeAt 62 (.pointer (some ⟨w.heap.size, 0, none⟩)) (.agg (tcells g D))) (by kernel_rfl) s1 ?_) | (refine wpList_load_run rfl 60 (.tmp 16) rfl (.pointer (some ⟨t, 1, none⟩)) rfl hld ?_) | fail)
  clear hu s1 hwh
  go_loopg [18] 16 (fun k i_ wr => ∃ j : Nat, i_ = .int .i64 (j : Int) ∧ k = 16 - j ∧ j ≤ 16 ∧ TR wr t g D ∧ TR wr w.heap.size g D ∧ FR wr g m (bumps L (D.take j)) ∧ Ch (PL.foot m L) w wr)
  case atStart => exact ⟨0, rfl, rfl, by omega, HT.out, HCt.out, HF.out, HC.out⟩
  case round =>
    obtain ⟨j, rfl, hk, hj, hT3, hC3, hF3, hCh3⟩ := hrel
    have HK := Lib.hid (And.intro hT3 (And.intro hC3 (And.intro hF3 hCh3)))
    have HKK := Lib.hid hk
    clear hk
    by_cases hlt : j < 16
    · obtain ⟨x, hx⟩ : ∃ x, D[j]? = some x := ⟨_, List.getElem?_eq_getElem (by rw [HD.out]; exact hlt)⟩
      have hix := arr_ix HD.out hx
      have HX := Lib.hid hx
      have hw : IntKind.i64.wrap ((j : Int) + 1) = (j : Int) + 1 := IntWalk.i64_in _ (by omega)
      have c0 := hT3.c0
      have c1 := hF3.c0
      cases hg : PL.get (bumps L (D.take j)) x with
      | none =>
        have hlk := hF3.look_no hg
        have HG := Lib.hid hg
        clear hx hT3 hC3 hF3 hCh3 hg
        go_wp2_with fail
        go_roundg (16 - (j + 1))
        case measure => have := HKK.out; omega
        case rel =>
          have e : bumps L (D.take (j + 1)) = bumps L (D.take j) := by
            rw [bumps_succ L D j x HX.out]; unfold bump; rw [HG.out]
          exact ⟨j + 1, by first | rfl | go_num, rfl, by omega, HK.out.1, HK.out.2.1, by rw [e]; exact HK.out.2.2.1, HK.out.2.2.2⟩
      | some q =>
        obtain ⟨b, f⟩ := q
        obtain ⟨kd, wh, at_, fg, rf⟩ := f
        have hlk := hF3.look_yes hg
        obtain ⟨d0, d1, d2, d3, d4, d5, d6, d7⟩ := hF3.cells hg
        simp only at d4
        have hrf := bumps_rf (D.take j) HBd.out x _ hg
        simp only [List.length_take] at hrf
        have hr0 : 0 ≤ rf := hrf.1
        have hr1 : rf ≤ 4611686018427387904 + 16 := by have := hrf.2; omega
        have hw2 : IntKind.i64.wrap (rf + 1) = rf + 1 := IntWalk.i64_in _ (by omega)
        have HG := Lib.hid hg
        clear hx hT3 hC3 hF3 hCh3 hg hrf
        go_wp2_with fail
        go_roundg (16 - (j + 1))
        case measure => have := HKK.out; omega
        case rel =>
          have e : bumps L (D.take (j + 1)) = PL.set (bumps L (D.take j)) x ⟨kd, wh, at_, fg, rf + 1⟩ := by
            rw [bumps_succ L D j x HX.out]; unfold bump; rw [HG.out]
          have hbm : b ∈ PL.bs L := by have := PL.get_bs HG.out; rwa [bumps_bs] at this
          have hbt : t ≠ b := fun e => HW.out.1 (.inr (.inr (by rw [e]; exact hbm)))
          have hbw : w.heap.size ≠ b := fun e => HW.out.2.1 b (.inr (.inr hbm)) e.symm
          refine ⟨j + 1, by first | rfl | go_num, rfl, by omega, HK.out.1.same (heap_setCell_other wr ⟨b, 4, none⟩ t (.int .i64 (rf + 1)) hbt), HK.out.2.1.same (heap_setCell_other wr ⟨b, 4, none⟩ w.heap.size (.int .i64 (rf + 1)) hbw), ?_, ?_⟩
          · rw [e]; exact HK.out.2.2.1.set (i := 4) (v := .int .i64 (rf + 1)) (f' := ⟨kd, wh, at_, fg, rf + 1⟩) HG.out rfl
          · exact HK.out.2.2.2.cell ⟨b, 4, none⟩ (.int .i64 (rf + 1)) fun _ => .inr hbm
    · obtain rfl : j = 16 := by omega
      clear hT3 hC3 hF3 hCh3
      go_wp2_with fail
      go_ret2
      have e : D.take 16 = D := List.take_of_length_le (by rw [HD.out]; omega)
      have hF4 := HK.out.2.2.1
      rw [e] at hF4
      exact ⟨by first | rfl | simp, HK.out.2.1, HK.out.1, hF4, HK.out.2.2.2⟩
end
end Go.Proofs.Ythbbiobffoihaaa
