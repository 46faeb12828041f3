import Derived.Test.YthbbiobffoihaaaTab2
/- Install, Dup, Close. -/
namespace Go.Proofs.Ythbbiobffoihaaa
open Go.RowKit Go.BigFrame
set_option linter.unusedVariables false
set_option linter.unusedSimpArgs false
attribute [local go_sem] szIs_lit row_at row_past row_alloc nf_alloc row_set nf_set row_cell nf_cell row_drew nf_drew row_drewN nf_drewN cell_setRow frozen_setRow nlt1 nlt2 nlt3 nlt4 nne1 nne2 nne3 nen1 nen2 nen3
set_option maxRecDepth 20000
section
variable {w w' : World} {t g m : Nat} {D : List Int} {L : PL Fl}
theorem inst_no (h : TR w t g D) (hF : FR w g m L) {x : Int} (hg : PL.get L x = none) : Calls Try.prog 9 #[.pointer (some ⟨t, 0, none⟩), .int .i64 x] w fun e w' => e = .returned (.tuple #[.int .i64 0, .int .i64 221]) ∧ w = w' := by
  have HM := Lib.hid (tmade_ok h)
  have HF := Lib.hid (find_no hF hg)
  have c0 := h.c0
  clear h hF hg
  go_enter Try.func9, Try.ntmps9
  go_wp2_with fail
  refine HM.out.mono ?_
  rintro e w' ⟨rfl, rfl⟩
  go_wp2_with fail
  refine HF.out.mono ?_
  rintro e w' ⟨rfl, rfl⟩
  go_wp2_with fail
  go_ret2
  exact ⟨by first | rfl | simp, rfl⟩
theorem inst_full (h : TR w t g D) (hF : FR w g m L) {x : Int} {b : Nat} {f : Fl} (hg : PL.get L x = some (b, f)) (hn : D.findIdx? (fun x => x == -1) = none) : Calls Try.prog 9 #[.pointer (some ⟨t, 0, none⟩), .int .i64 x] w fun e w' => e = .returned (.tuple #[.int .i64 0, .int .i64 2]) ∧ w = w' := by
  have HM := Lib.hid (tmade_ok h)
  have HF := Lib.hid (find_yes hF hg)
  have c0 := h.c0
  have hi := index_ok w t 1 16 16 D (-1) h.len (by omega) (fun j x hj => h.at hj)
  have hfi : fidx D (-1) = -1 := by unfold fidx; rw [hn]
  rw [hfi] at hi
  have HI := Lib.hid hi
  clear h hF hg hi hn hfi
  go_enter Try.func9, Try.ntmps9
  go_wp2_with fail
  refine HM.out.mono ?_
  rintro e w' ⟨rfl, rfl⟩
  go_wp2_with fail
  refine HF.out.mono ?_
  rintro e w' ⟨rfl, rfl⟩
  go_wp2_with fail
  refine HI.out.mono ?_
  rintro e w' ⟨rfl, rfl⟩
  go_wp2_with fail
  go_ret2
  exact ⟨by first | rfl | simp, rfl⟩
theorem inst_ok (h : TR w t g D) (hF : FR w g m L) {x : Int} {b : Nat} {f : Fl} (hg : PL.get L x = some (b, f)) {j : Nat} (hn : D.findIdx? (fun x => x == -1) = some j) : Calls Try.prog 9 #[.pointer (some ⟨t, 0, none⟩), .int .i64 x] w fun e w' => e = .returned (.tuple #[.int .i64 (j : Int), .int .i64 0]) ∧ TR w' t g (D.set j x) ∧ Ch (· = t) w w' := by
  have HM := Lib.hid (tmade_ok h)
  have HF := Lib.hid (find_yes hF hg)
  have c0 := h.c0
  have hi := index_ok w t 1 16 16 D (-1) h.len (by omega) (fun j x hj => h.at hj)
  have hfi : fidx D (-1) = (j : Int) := by unfold fidx; rw [hn]
  rw [hfi] at hi
  have HI := Lib.hid hi
  obtain ⟨hj, hj1, _⟩ := List.findIdx?_eq_some_iff_getElem.1 hn
  have hx : D[j]? = some (-1) := by rw [List.getElem?_eq_getElem hj]; simpa using hj1
  rw [h.len] at hj
  have hc := h.at hx
  have hfz := h.frz
  have HP := Lib.hid (And.intro (h.put j x) ((Ch.refl (· = t) w).cell ⟨t, 1 + j, none⟩ (.int .i64 x) (fun _ => rfl)))
  have hneg : decide ((j : Int) < 0) = false := by simp
  clear h hF hg hi hn hfi hj1 hx
  go_enter Try.func9, Try.ntmps9
  go_wp2_with fail
  refine HM.out.mono ?_
  rintro e w' ⟨rfl, rfl⟩
  go_wp2_with fail
  refine HF.out.mono ?_
  rintro e w' ⟨rfl, rfl⟩
  go_wp2_with fail
  refine HI.out.mono ?_
  rintro e w' ⟨rfl, rfl⟩
  go_wp2_with fail
  go_ret2
  exact ⟨by first | rfl | simp, HP.out⟩
/-! Dup -/
theorem dup_get (f : Int) (hget : Calls Try.prog 13 #[.pointer (some ⟨t, 0, none⟩), .int .i64 f] w fun e w' => e = .returned (.tuple #[.int .i64 0, .int .i64 220]) ∧ w = w') : Calls Try.prog 10 #[.pointer (some ⟨t, 0, none⟩), .int .i64 f] w fun e w' => e = .returned (.tuple #[.int .i64 0, .int .i64 220]) ∧ w = w' := by
  have HM := Lib.hid hget
  clear hget
  go_enter Try.func10, Try.ntmps10
  go_wp2_with fail
  refine HM.out.mono ?_
  rintro e w' ⟨rfl, rfl⟩
  go_wp2_with fail
  go_ret2
  exact ⟨by first | rfl | simp, rfl⟩
theorem dup_fail (f : Int) (x r : Int) (hr : (r != 0) = true) (hget : Calls Try.prog 13 #[.pointer (some ⟨t, 0, none⟩), .int .i64 f] w fun e w' => e = .returned (.tuple #[.int .i64 x, .int .i64 0]) ∧ w = w')
    (hin : Calls Try.prog 9 #[.pointer (some ⟨t, 0, none⟩), .int .i64 x] w fun e w' => e = .returned (.tuple #[.int .i64 0, .int .i64 r]) ∧ w = w') : Calls Try.prog 10 #[.pointer (some ⟨t, 0, none⟩), .int .i64 f] w fun e w' => e = .returned (.tuple #[.int .i64 0, .int .i64 r]) ∧ w = w' := by
  have HM := Lib.hid hget
  have HI := Lib.hid hin
  have hr2 : (r == 0) = false := by simpa using hr
  clear hget hin
  go_enter Try.func10, Try.ntmps10
  go_wp2_with fail
  refine HM.out.mono ?_
  rintro e w' ⟨rfl, rfl⟩
  go_wp2_with fail
  refine HI.out.mono ?_
  rintro e w' ⟨rfl, rfl⟩
  go_wp2_with fail
  go_ret2
  exact ⟨by first | rfl | simp, rfl⟩
theorem dup_ok (h : TR w t g D) (hF : FR w g m L) (ht : ¬ FR.all g m L t) {i : Nat} {x : Int} (hx : D[i]? = some x) (hx1 : x ≠ -1) {b : Nat} (kd wh at_ fg rf : Int) (hg : PL.get L x = some (b, ⟨kd, wh, at_, fg, rf⟩)) (hr0 : 0 ≤ rf) (hr : rf ≤ 9223372036854775806) {j : Nat} (hn : D.findIdx? (fun x => x == -1) = some j) :
    Calls Try.prog 10 #[.pointer (some ⟨t, 0, none⟩), .int .i64 (i : Int)] w fun e w' => e = .returned (.tuple #[.int .i64 (j : Int), .int .i64 0]) ∧ TR w' t g (D.set j x) ∧ FR w' g m (PL.set L x ⟨kd, wh, at_, fg, rf + 1⟩) ∧ Ch (fun k => k = t ∨ PL.foot m L k) w w' := by
  have HM := Lib.hid (tget_ok h i x hx hx1)
  have HI := Lib.hid (inst_ok h hF hg hn)
  have HF := Lib.hid hF
  have HG := Lib.hid hg
  have HT := Lib.hid ht
  have hw : IntKind.i64.wrap (rf + 1) = rf + 1 := IntWalk.i64_in _ (by omega)
  clear h hF hg hn ht hx
  go_enter Try.func10, Try.ntmps10
  go_wp2_with fail
  refine HM.out.mono ?_
  rintro e w' ⟨rfl, rfl⟩
  go_wp2_with fail
  refine HI.out.mono ?_
  rintro e w2 ⟨rfl, hT2, hC2⟩
  have hF2 : FR w2 g m L := HF.out.ch hC2 (fun k q e => HT.out (e ▸ q))
  have c0 := hT2.c0
  have c1 := hF2.c0
  have hl := hF2.look_yes HG.out
  obtain ⟨d0, d1, d2, d3, d4, d5, d6, d7⟩ := hF2.cells HG.out
  simp only at d4
  have htb : t ≠ b := fun e => HT.out (.inr (.inr (by rw [e]; exact PL.get_bs HG.out)))
  have HE := Lib.hid (And.intro (hT2.same (heap_setCell_other w2 ⟨b, 4, none⟩ t (.int .i64 (rf + 1)) htb)) (And.intro (hF2.set (i := 4) (v := .int .i64 (rf + 1)) (f' := ⟨kd, wh, at_, fg, rf + 1⟩) HG.out rfl) ((Ch.mono hC2 (F2 := fun k => k = t ∨ PL.foot m L k) fun k _ q => .inl q).cell ⟨b, 4, none⟩ (.int .i64 (rf + 1)) fun _ => .inr (.inr (PL.get_bs HG.out)))))
  clear hT2 hF2 hC2
  go_wp2_with fail
  go_ret2
  exact ⟨by first | rfl | simp, HE.out⟩
end
end Go.Proofs.Ythbbiobffoihaaa
