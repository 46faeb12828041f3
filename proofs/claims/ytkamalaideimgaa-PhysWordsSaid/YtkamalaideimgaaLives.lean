import Derived.Test.YtkamalaideimgaaCas
/- What must come of every program of chapter 1. -/
namespace Go.Proofs.Ytkamalaideimgaa
open Go.RowKit
set_option linter.unusedVariables false
attribute [local go_sem] szIs_lit row_at row_past row_alloc nf_alloc row_set nf_set row_cell nf_cell row_drew nf_drew row_drewN nf_drewN cell_setRow frozen_setRow nlt1 nlt2 nlt3 nlt4 nne1 nne2 nne3 nen1 nen2 nen3

set_option maxHeartbeats 1000000 in
theorem lives_true (w : World) : Calls Try.prog 6 #[] w fun e w' => e = .returned (.bool true) ∧ Below w.heap.size w w' := by
  have v4 : st32 (fun _ => 0) 4 258 4 4 = 2 := by decide
  have v5 : st32 (fun _ => 0) 4 258 4 5 = 1 := by decide
  have B1 := st32_byte (fun _ => 0) 4 258 4 (bytes_zero 0)
  have L1 := le32_st (fun _ => 0) 4 258 (by decide) (by decide)
  have B2 := st32_byte (st32 (fun _ => 0) 4 258 4) 4 7 4 B1
  have L2 := le32_st (st32 (fun _ => 0) 4 258 4) 4 7 (by decide) (by decide)
  have HN := Lib.hid (new_ok 2 (by decide) (by decide))
  generalize hM1 : st32 (fun _ => 0) 4 258 4 = M1 at *
  generalize hM2 : st32 M1 4 7 4 = M2 at *
  have HS := Lib.hid (fun g b w hg hb => store32_ok g b 512 4 (fun _ => 0) 258 w hg hb (by decide) (by decide) (by decide) (by decide) (by decide))
  rw [hM1] at HS
  have H4 := Lib.hid (fun g b w hg hb => load8_ok g b 512 4 M1 w hg hb (by decide) (by decide))
  have H5 := Lib.hid (fun g b w hg hb => load8_ok g b 512 5 M1 w hg hb (by decide) (by decide))
  rw [v4] at H4
  rw [v5] at H5
  have HC := Lib.hid (fun g b w hg hb h1 h2 => cas_eq g b 512 4 M1 258 7 w hg hb (by decide) B1 (by decide) (by decide) (by decide) (by decide) L1 h1 h2)
  rw [hM2] at HC
  have HD := Lib.hid (fun g b w hg hb => cas_ne g b 512 4 M2 258 8 w hg hb (by decide) B2 (by decide) (by decide) (by rw [L2]; decide))
  rw [L2] at HD
  have HF := Lib.hid (fun g b w hg hb => frames_ok g b 512 M2 w hg hb (by decide))
  clear v4 v5 B1 L1 B2 L2 hM1 hM2
  go_enter Try.func6, Try.ntmps6
  go_wp2_with fail
  refine (HN.out _).mono ?_; rintro e w1 ⟨g, b, rfl, hg, hb, lg, lb, hne, bel⟩
  have hg1 := Lib.hid hg
  have hb1 := Lib.hid hb
  have Hbel := Lib.hid bel
  clear hg hb bel
  go_wp2_with fail
  refine (HS.out _ _ _ hg1.out hb1.out).mono ?_; rintro e w2 ⟨rfl, hb, ho⟩
  have hb2 := Lib.hid hb
  have hg2 := Lib.hid (hg1.out.only ho hg1.out.lt hne)
  have ho2 := Lib.hid ho
  clear hb ho
  go_wp2_with fail
  refine (H4.out _ _ _ hg2.out hb2.out).mono ?_; rintro e w' ⟨rfl, rfl⟩
  go_wp2_with fail
  refine (H5.out _ _ _ hg2.out hb2.out).mono ?_; rintro e w' ⟨rfl, rfl⟩
  go_wp2_with fail
  refine (HC.out _ _ _ hg2.out hb2.out hg2.out.lt hne).mono ?_; rintro e w3 ⟨rfl, hb, ho⟩
  have hb3 := Lib.hid hb
  have hg3 := Lib.hid (hg2.out.only ho hg2.out.lt hne)
  have ho3 := Lib.hid ho
  clear hb ho
  go_wp2_with fail
  refine (HD.out _ _ _ hg3.out hb3.out).mono ?_; rintro e w4 ⟨rfl, bel4⟩
  have hb4 := Lib.hid (hb3.out.below bel4 hb3.out.lt)
  have hg4 := Lib.hid (hg3.out.below bel4 hg3.out.lt)
  have Hbel4 := Lib.hid bel4
  clear bel4
  go_wp2_with fail
  refine (HF.out _ _ _ hg4.out hb4.out).mono ?_; rintro e w' ⟨rfl, rfl⟩
  go_wp2
  go_ret
  have z1 := Hbel.out.size
  have z2 := ho2.out.size
  have z3 := ho3.out.size
  exact ⟨by simp, (below_only (below_only Hbel.out ho2.out lb (by omega)) ho3.out lb (by omega)).trans (Hbel4.out.mono (by omega))⟩
end Go.Proofs.Ytkamalaideimgaa
