import Derived.Test.YtjmdikabikgjhaaLives
import Derived.Laws.StructEq
/- The walks of InsnDecodes and InsnEncodes. -/
namespace Go.Proofs.Ytjmdikabikgjhaa
open Go.RowKit
set_option linter.unusedVariables false
attribute [local go_sem] cpu_get cpu_get16 cpu_set cpu_set16 szIs_cpu szIs_lit row_at row_past row_alloc nf_alloc row_set nf_set row_cell nf_cell row_drew nf_drew row_drewN nf_drewN cell_setRow frozen_setRow nlt1 nlt2 nlt3 nlt4 nne1 nne2 nne3 nen1 nen2 nen3
attribute [local go_sem ↓] exec_load35 exec_store35
attribute [local go_sem] run_load35 run_store35

set_option maxHeartbeats 1000000 in
set_option maxRecDepth 100000 in
theorem decodes_ok (x : Int) (hx : word x) (c1 : 1 ≤ opOf x) (c2 : opOf x ≤ 28) (w : World) : Calls Try.prog 3 #[.int .u32 x] w fun e w' => e = .returned (.bool true) ∧ Below w.heap.size w w' := by
  have H := dec_ok x hx c1 c2
  have hdp := H.1
  have hdr := H.2
  have henc := (enc_ok _ _ _ _ (enc_dec x hx c1 c2).1).1
  rw [(enc_dec x hx c1 c2).2] at henc
  have Hdp := Lib.hid hdp
  have Hdr := Lib.hid hdr
  have Hen := Lib.hid henc
  have Hli := Lib.hid lives_true
  clear H hdp hdr henc hx c1 c2
  unfold insnA at Hen
  generalize opOf x = op at *
  generalize regA x = k at *
  generalize regB x = m at *
  generalize immOf x = imm at *
  go_enter Try.func3, Try.ntmps3
  go_wp2_with fail
  refine (Hdp.out _).mono ?_; rintro e w1 ⟨rfl, hb1⟩
  go_wp2_with fail
  refine (Hdr.out _).mono ?_; rintro e w2 ⟨rfl, hb2⟩
  obtain ⟨br20, bn20, bc20, bf20⟩ := (Blk.below (g := w1.heap.size) (c := #[.int .i64 op, .int .i64 k, .int .i64 m, .int .i64 imm]) ⟨by first | (go_simp; done) | (go_simp; intro hq; exfalso; omega) | (go_simp; omega), by first | (go_simp; done) | (go_simp; intro hq; exfalso; omega) | (go_simp; omega)⟩ hb2 (by first | (go_simp; done) | (go_simp; intro hq; exfalso; omega) | (go_simp; omega))).all
  obtain ⟨bl20, be20⟩ := below_lt (g := w1.heap.size) hb2 (by first | (go_simp; done) | (go_simp; intro hq; exfalso; omega) | (go_simp; omega))
  go_wp2_with fail
  refine (Hli.out _).mono ?_; rintro e w3 ⟨rfl, hb3⟩
  obtain ⟨br30, bn30, bc30, bf30⟩ := (Blk.below (g := w1.heap.size) (c := #[.int .i64 op, .int .i64 k, .int .i64 m, .int .i64 imm]) ⟨by first | (go_simp; done) | (go_simp; intro hq; exfalso; omega) | (go_simp; omega), by first | (go_simp; done) | (go_simp; intro hq; exfalso; omega) | (go_simp; omega)⟩ hb3 (by first | (go_simp; done) | (go_simp; intro hq; exfalso; omega) | (go_simp; omega))).all
  obtain ⟨bl30, be30⟩ := below_lt (g := w1.heap.size) hb3 (by first | (go_simp; done) | (go_simp; intro hq; exfalso; omega) | (go_simp; omega))
  obtain ⟨br31, bn31, bc31, bf31⟩ := (Blk.below (g := w2.heap.size) (c := #[.int .i64 op, .int .i64 k, .int .i64 m, .int .i64 imm]) ⟨by first | (go_simp; done) | (go_simp; intro hq; exfalso; omega) | (go_simp; omega), by first | (go_simp; done) | (go_simp; intro hq; exfalso; omega) | (go_simp; omega)⟩ hb3 (by first | (go_simp; done) | (go_simp; intro hq; exfalso; omega) | (go_simp; omega))).all
  obtain ⟨bl31, be31⟩ := below_lt (g := w2.heap.size) hb3 (by first | (go_simp; done) | (go_simp; intro hq; exfalso; omega) | (go_simp; omega))
  go_wp2_with fail
  refine (Hen.out _).mono ?_; rintro e w4 ⟨rfl, hb4⟩
  go_wp2
  go_ret
  refine ⟨by simp, ?_⟩
  have z1 := hb1.size
  have z2 := hb2.size
  have z3 := hb3.size
  have z4 := hb4.size
  repeat (first | (with_reducible exact Below.refl _ _) | (with_reducible refine Below.alloc ?_ ?h _; (case h => (first | omega | (simp; done) | (simp; omega)))) | (with_reducible refine Below.drew ?_) | (with_reducible refine below_drewN ?_ _) | (with_reducible refine Below.setCell ?_ ?h _; (case h => (first | omega | (simp; done) | (simp; omega)))) | (with_reducible refine below_row ?_ ?h _; (case h => (first | omega | (simp; done) | (simp; omega)))) | (with_reducible refine Below.trans ?_ (Below.mono hb4 ?h); (case h => (first | omega | (simp; done) | (simp; omega)))) | (with_reducible refine Below.trans ?_ (Below.mono hb3 ?h); (case h => (first | omega | (simp; done) | (simp; omega)))) | (with_reducible refine Below.trans ?_ (Below.mono hb2 ?h); (case h => (first | omega | (simp; done) | (simp; omega)))) | (with_reducible refine Below.trans ?_ (Below.mono hb1 ?h); (case h => (first | omega | (simp; done) | (simp; omega)))))
set_option maxHeartbeats 1000000 in
set_option maxRecDepth 100000 in
theorem decodes_bad (x : Int) (hx : word x) (c : ¬ (1 ≤ opOf x ∧ opOf x ≤ 28)) (w : World) : Calls Try.prog 3 #[.int .u32 x] w fun e w' => e = .returned (.bool true) ∧ Below w.heap.size w w' := by
  have H := dec_bad x hx c
  have hdp := H.1
  have hdr := H.2
  have Hdp := Lib.hid hdp
  have Hdr := Lib.hid hdr
  have Hli := Lib.hid lives_true
  clear H hdp hdr hx c
  go_enter Try.func3, Try.ntmps3
  go_wp2_with fail
  refine (Hdp.out _).mono ?_; rintro e w1 ⟨rfl, hb1⟩
  go_wp2_with fail
  refine (Hdr.out _).mono ?_; rintro e w2 ⟨rfl, hb2⟩
  obtain ⟨br20, bn20, bc20, bf20⟩ := (Blk.below (g := w1.heap.size) (c := #[.int .i64 0, .int .i64 0, .int .i64 0, .int .i64 0]) ⟨by first | (go_simp; done) | (go_simp; intro hq; exfalso; omega) | (go_simp; omega), by first | (go_simp; done) | (go_simp; intro hq; exfalso; omega) | (go_simp; omega)⟩ hb2 (by first | (go_simp; done) | (go_simp; intro hq; exfalso; omega) | (go_simp; omega))).all
  obtain ⟨bl20, be20⟩ := below_lt (g := w1.heap.size) hb2 (by first | (go_simp; done) | (go_simp; intro hq; exfalso; omega) | (go_simp; omega))
  go_wp2_with fail
  refine (Hli.out _).mono ?_; rintro e w3 ⟨rfl, hb3⟩
  obtain ⟨br30, bn30, bc30, bf30⟩ := (Blk.below (g := w1.heap.size) (c := #[.int .i64 0, .int .i64 0, .int .i64 0, .int .i64 0]) ⟨by first | (go_simp; done) | (go_simp; intro hq; exfalso; omega) | (go_simp; omega), by first | (go_simp; done) | (go_simp; intro hq; exfalso; omega) | (go_simp; omega)⟩ hb3 (by first | (go_simp; done) | (go_simp; intro hq; exfalso; omega) | (go_simp; omega))).all
  obtain ⟨bl30, be30⟩ := below_lt (g := w1.heap.size) hb3 (by first | (go_simp; done) | (go_simp; intro hq; exfalso; omega) | (go_simp; omega))
  obtain ⟨br31, bn31, bc31, bf31⟩ := (Blk.below (g := w2.heap.size) (c := #[.int .i64 0, .int .i64 0, .int .i64 0, .int .i64 0]) ⟨by first | (go_simp; done) | (go_simp; intro hq; exfalso; omega) | (go_simp; omega), by first | (go_simp; done) | (go_simp; intro hq; exfalso; omega) | (go_simp; omega)⟩ hb3 (by first | (go_simp; done) | (go_simp; intro hq; exfalso; omega) | (go_simp; omega))).all
  obtain ⟨bl31, be31⟩ := below_lt (g := w2.heap.size) hb3 (by first | (go_simp; done) | (go_simp; intro hq; exfalso; omega) | (go_simp; omega))
  go_wp2
  go_ret
  refine ⟨by simp, ?_⟩
  have z1 := hb1.size
  have z2 := hb2.size
  have z3 := hb3.size
  repeat (first | (with_reducible exact Below.refl _ _) | (with_reducible refine Below.alloc ?_ ?h _; (case h => (first | omega | (simp; done) | (simp; omega)))) | (with_reducible refine Below.drew ?_) | (with_reducible refine below_drewN ?_ _) | (with_reducible refine Below.setCell ?_ ?h _; (case h => (first | omega | (simp; done) | (simp; omega)))) | (with_reducible refine below_row ?_ ?h _; (case h => (first | omega | (simp; done) | (simp; omega)))) | (with_reducible refine Below.trans ?_ (Below.mono hb3 ?h); (case h => (first | omega | (simp; done) | (simp; omega)))) | (with_reducible refine Below.trans ?_ (Below.mono hb2 ?h); (case h => (first | omega | (simp; done) | (simp; omega)))) | (with_reducible refine Below.trans ?_ (Below.mono hb1 ?h); (case h => (first | omega | (simp; done) | (simp; omega)))))
theorem decodes_walk (x : Int) (hx : word x) (w : World) : Calls Try.prog 3 #[.int .u32 x] w fun e w' => e = .returned (.bool true) ∧ Below w.heap.size w w' := by
  by_cases c : 1 ≤ opOf x ∧ opOf x ≤ 28
  · exact decodes_ok x hx c.1 c.2 w
  · exact decodes_bad x hx c w
set_option maxHeartbeats 1000000 in
set_option maxRecDepth 100000 in
theorem encodes_ok (op k m imm : Int) (h : EncOk op k m imm) (w : World) : Calls Try.prog 4 (insnA op k m imm) w fun e w' => e = .returned (.bool true) ∧ Below w.heap.size w w' := by
  have H := enc_ok op k m imm h
  have hep := H.1
  have her := H.2
  obtain ⟨d1, d2, d3, d4⟩ := dec_enc op k m imm h
  have hdp := (dec_ok (encW op k m imm) (encW_word op k m imm h) (by rw [d1]; exact h.1) (by rw [d1]; exact h.2.1)).1
  rw [d1, d2, d3, d4] at hdp
  have Hep := Lib.hid hep
  have Her := Lib.hid her
  have Hdp := Lib.hid hdp
  have Hli := Lib.hid lives_true
  clear H hep her hdp h d1 d2 d3 d4
  unfold insnA at *
  generalize encW op k m imm = W at *
  go_enter Try.func4, Try.ntmps4
  go_wp2_with fail
  refine (Hep.out _).mono ?_; rintro e w1 ⟨rfl, hb1⟩
  obtain ⟨br10, bn10, bc10, bf10⟩ := (Blk.below (g := w.heap.size) (c := #[.int .i64 op, .int .i64 k, .int .i64 m, .int .i64 imm]) ⟨by first | (go_simp; done) | (go_simp; intro hq; exfalso; omega) | (go_simp; omega), by first | (go_simp; done) | (go_simp; intro hq; exfalso; omega) | (go_simp; omega)⟩ hb1 (by first | (go_simp; done) | (go_simp; intro hq; exfalso; omega) | (go_simp; omega))).all
  obtain ⟨bl10, be10⟩ := below_lt (g := w.heap.size) hb1 (by first | (go_simp; done) | (go_simp; intro hq; exfalso; omega) | (go_simp; omega))
  go_wp2_with fail
  refine (Her.out _).mono ?_; rintro e w2 ⟨rfl, hb2⟩
  obtain ⟨br20, bn20, bc20, bf20⟩ := (Blk.below (g := w.heap.size) (c := #[.int .i64 op, .int .i64 k, .int .i64 m, .int .i64 imm]) ⟨by first | (go_simp; done) | (go_simp; intro hq; exfalso; omega) | (go_simp; omega), by first | (go_simp; done) | (go_simp; intro hq; exfalso; omega) | (go_simp; omega)⟩ hb2 (by first | (go_simp; done) | (go_simp; intro hq; exfalso; omega) | (go_simp; omega))).all
  obtain ⟨bl20, be20⟩ := below_lt (g := w.heap.size) hb2 (by first | (go_simp; done) | (go_simp; intro hq; exfalso; omega) | (go_simp; omega))
  go_wp2_with fail
  refine (Hli.out _).mono ?_; rintro e w3 ⟨rfl, hb3⟩
  obtain ⟨br30, bn30, bc30, bf30⟩ := (Blk.below (g := w.heap.size) (c := #[.int .i64 op, .int .i64 k, .int .i64 m, .int .i64 imm]) ⟨by first | (go_simp; done) | (go_simp; intro hq; exfalso; omega) | (go_simp; omega), by first | (go_simp; done) | (go_simp; intro hq; exfalso; omega) | (go_simp; omega)⟩ hb3 (by first | (go_simp; done) | (go_simp; intro hq; exfalso; omega) | (go_simp; omega))).all
  obtain ⟨bl30, be30⟩ := below_lt (g := w.heap.size) hb3 (by first | (go_simp; done) | (go_simp; intro hq; exfalso; omega) | (go_simp; omega))
  go_wp2_with fail
  refine (Hdp.out _).mono ?_; rintro e w4 ⟨rfl, hb4⟩
  obtain ⟨br40, bn40, bc40, bf40⟩ := (Blk.below (g := w.heap.size) (c := #[.int .i64 op, .int .i64 k, .int .i64 m, .int .i64 imm]) ⟨by first | (go_simp; done) | (go_simp; intro hq; exfalso; omega) | (go_simp; omega), by first | (go_simp; done) | (go_simp; intro hq; exfalso; omega) | (go_simp; omega)⟩ hb4 (by first | (go_simp; done) | (go_simp; intro hq; exfalso; omega) | (go_simp; omega))).all
  obtain ⟨bl40, be40⟩ := below_lt (g := w.heap.size) hb4 (by first | (go_simp; done) | (go_simp; intro hq; exfalso; omega) | (go_simp; omega))
  go_wp2
  go_ret
  refine ⟨by simp, ?_⟩
  have z1 := hb1.size
  have z2 := hb2.size
  have z3 := hb3.size
  have z4 := hb4.size
  repeat (first | (with_reducible exact Below.refl _ _) | (with_reducible refine Below.alloc ?_ ?h _; (case h => (first | omega | (simp; done) | (simp; omega)))) | (with_reducible refine Below.drew ?_) | (with_reducible refine below_drewN ?_ _) | (with_reducible refine Below.setCell ?_ ?h _; (case h => (first | omega | (simp; done) | (simp; omega)))) | (with_reducible refine below_row ?_ ?h _; (case h => (first | omega | (simp; done) | (simp; omega)))) | (with_reducible refine Below.trans ?_ (Below.mono hb4 ?h); (case h => (first | omega | (simp; done) | (simp; omega)))) | (with_reducible refine Below.trans ?_ (Below.mono hb3 ?h); (case h => (first | omega | (simp; done) | (simp; omega)))) | (with_reducible refine Below.trans ?_ (Below.mono hb2 ?h); (case h => (first | omega | (simp; done) | (simp; omega)))) | (with_reducible refine Below.trans ?_ (Below.mono hb1 ?h); (case h => (first | omega | (simp; done) | (simp; omega)))))
set_option maxHeartbeats 1000000 in
set_option maxRecDepth 100000 in
theorem encodes_bad (op k m imm : Int) (h : ¬ EncOk op k m imm) (w : World) : Calls Try.prog 4 (insnA op k m imm) w fun e w' => e = .returned (.bool true) ∧ Below w.heap.size w w' := by
  have H := enc_bad op k m imm h
  have hep := H.1
  have her := H.2
  have Hep := Lib.hid hep
  have Her := Lib.hid her
  have Hli := Lib.hid lives_true
  clear H hep her h
  unfold insnA at *
  go_enter Try.func4, Try.ntmps4
  go_wp2_with fail
  refine (Hep.out _).mono ?_; rintro e w1 ⟨rfl, hb1⟩
  obtain ⟨br10, bn10, bc10, bf10⟩ := (Blk.below (g := w.heap.size) (c := #[.int .i64 op, .int .i64 k, .int .i64 m, .int .i64 imm]) ⟨by first | (go_simp; done) | (go_simp; intro hq; exfalso; omega) | (go_simp; omega), by first | (go_simp; done) | (go_simp; intro hq; exfalso; omega) | (go_simp; omega)⟩ hb1 (by first | (go_simp; done) | (go_simp; intro hq; exfalso; omega) | (go_simp; omega))).all
  obtain ⟨bl10, be10⟩ := below_lt (g := w.heap.size) hb1 (by first | (go_simp; done) | (go_simp; intro hq; exfalso; omega) | (go_simp; omega))
  go_wp2_with fail
  refine (Her.out _).mono ?_; rintro e w2 ⟨rfl, hb2⟩
  obtain ⟨br20, bn20, bc20, bf20⟩ := (Blk.below (g := w.heap.size) (c := #[.int .i64 op, .int .i64 k, .int .i64 m, .int .i64 imm]) ⟨by first | (go_simp; done) | (go_simp; intro hq; exfalso; omega) | (go_simp; omega), by first | (go_simp; done) | (go_simp; intro hq; exfalso; omega) | (go_simp; omega)⟩ hb2 (by first | (go_simp; done) | (go_simp; intro hq; exfalso; omega) | (go_simp; omega))).all
  obtain ⟨bl20, be20⟩ := below_lt (g := w.heap.size) hb2 (by first | (go_simp; done) | (go_simp; intro hq; exfalso; omega) | (go_simp; omega))
  go_wp2_with fail
  refine (Hli.out _).mono ?_; rintro e w3 ⟨rfl, hb3⟩
  go_wp2
  go_ret
  refine ⟨by simp, ?_⟩
  have z1 := hb1.size
  have z2 := hb2.size
  have z3 := hb3.size
  repeat (first | (with_reducible exact Below.refl _ _) | (with_reducible refine Below.alloc ?_ ?h _; (case h => (first | omega | (simp; done) | (simp; omega)))) | (with_reducible refine Below.drew ?_) | (with_reducible refine below_drewN ?_ _) | (with_reducible refine Below.setCell ?_ ?h _; (case h => (first | omega | (simp; done) | (simp; omega)))) | (with_reducible refine below_row ?_ ?h _; (case h => (first | omega | (simp; done) | (simp; omega)))) | (with_reducible refine Below.trans ?_ (Below.mono hb3 ?h); (case h => (first | omega | (simp; done) | (simp; omega)))) | (with_reducible refine Below.trans ?_ (Below.mono hb2 ?h); (case h => (first | omega | (simp; done) | (simp; omega)))) | (with_reducible refine Below.trans ?_ (Below.mono hb1 ?h); (case h => (first | omega | (simp; done) | (simp; omega)))))
theorem encodes_walk (op k m imm : Int) (w : World) : Calls Try.prog 4 (insnA op k m imm) w fun e w' => e = .returned (.bool true) ∧ Below w.heap.size w w' := by
  by_cases h : EncOk op k m imm
  · exact encodes_ok op k m imm h w
  · exact encodes_bad op k m imm h w
end Go.Proofs.Ytjmdikabikgjhaa
