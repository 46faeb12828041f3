import Derived.Test.YtjmdikabikgjhaaLives
import Derived.Laws.StructEq
import Derived.Deep.QuietTactic
import Derived.BigQuiet
/- The walk of InsnFew. -/
namespace Go.Proofs.Ytjmdikabikgjhaa
open Go.RowKit
set_option linter.unusedVariables false
attribute [local go_sem] cpu_get cpu_get16 cpu_set cpu_set16 szIs_cpu szIs_lit row_at row_past row_alloc nf_alloc row_set nf_set row_cell nf_cell row_drew nf_drew row_drewN nf_drewN cell_setRow frozen_setRow nlt1 nlt2 nlt3 nlt4 nne1 nne2 nne3 nen1 nen2 nen3
attribute [local go_sem ↓] exec_load35 exec_store35
attribute [local go_sem] run_load35 run_store35
attribute [local go_sem high] eql_cpu neq_cpu
set_option maxHeartbeats 2000000 in
set_option maxRecDepth 100000 in
theorem few_ok (r r' r2 : Nat → Int) (pc pc' pc2 x v K addr size reg value old op B imm : Int) (A : Nat) (w : World)
    (sp : ∀ w, Calls Try.prog 15 #[.agg (cpu r pc), .int .u32 x] w fun e w' => e = .returned (.tuple #[.agg (cpu r' pc'), .agg #[.int .i64 K, .int .u32 addr, .int .i64 size, .int .i64 reg, .int .u32 value, .int .u32 old]]) ∧ Below w.heap.size w w')
    (fp : ∀ w, Calls Try.prog 17 #[.agg (cpu r' pc'), .agg #[.int .i64 K, .int .u32 addr, .int .i64 size, .int .i64 reg, .int .u32 value, .int .u32 old], .int .u32 v] w fun e w' => e = .returned (.agg (cpu r2 pc2)) ∧ Below w.heap.size w w')
    (dr : ∀ w, Calls Try.prog 11 #[.int .u32 x] w fun e w' => e = .returned (.tuple #[.agg #[.int .i64 op, .int .i64 A, .int .i64 B, .int .i64 imm], .int .i64 0]) ∧ Below w.heap.size w w')
    (hF : ∀ i, i < 16 → r2 i = r i ∨ i = A ∨ (i = 15 ∧ op = 27)) :
    Calls Try.prog 8 #[.agg (cpu r pc), .int .u32 x, .int .u32 v] w fun e w' => e = .returned (.bool true) ∧ Below w.heap.size w w' := by
  have Hsp := Lib.hid sp
  have Hfp := Lib.hid fp
  have Hdr := Lib.hid dr
  have HF := Lib.hid hF
  have Hli := Lib.hid lives_true
  clear sp fp dr hF
  go_enter Try.func8, Try.ntmps8
  go_wp2_with fail
  refine (Hsp.out _).mono ?_; rintro e w1 ⟨rfl, hb1⟩
  obtain ⟨br10, bn10, bc10, bf10⟩ := (Blk.below (g := w.heap.size) (c := cpu r pc) ⟨by first | (go_simp; done) | (go_simp; intro hq; exfalso; omega) | (go_simp; omega), by first | (go_simp; done) | (go_simp; intro hq; exfalso; omega) | (go_simp; omega)⟩ hb1 (by first | (go_simp; done) | (go_simp; intro hq; exfalso; omega) | (go_simp; omega))).all
  obtain ⟨bl10, be10⟩ := below_lt (g := w.heap.size) hb1 (by first | (go_simp; done) | (go_simp; intro hq; exfalso; omega) | (go_simp; omega))
  go_wp2_with fail
  refine (Hfp.out _).mono ?_; rintro e w2 ⟨rfl, hb2⟩
  obtain ⟨br20, bn20, bc20, bf20⟩ := (Blk.below (g := w.heap.size) (c := cpu r pc) ⟨by first | (go_simp; done) | (go_simp; intro hq; exfalso; omega) | (go_simp; omega), by first | (go_simp; done) | (go_simp; intro hq; exfalso; omega) | (go_simp; omega)⟩ hb2 (by first | (go_simp; done) | (go_simp; intro hq; exfalso; omega) | (go_simp; omega))).all
  obtain ⟨bl20, be20⟩ := below_lt (g := w.heap.size) hb2 (by first | (go_simp; done) | (go_simp; intro hq; exfalso; omega) | (go_simp; omega))
  obtain ⟨br21, bn21, bc21, bf21⟩ := (Blk.below (g := w1.heap.size + 1) (c := #[.int .i64 K, .int .u32 addr, .int .i64 size, .int .i64 reg, .int .u32 value, .int .u32 old]) ⟨by first | (go_simp; done) | (go_simp; intro hq; exfalso; omega) | (go_simp; omega), by first | (go_simp; done) | (go_simp; intro hq; exfalso; omega) | (go_simp; omega)⟩ hb2 (by first | (go_simp; done) | (go_simp; intro hq; exfalso; omega) | (go_simp; omega))).all
  obtain ⟨bl21, be21⟩ := below_lt (g := w1.heap.size + 1) hb2 (by first | (go_simp; done) | (go_simp; intro hq; exfalso; omega) | (go_simp; omega))
  go_wp2_with fail
  refine (Hdr.out _).mono ?_; rintro e w3 ⟨rfl, hb3⟩
  obtain ⟨br30, bn30, bc30, bf30⟩ := (Blk.below (g := w.heap.size) (c := cpu r pc) ⟨by first | (go_simp; done) | (go_simp; intro hq; exfalso; omega) | (go_simp; omega), by first | (go_simp; done) | (go_simp; intro hq; exfalso; omega) | (go_simp; omega)⟩ hb3 (by first | (go_simp; done) | (go_simp; intro hq; exfalso; omega) | (go_simp; omega))).all
  obtain ⟨bl30, be30⟩ := below_lt (g := w.heap.size) hb3 (by first | (go_simp; done) | (go_simp; intro hq; exfalso; omega) | (go_simp; omega))
  obtain ⟨br31, bn31, bc31, bf31⟩ := (Blk.below (g := w1.heap.size + 1) (c := #[.int .i64 K, .int .u32 addr, .int .i64 size, .int .i64 reg, .int .u32 value, .int .u32 old]) ⟨by first | (go_simp; done) | (go_simp; intro hq; exfalso; omega) | (go_simp; omega), by first | (go_simp; done) | (go_simp; intro hq; exfalso; omega) | (go_simp; omega)⟩ hb3 (by first | (go_simp; done) | (go_simp; intro hq; exfalso; omega) | (go_simp; omega))).all
  obtain ⟨bl31, be31⟩ := below_lt (g := w1.heap.size + 1) hb3 (by first | (go_simp; done) | (go_simp; intro hq; exfalso; omega) | (go_simp; omega))
  obtain ⟨br32, bn32, bc32, bf32⟩ := (Blk.below (g := w2.heap.size) (c := cpu r2 pc2) ⟨by first | (go_simp; done) | (go_simp; intro hq; exfalso; omega) | (go_simp; omega), by first | (go_simp; done) | (go_simp; intro hq; exfalso; omega) | (go_simp; omega)⟩ hb3 (by first | (go_simp; done) | (go_simp; intro hq; exfalso; omega) | (go_simp; omega))).all
  obtain ⟨bl32, be32⟩ := below_lt (g := w2.heap.size) hb3 (by first | (go_simp; done) | (go_simp; intro hq; exfalso; omega) | (go_simp; omega))
  go_wp2_with fail
  refine (Hli.out _).mono ?_; rintro e w4 ⟨rfl, hb4⟩
  obtain ⟨br40, bn40, bc40, bf40⟩ := (Blk.below (g := w.heap.size) (c := cpu r pc) ⟨by first | (go_simp; done) | (go_simp; intro hq; exfalso; omega) | (go_simp; omega), by first | (go_simp; done) | (go_simp; intro hq; exfalso; omega) | (go_simp; omega)⟩ hb4 (by first | (go_simp; done) | (go_simp; intro hq; exfalso; omega) | (go_simp; omega))).all
  obtain ⟨bl40, be40⟩ := below_lt (g := w.heap.size) hb4 (by first | (go_simp; done) | (go_simp; intro hq; exfalso; omega) | (go_simp; omega))
  obtain ⟨br41, bn41, bc41, bf41⟩ := (Blk.below (g := w1.heap.size + 1) (c := #[.int .i64 K, .int .u32 addr, .int .i64 size, .int .i64 reg, .int .u32 value, .int .u32 old]) ⟨by first | (go_simp; done) | (go_simp; intro hq; exfalso; omega) | (go_simp; omega), by first | (go_simp; done) | (go_simp; intro hq; exfalso; omega) | (go_simp; omega)⟩ hb4 (by first | (go_simp; done) | (go_simp; intro hq; exfalso; omega) | (go_simp; omega))).all
  obtain ⟨bl41, be41⟩ := below_lt (g := w1.heap.size + 1) hb4 (by first | (go_simp; done) | (go_simp; intro hq; exfalso; omega) | (go_simp; omega))
  obtain ⟨br42, bn42, bc42, bf42⟩ := (Blk.below (g := w2.heap.size) (c := cpu r2 pc2) ⟨by first | (go_simp; done) | (go_simp; intro hq; exfalso; omega) | (go_simp; omega), by first | (go_simp; done) | (go_simp; intro hq; exfalso; omega) | (go_simp; omega)⟩ hb4 (by first | (go_simp; done) | (go_simp; intro hq; exfalso; omega) | (go_simp; omega))).all
  obtain ⟨bl42, be42⟩ := below_lt (g := w2.heap.size) hb4 (by first | (go_simp; done) | (go_simp; intro hq; exfalso; omega) | (go_simp; omega))
  obtain ⟨br43, bn43, bc43, bf43⟩ := (Blk.below (g := w3.heap.size) (c := #[.int .i64 op, .int .i64 A, .int .i64 B, .int .i64 imm]) ⟨by first | (go_simp; done) | (go_simp; intro hq; exfalso; omega) | (go_simp; omega), by first | (go_simp; done) | (go_simp; intro hq; exfalso; omega) | (go_simp; omega)⟩ hb4 (by first | (go_simp; done) | (go_simp; intro hq; exfalso; omega) | (go_simp; omega))).all
  obtain ⟨bl43, be43⟩ := below_lt (g := w3.heap.size) hb4 (by first | (go_simp; done) | (go_simp; intro hq; exfalso; omega) | (go_simp; omega))
  go_wp2
  have z1 := hb1.size
  try simp at z1
  have z2 := hb2.size
  try simp at z2
  have z3 := hb3.size
  try simp at z3
  have z4 := hb4.size
  try simp at z4
  have hbel : Below w.heap.size w w4 := by
    repeat (first | (with_reducible exact Below.refl _ _) | (with_reducible refine Below.alloc ?_ ?h _; (case h => (first | omega | (simp; done) | (simp; omega)))) | (with_reducible refine Below.drew ?_) | (with_reducible refine below_drewN ?_ _) | (with_reducible refine Below.setCell ?_ ?h _; (case h => (first | omega | (simp; done) | (simp; omega)))) | (with_reducible refine below_row ?_ ?h _; (case h => (first | omega | (simp; done) | (simp; omega)))) | (with_reducible refine Below.trans ?_ (Below.mono hb4 ?h); (case h => (first | omega | (simp; done) | (simp; omega)))) | (with_reducible refine Below.trans ?_ (Below.mono hb3 ?h); (case h => (first | omega | (simp; done) | (simp; omega)))) | (with_reducible refine Below.trans ?_ (Below.mono hb2 ?h); (case h => (first | omega | (simp; done) | (simp; omega)))) | (with_reducible refine Below.trans ?_ (Below.mono hb1 ?h); (case h => (first | omega | (simp; done) | (simp; omega)))))
  have hq1 : w.heap.size < w4.heap.size := by omega
  go_loopw [12] (fun s wr => ∃ k : Nat, k ≤ 16 ∧ s = .int .i64 k ∧ (∀ o, wr.cell? ⟨w.heap.size, o, none⟩ = (cpu r pc)[o]?) ∧ (∀ o, wr.cell? ⟨w2.heap.size, o, none⟩ = (cpu r2 pc2)[o]?) ∧ (∀ o, wr.cell? ⟨w3.heap.size, o, none⟩ = ((#[.int .i64 op, .int .i64 A, .int .i64 B, .int .i64 imm] : Array Value)[o]?)) ∧ Below w.heap.size w wr) (fun s _ => 16 - (intOf s).toNat)
  case atStart => exact ⟨0, by omega, rfl, bc40, bc42, bc43, hbel⟩
  case round =>
    obtain ⟨k, hk, rfl, c1, c2, c3, hbr⟩ := hrel
    clear bc40 bc41 bc42 bc43 br40 br41 br42 br43 bn40 bn41 bn42 bn43 bf40 bf41 bf42 bf43
    by_cases hlt : k < 16
    · have hl0 : (0 : Int) ≤ (k : Int) := Int.natCast_nonneg _
      have hl1 : (k : Int) < 16 := by omega
      have g1 := cpu_get r pc k hlt
      have g2 := cpu_get r2 pc2 k hlt
      have hd := HF.out k hlt
      by_cases e1 : r2 k = r k
      · have b1 : (r2 k != r k) = false := by simp [e1]
        clear hd e1
        go_wp2
        go_quiet (fail)
        go_wp2
        go_roundw
        case rel => exact ⟨k + 1, by omega, by go_num, c1, c2, c3, below_drewN hbr _⟩
        case measure => simp [intOf]; omega
      · have b1 : (r2 k != r k) = true := by simpa using e1
        by_cases e2 : k = A
        · have b2 : ((k : Int) != (A : Int)) = false := by simp [e2]
          clear hd e1 e2
          go_wp2
          go_quiet (fail)
          go_wp2
          go_roundw
          case rel => exact ⟨k + 1, by omega, by go_num, c1, c2, c3, below_drewN hbr _⟩
          case measure => simp [intOf]; omega
        · obtain ⟨e3, e4⟩ : k = 15 ∧ op = 27 := by rcases hd with h | h | h; exact absurd h e1; exact absurd h e2; exact h
          have b2 : ((k : Int) != (A : Int)) = true := by simp; omega
          have b3 : ((k : Int) != 15) = false := by simp [e3]
          have b4 : (op != 27) = false := by simp [e4]
          clear hd e1 e2 e3 e4
          go_wp2
          go_quiet (fail)
          go_wp2
          go_roundw
          case rel => exact ⟨k + 1, by omega, by go_num, c1, c2, c3, below_drewN hbr _⟩
          case measure => simp [intOf]; omega
    · obtain rfl : k = 16 := by omega
      go_wp2
      go_ret
      exact ⟨rfl, hbr⟩
set_option maxHeartbeats 2000000 in
set_option maxRecDepth 100000 in
theorem few_bad (r r' : Nat → Int) (pc pc' x v addr size reg value old op B imm : Int) (A : Nat) (w : World)
    (sp : ∀ w, Calls Try.prog 15 #[.agg (cpu r pc), .int .u32 x] w fun e w' => e = .returned (.tuple #[.agg (cpu r' pc'), .agg #[.int .i64 6, .int .u32 addr, .int .i64 size, .int .i64 reg, .int .u32 value, .int .u32 old]]) ∧ Below w.heap.size w w')
    (fp : ∀ w, Calls Try.prog 17 #[.agg (cpu r' pc'), .agg #[.int .i64 6, .int .u32 addr, .int .i64 size, .int .i64 reg, .int .u32 value, .int .u32 old], .int .u32 v] w fun e w' => e = .returned (.agg (cpu r pc)) ∧ Below w.heap.size w w')
    (dr : ∀ w, Calls Try.prog 11 #[.int .u32 x] w fun e w' => e = .returned (.tuple #[.agg #[.int .i64 op, .int .i64 A, .int .i64 B, .int .i64 imm], .int .i64 30]) ∧ Below w.heap.size w w')
    (hF : ∀ i, i < 16 → r i = r i ∨ i = A ∨ (i = 15 ∧ op = 27)) :
    Calls Try.prog 8 #[.agg (cpu r pc), .int .u32 x, .int .u32 v] w fun e w' => e = .returned (.bool true) ∧ Below w.heap.size w w' := by
  have Hsp := Lib.hid sp
  have Hfp := Lib.hid fp
  have Hdr := Lib.hid dr
  have HF := Lib.hid hF
  have Hli := Lib.hid lives_true
  clear sp fp dr hF
  go_enter Try.func8, Try.ntmps8
  go_wp2_with fail
  refine (Hsp.out _).mono ?_; rintro e w1 ⟨rfl, hb1⟩
  obtain ⟨br10, bn10, bc10, bf10⟩ := (Blk.below (g := w.heap.size) (c := cpu r pc) ⟨by first | (go_simp; done) | (go_simp; intro hq; exfalso; omega) | (go_simp; omega), by first | (go_simp; done) | (go_simp; intro hq; exfalso; omega) | (go_simp; omega)⟩ hb1 (by first | (go_simp; done) | (go_simp; intro hq; exfalso; omega) | (go_simp; omega))).all
  obtain ⟨bl10, be10⟩ := below_lt (g := w.heap.size) hb1 (by first | (go_simp; done) | (go_simp; intro hq; exfalso; omega) | (go_simp; omega))
  go_wp2_with fail
  refine (Hfp.out _).mono ?_; rintro e w2 ⟨rfl, hb2⟩
  obtain ⟨br20, bn20, bc20, bf20⟩ := (Blk.below (g := w.heap.size) (c := cpu r pc) ⟨by first | (go_simp; done) | (go_simp; intro hq; exfalso; omega) | (go_simp; omega), by first | (go_simp; done) | (go_simp; intro hq; exfalso; omega) | (go_simp; omega)⟩ hb2 (by first | (go_simp; done) | (go_simp; intro hq; exfalso; omega) | (go_simp; omega))).all
  obtain ⟨bl20, be20⟩ := below_lt (g := w.heap.size) hb2 (by first | (go_simp; done) | (go_simp; intro hq; exfalso; omega) | (go_simp; omega))
  obtain ⟨br21, bn21, bc21, bf21⟩ := (Blk.below (g := w1.heap.size + 1) (c := #[.int .i64 6, .int .u32 addr, .int .i64 size, .int .i64 reg, .int .u32 value, .int .u32 old]) ⟨by first | (go_simp; done) | (go_simp; intro hq; exfalso; omega) | (go_simp; omega), by first | (go_simp; done) | (go_simp; intro hq; exfalso; omega) | (go_simp; omega)⟩ hb2 (by first | (go_simp; done) | (go_simp; intro hq; exfalso; omega) | (go_simp; omega))).all
  obtain ⟨bl21, be21⟩ := below_lt (g := w1.heap.size + 1) hb2 (by first | (go_simp; done) | (go_simp; intro hq; exfalso; omega) | (go_simp; omega))
  go_wp2_with fail
  refine (Hdr.out _).mono ?_; rintro e w3 ⟨rfl, hb3⟩
  obtain ⟨br30, bn30, bc30, bf30⟩ := (Blk.below (g := w.heap.size) (c := cpu r pc) ⟨by first | (go_simp; done) | (go_simp; intro hq; exfalso; omega) | (go_simp; omega), by first | (go_simp; done) | (go_simp; intro hq; exfalso; omega) | (go_simp; omega)⟩ hb3 (by first | (go_simp; done) | (go_simp; intro hq; exfalso; omega) | (go_simp; omega))).all
  obtain ⟨bl30, be30⟩ := below_lt (g := w.heap.size) hb3 (by first | (go_simp; done) | (go_simp; intro hq; exfalso; omega) | (go_simp; omega))
  obtain ⟨br31, bn31, bc31, bf31⟩ := (Blk.below (g := w1.heap.size + 1) (c := #[.int .i64 6, .int .u32 addr, .int .i64 size, .int .i64 reg, .int .u32 value, .int .u32 old]) ⟨by first | (go_simp; done) | (go_simp; intro hq; exfalso; omega) | (go_simp; omega), by first | (go_simp; done) | (go_simp; intro hq; exfalso; omega) | (go_simp; omega)⟩ hb3 (by first | (go_simp; done) | (go_simp; intro hq; exfalso; omega) | (go_simp; omega))).all
  obtain ⟨bl31, be31⟩ := below_lt (g := w1.heap.size + 1) hb3 (by first | (go_simp; done) | (go_simp; intro hq; exfalso; omega) | (go_simp; omega))
  obtain ⟨br32, bn32, bc32, bf32⟩ := (Blk.below (g := w2.heap.size) (c := cpu r pc) ⟨by first | (go_simp; done) | (go_simp; intro hq; exfalso; omega) | (go_simp; omega), by first | (go_simp; done) | (go_simp; intro hq; exfalso; omega) | (go_simp; omega)⟩ hb3 (by first | (go_simp; done) | (go_simp; intro hq; exfalso; omega) | (go_simp; omega))).all
  obtain ⟨bl32, be32⟩ := below_lt (g := w2.heap.size) hb3 (by first | (go_simp; done) | (go_simp; intro hq; exfalso; omega) | (go_simp; omega))
  go_wp2_with fail
  refine (Hli.out _).mono ?_; rintro e w4 ⟨rfl, hb4⟩
  obtain ⟨br40, bn40, bc40, bf40⟩ := (Blk.below (g := w.heap.size) (c := cpu r pc) ⟨by first | (go_simp; done) | (go_simp; intro hq; exfalso; omega) | (go_simp; omega), by first | (go_simp; done) | (go_simp; intro hq; exfalso; omega) | (go_simp; omega)⟩ hb4 (by first | (go_simp; done) | (go_simp; intro hq; exfalso; omega) | (go_simp; omega))).all
  obtain ⟨bl40, be40⟩ := below_lt (g := w.heap.size) hb4 (by first | (go_simp; done) | (go_simp; intro hq; exfalso; omega) | (go_simp; omega))
  obtain ⟨br41, bn41, bc41, bf41⟩ := (Blk.below (g := w1.heap.size + 1) (c := #[.int .i64 6, .int .u32 addr, .int .i64 size, .int .i64 reg, .int .u32 value, .int .u32 old]) ⟨by first | (go_simp; done) | (go_simp; intro hq; exfalso; omega) | (go_simp; omega), by first | (go_simp; done) | (go_simp; intro hq; exfalso; omega) | (go_simp; omega)⟩ hb4 (by first | (go_simp; done) | (go_simp; intro hq; exfalso; omega) | (go_simp; omega))).all
  obtain ⟨bl41, be41⟩ := below_lt (g := w1.heap.size + 1) hb4 (by first | (go_simp; done) | (go_simp; intro hq; exfalso; omega) | (go_simp; omega))
  obtain ⟨br42, bn42, bc42, bf42⟩ := (Blk.below (g := w2.heap.size) (c := cpu r pc) ⟨by first | (go_simp; done) | (go_simp; intro hq; exfalso; omega) | (go_simp; omega), by first | (go_simp; done) | (go_simp; intro hq; exfalso; omega) | (go_simp; omega)⟩ hb4 (by first | (go_simp; done) | (go_simp; intro hq; exfalso; omega) | (go_simp; omega))).all
  obtain ⟨bl42, be42⟩ := below_lt (g := w2.heap.size) hb4 (by first | (go_simp; done) | (go_simp; intro hq; exfalso; omega) | (go_simp; omega))
  obtain ⟨br43, bn43, bc43, bf43⟩ := (Blk.below (g := w3.heap.size) (c := #[.int .i64 op, .int .i64 A, .int .i64 B, .int .i64 imm]) ⟨by first | (go_simp; done) | (go_simp; intro hq; exfalso; omega) | (go_simp; omega), by first | (go_simp; done) | (go_simp; intro hq; exfalso; omega) | (go_simp; omega)⟩ hb4 (by first | (go_simp; done) | (go_simp; intro hq; exfalso; omega) | (go_simp; omega))).all
  obtain ⟨bl43, be43⟩ := below_lt (g := w3.heap.size) hb4 (by first | (go_simp; done) | (go_simp; intro hq; exfalso; omega) | (go_simp; omega))
  go_wp2
  have z1 := hb1.size
  try simp at z1
  have z2 := hb2.size
  try simp at z2
  have z3 := hb3.size
  try simp at z3
  have z4 := hb4.size
  try simp at z4
  have hbel : Below w.heap.size w w4 := by
    repeat (first | (with_reducible exact Below.refl _ _) | (with_reducible refine Below.alloc ?_ ?h _; (case h => (first | omega | (simp; done) | (simp; omega)))) | (with_reducible refine Below.drew ?_) | (with_reducible refine below_drewN ?_ _) | (with_reducible refine Below.setCell ?_ ?h _; (case h => (first | omega | (simp; done) | (simp; omega)))) | (with_reducible refine below_row ?_ ?h _; (case h => (first | omega | (simp; done) | (simp; omega)))) | (with_reducible refine Below.trans ?_ (Below.mono hb4 ?h); (case h => (first | omega | (simp; done) | (simp; omega)))) | (with_reducible refine Below.trans ?_ (Below.mono hb3 ?h); (case h => (first | omega | (simp; done) | (simp; omega)))) | (with_reducible refine Below.trans ?_ (Below.mono hb2 ?h); (case h => (first | omega | (simp; done) | (simp; omega)))) | (with_reducible refine Below.trans ?_ (Below.mono hb1 ?h); (case h => (first | omega | (simp; done) | (simp; omega)))))
  have hq1 : w.heap.size < w4.heap.size := by omega
  go_loopw [12] (fun s wr => ∃ k : Nat, k ≤ 16 ∧ s = .int .i64 k ∧ (∀ o, wr.cell? ⟨w.heap.size, o, none⟩ = (cpu r pc)[o]?) ∧ (∀ o, wr.cell? ⟨w2.heap.size, o, none⟩ = (cpu r pc)[o]?) ∧ (∀ o, wr.cell? ⟨w3.heap.size, o, none⟩ = ((#[.int .i64 op, .int .i64 A, .int .i64 B, .int .i64 imm] : Array Value)[o]?)) ∧ Below w.heap.size w wr) (fun s _ => 16 - (intOf s).toNat)
  case atStart => exact ⟨0, by omega, rfl, bc40, bc42, bc43, hbel⟩
  case round =>
    obtain ⟨k, hk, rfl, c1, c2, c3, hbr⟩ := hrel
    clear bc40 bc41 bc42 bc43 br40 br41 br42 br43 bn40 bn41 bn42 bn43 bf40 bf41 bf42 bf43
    by_cases hlt : k < 16
    · have hl0 : (0 : Int) ≤ (k : Int) := Int.natCast_nonneg _
      have hl1 : (k : Int) < 16 := by omega
      have g1 := cpu_get r pc k hlt
      have g2 := cpu_get r pc k hlt
      have b1 : (r k != r k) = false := by simp
      go_wp2
      go_quiet (fail)
      go_wp2
      go_roundw
      case rel => exact ⟨k + 1, by omega, by go_num, c1, c2, c3, below_drewN hbr _⟩
      case measure => simp [intOf]; omega
    · obtain rfl : k = 16 := by omega
      go_wp2
      go_ret
      exact ⟨rfl, hbr⟩
theorem few_walk (r : Nat → Int) (pc x v : Int) (hr : ∀ i, word (r i)) (hpc : word pc) (hx : word x) (hv : word v) (w : World) :
    Calls Try.prog 8 #[.agg (cpu r pc), .int .u32 x, .int .u32 v] w fun e w' => e = .returned (.bool true) ∧ Below w.heap.size w w' := by
  obtain ⟨r', pc', K, addr, size, reg, value, old, hr', hpc', hf, ⟨sp, sr⟩, few⟩ := step_both r pc x hr hpc hx
  obtain ⟨r2, pc2, hr2, hpc2, ⟨fp, fr⟩, f6, fF⟩ := fin_both r' pc' K addr size reg value old v hr' hpc' hv hf
  unfold actV at sp fp
  obtain ⟨few1, few2, few3, few4⟩ := few
  by_cases c : 1 ≤ opOf x ∧ opOf x ≤ 28
  · refine few_ok r r' r2 pc pc' pc2 x v K addr size reg value old (opOf x) (regB x) (immOf x) (regA x) w sp fp (dec_ok x hx c.1 c.2).2 (fun i hi => ?_)
    by_cases e1 : i = regA x
    · exact .inr (.inl e1)
    · by_cases e2 : K = 4 ∧ i = 15
      · exact .inr (.inr ⟨e2.2, few4 e2.1⟩)
      · refine .inl ((fF i (fun hk h => e1 ?_) (fun hk h => e2 ⟨hk, h⟩)).trans (few2 i e1))
        have := few3 hk
        omega
  · obtain ⟨rfl, rfl, rfl⟩ := few1 c
    obtain ⟨rfl, rfl⟩ := f6 rfl
    exact few_bad _ _ _ _ x v addr size reg value old 0 ((0 : Nat) : Int) 0 0 w sp fp (dec_bad x hx c).2 (fun i hi => .inl rfl)
end Go.Proofs.Ytjmdikabikgjhaa
