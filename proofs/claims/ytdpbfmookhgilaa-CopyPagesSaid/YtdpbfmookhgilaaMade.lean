import Derived.Test.YtdpbfmookhgilaaLoads
/- Cas, New; what must come of every program. -/
namespace Go.Proofs.Ytdpbfmookhgilaa
open Go.RowKit
set_option linter.unusedVariables false
attribute [local go_sem] szIs_lit row_at row_past row_alloc nf_alloc row_set nf_set row_cell nf_cell row_drew nf_drew row_drewN nf_drewN cell_setRow frozen_setRow nlt1 nlt2 nlt3 nlt4 nne1 nne2 nne3 nen1 nen2 nen3
attribute [local go_sem] by_get by_set

theorem made_bytes (n : Nat) : madeCells #[.int .u8 0] n = bytes (fun _ => 0) n := by
  apply Array.ext_getElem?
  intro j
  by_cases h : j < n
  · rw [by_get _ _ _ h]; simp [madeCells, h, Nat.mod_one]
  · rw [by_none _ _ _ (by omega)]; simp [madeCells]; omega
theorem info5 : (Try.prog.info? 5).map (fun i => (i.zero, i.size, i.bytes)) = some (some (.int .u8 0), 1, 1) := by kernel_rfl
theorem make_run (w : World) (m : Nat) (hm : m ≤ 1048576) : (Instr.makeSlice 45 (.int .i64 (m : Int)) (.int .i64 (m : Int))).run Try.prog w = .ok (.slice (some ⟨w.heap.size, 0, none⟩) m m) (w.alloc (.cells (bytes (fun _ => 0) m) 5)) := by
  obtain ⟨i0, hi, hz, hsz, hby⟩ := info_parts info5
  have hr := run_make (P := Try.prog) w 45 5 i0 (.int .u8 0) Try.underlying45 hi hz .i64 .i64 (m : Int) (m : Int) (by omega) (Int.le_refl _) (by rw [hby]; omega) (by omega)
  rw [hr, hsz]
  simp only [Int.toNat_natCast, Nat.mul_one, Value.cells, made_bytes]
/-- A memory of zeros was made. -/
def Made (n : Nat) (w : World) (e : Ending) (w' : World) : Prop := ∃ g b, e = .returned (.tuple #[.pointer (some ⟨g, 0, none⟩), .int .i64 0]) ∧ Blk w' g (memS b n) ∧ Blk w' b (bytes (fun _ => 0) n) ∧ w.heap.size ≤ g ∧ w.heap.size ≤ b ∧ g ≠ b ∧ Below w.heap.size w w'
theorem new_ok (k : Nat) (h1 : 1 ≤ k) (h2 : k ≤ 4096) (w : World) : Calls Try.prog 11 #[.int .i64 k] w (Made (k * 256) w) := by
  have hm := fun w => make_run w (k * 256) (by omega)
  rw [show ((k * 256 : Nat) : Int) = (k : Int) * 256 from by omega] at hm
  go_enter Try.func11, Try.ntmps11
  go_wp2
  go_ret2
  refine ⟨w.heap.size + 1, w.heap.size, by simp, ⟨by go_simp, by go_simp⟩, ⟨by go_simp, by go_simp⟩, by omega, by omega, by omega, ?_⟩
  repeat (first | (with_reducible exact Below.refl _ _) | (with_reducible refine Below.alloc ?_ ?h _; (case h => (first | omega | (simp; done) | (simp; omega)))) | (with_reducible refine Below.drew ?_) | (with_reducible refine below_drewN ?_ _) | (with_reducible refine Below.setCell ?_ ?h _; (case h => (first | omega | (simp; done) | (simp; omega)))) | (with_reducible refine below_row ?_ ?h _; (case h => (first | omega | (simp; done) | (simp; omega)))))
theorem bytes_zero (n : Nat) (i : Nat) : isByte ((fun _ => 0 : Nat → Int) i) := ⟨by simp, by simp⟩
theorem st32_byte (M : Nat → Int) (a : Nat) (x : Int) (k : Nat) (h : ∀ i, isByte (M i)) : ∀ i, isByte (st32 M a x k i) := fun i => by
  unfold st32; split
  · exact ⟨by omega, by omega⟩
  · exact h i
/-- A word is stored and read: the same. -/
theorem le32_st (M : Nat → Int) (a : Nat) (x : Int) (h0 : 0 ≤ x) (h1 : x ≤ 4294967295) : le32 (st32 M a x 4) a = x := by
  have e0 : st32 M a x 4 a = x / 2 ^ 0 % 256 := by unfold st32; rw [if_pos (by omega)]; simp
  have e1 : st32 M a x 4 (a + 1) = x / 2 ^ 8 % 256 := by unfold st32; rw [if_pos (by omega)]; simp
  have e2 : st32 M a x 4 (a + 2) = x / 2 ^ 16 % 256 := by unfold st32; rw [if_pos (by omega)]; simp
  have e3 : st32 M a x 4 (a + 3) = x / 2 ^ 24 % 256 := by unfold st32; rw [if_pos (by omega)]; simp
  unfold le32
  rw [e0, e1, e2, e3]
  omega
end Go.Proofs.Ytdpbfmookhgilaa
