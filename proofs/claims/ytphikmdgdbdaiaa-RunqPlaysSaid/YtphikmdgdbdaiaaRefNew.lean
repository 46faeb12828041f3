import Derived.Test.YtphikmdgdbdaiaaRefRem
/- The reference: New. -/
namespace Go.Proofs.Ytphikmdgdbdaiaa
open Go.RowKit Go.BigFrame
set_option linter.unusedVariables false
set_option linter.unusedSimpArgs false
attribute [local go_sem] szIs_lit row_at row_past row_alloc nf_alloc row_set nf_set row_cell nf_cell row_drew nf_drew row_drewN nf_drewN cell_setRow frozen_setRow nlt1 nlt2 nlt3 nlt4 nne1 nne2 nne3 nen1 nen2 nen3
def r0 (x hb : Nat) : RA := ⟨x, hb, fun _ => none, fun _ => 0⟩
theorem hrow0 : (Try.prog.info? 64).map (fun i => (i.zero.map (·.cells), i.size, decide (i.bytes ≤ 1000))) = some (some #[.int .i64 0, .slice none 0 0], 2, true) := by kernel_rfl
theorem hrow_info : ∃ i0 z, Try.prog.info? 64 = some i0 ∧ i0.zero = some z ∧ i0.size = 2 ∧ i0.bytes ≤ 1000 ∧ z.cells = #[.int .i64 0, .slice none 0 0] := by
  have h := hrow0
  cases hi : Try.prog.info? 64 with
  | none => rw [hi] at h; cases h
  | some i0 =>
    rw [hi] at h
    cases hz : i0.zero with
    | none => simp [hz] at h
    | some z => simp [hz] at h; exact ⟨i0, z, rfl, hz, h.2.1, h.2.2, h.1⟩
theorem made_two (x hb : Nat) (n : Nat) (h1 : 1 ≤ n) (h2 : n ≤ 8) : (madeCells #[.int .i64 0, .slice none 0 0] (n * 2)).toList = rv (r0 x hb) (S0 n) n := by
  rcases (show n = 1 ∨ n = 2 ∨ n = 3 ∨ n = 4 ∨ n = 5 ∨ n = 6 ∨ n = 7 ∨ n = 8 by omega) with rfl | rfl | rfl | rfl | rfl | rfl | rfl | rfl <;> first | kernel_rfl | (simp [madeCells, rv, r0, S0]; done) | (simp [madeCells, rv, r0, S0]; decide)
theorem make_harts (n : Nat) (h1 : 1 ≤ n) (h2 : n ≤ 8) (w : World) (x : Nat) : ∃ cur, (Instr.makeSlice 59 (.int .i64 (n : Int)) (.int .i64 (n : Int))).run Try.prog w = .ok (.slice (some ⟨w.heap.size, 0, none⟩) n n) (w.alloc (.cells cur 64)) ∧ Rw (w.alloc (.cells cur 64)) 64 2 (some ⟨w.heap.size, 0, none⟩) n n (rv (r0 x w.heap.size) (S0 n) n) := by
  obtain ⟨i0, z, q1, q2, q3, q4, q5⟩ := hrow_info
  have hb : (i0.bytes : Int) * (n : Int) ≤ 281474976710656 := by
    have : (i0.bytes : Int) * (n : Int) ≤ 1000 * 8 := Int.mul_le_mul (by omega) (by omega) (by omega) (by omega)
    omega
  have hr := run_make (P := Try.prog) w 59 64 i0 z (by kernel_rfl) q1 q2 .i64 .i64 (n : Int) (n : Int) (by omega) (by omega) hb (by omega)
  rw [q3, q5] at hr
  simp only [Int.toNat_natCast] at hr
  have hm := made_two x w.heap.size n h1 h2
  have hl : (rv (r0 x w.heap.size) (S0 n) n).length = n * 2 := rv_len _ _ _
  have hz : (madeCells #[.int .i64 0, .slice none 0 0] (n * 2)).size = n * 2 := by
    have := congrArg List.length hm
    rw [hl] at this; simpa using this
  refine ⟨_, hr, Rw.of_row (heap_alloc_new w _) (Nat.le_refl _) (by unfold maxLen; omega) hz (by rw [List.take_of_length_le (by simp [hz]), hm])⟩
theorem rnew_ok (n : Nat) (w : World) (h1 : 1 ≤ n) (h2 : n ≤ 8) : Calls Try.prog 20 #[.int .i64 (n : Int)] w fun e w' => ∃ r, e = .returned (.tuple #[.pointer (some ⟨r.x, 0, none⟩), .int .i64 0]) ∧ RR w' r (S0 n) ∧ Below w.heap.size w w' ∧ ∀ k, r.foot n k → w.heap.size ≤ k := by
  obtain ⟨cur, m1, m2⟩ := make_harts n h1 h2 w (w.heap.size + 1)
  have HM := Lib.hid m2
  clear m2
  go_enter Try.func20, Try.ntmps20
  go_wp2_with fail
  go_ret2
  have hs : (w.alloc (.cells cur 64)).heap.size = w.heap.size + 1 := by simp
  refine ⟨r0 (w.heap.size + 1) w.heap.size, by first | rfl | (simp [r0]; done), ⟨h1, h2, ?_, HM.out.below ((Below.refl _ _).alloc (Nat.le_refl _) _), fun h _ => Rw.nil _ _ _, by simp [r0], fun h _ => ⟨by simp [r0, blkOf], by simp [r0, blkOf]⟩⟩, ((Below.refl _ _).alloc (Nat.le_refl _) _).alloc (by simp) _, fun k hk => ?_⟩
  · have := Blk.of_heap (heap_alloc_new (w.alloc (.cells cur 64)) (.cells #[.slice (some ⟨w.heap.size, 0, none⟩) n n] 61))
    rw [hs] at this; exact this
  · rcases hk with e | e | ⟨h, _, e⟩
    · rw [e]; simp [r0]
    · rw [e]; simp [r0]
    · simp [r0, blkOf] at e
theorem rnew_bad (n : Int) (w : World) (hn : ¬ (1 ≤ n ∧ n ≤ 8)) : Calls Try.prog 20 #[.int .i64 n] w fun e w' => e = .returned (.tuple #[.pointer none, .int .i64 1]) ∧ w = w' := by
  by_cases h1 : n < 1
  · clear hn
    go_enter Try.func20, Try.ntmps20
    go_wp2_with fail
    go_ret2
    exact ⟨by first | rfl | simp, rfl⟩
  · have h2 : 8 < n := by omega
    clear hn
    go_enter Try.func20, Try.ntmps20
    go_wp2_with fail
    go_ret2
    exact ⟨by first | rfl | simp, rfl⟩
end Go.Proofs.Ytphikmdgdbdaiaa
