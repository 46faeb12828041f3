import Derived.Test.YtngjpokbjnjodaaRefT3
import Derived.Deep.QuietTactic
import Derived.BigQuiet
/- The reference table: Needs, Translate. -/
namespace Go.Proofs.Ytngjpokbjnjodaa
open Go.RowKit Go.BigFrame
set_option linter.unusedVariables false
set_option linter.unusedSimpArgs false
attribute [local go_sem] szIs_lit row_at row_past row_alloc nf_alloc row_set nf_set row_cell nf_cell row_drew nf_drew row_drewN nf_drewN cell_setRow frozen_setRow nlt1 nlt2 nlt3 nlt4 nne1 nne2 nne3 nen1 nen2 nen3
attribute [local go_sem] by_get by_set
section
variable {w w' : World} {x : Nat} {F root : Int} {sl : Value} {E : Nat → Int} {A : Option Addr} {n c : Nat} {l : List (Nat × Nat)}
theorem rneeds_no (p : Int) (hp : ¬ (0 ≤ p ∧ p < 256)) (v : Value) (w : World) : Calls Try.prog 57 #[v, .int .i64 p] w fun r w' => r = .returned (.bool false) ∧ w = w' := by
  have HP := Lib.hid (rpage_no p hp w)
  clear hp
  go_enter Try.func57, Try.ntmps57
  go_wp2_with fail
  refine HP.out.mono ?_
  rintro r w' ⟨rfl, rfl⟩
  go_wp2
  go_ret
  exact ⟨by first | rfl | simp, rfl⟩
theorem rneeds_ok (h : Blk w x (rrow F root (.slice A n c) E)) (hr : Rw w 100 2 A n c (lv l)) (hl : l.length = n) (hn : n ≤ 1000) (p : Int) (h0 : 0 ≤ p) (h1 : p < 256) : Calls Try.prog 57 #[.pointer (some ⟨x, 0, none⟩), .int .i64 p] w fun r w' => r = .returned (.bool (!hasW l (p / 64))) ∧ w = w' := by
  have HP := Lib.hid (rpage_yes p ⟨h0, h1⟩ w)
  have HH := Lib.hid (rhas_ok h hr hl hn p h0 h1)
  clear h hr hl
  generalize hasW l (p / 64) = hw at *
  go_enter Try.func57, Try.ntmps57
  go_wp2_with fail
  refine HP.out.mono ?_
  rintro r w' ⟨rfl, rfl⟩
  go_wp2_with fail
  refine HH.out.mono ?_
  rintro r w' ⟨rfl, rfl⟩
  go_wp2
  go_ret
  exact ⟨by first | rfl | simp, rfl⟩
theorem rtrans_far (a : Int) (ha : 65536 ≤ a) (c : Bool) (v : Value) (w : World) : Calls Try.prog 58 #[v, .int .u32 a, .bool c] w fun r w' => r = .returned (.tuple #[.int .i64 0, .int .i64 51]) ∧ w = w' := by
  go_enter Try.func58, Try.ntmps58
  go_wp2
  go_ret2
  exact ⟨by first | rfl | simp, rfl⟩
set_option maxRecDepth 100000 in
theorem rtrans_zero (h : Blk w x (rrow F root sl E)) (a : Int) (ha0 : 0 ≤ a) (ha : a < 65536) (y : Int) (hy : E (a / 256).toNat = y) (c : Bool) (hz : y = 0) : Calls Try.prog 58 #[.pointer (some ⟨x, 0, none⟩), .int .u32 a, .bool c] w fun r w' => r = .returned (.tuple #[.int .i64 0, .int .i64 51]) ∧ w = w' := by
  have c0 : w.cell? ⟨x, 3 + (a / 256).toNat, none⟩ = some (.int .u32 y) := by rw [← hy]; exact (h.all.2.2.1 _).trans (rrow_get _ _ _ _ _ (by omega))
  obtain ⟨q, hq⟩ : ∃ q, (a / 256).toNat = q := ⟨_, rfl⟩
  rw [hq] at c0
  have hq2 : a / 256 = (q : Int) := by omega
  have hq3 : q < 256 := by omega
  have k1 : (y == 0) = true := by simp [hz]
  clear hz
  clear h hy hq
  go_enter Try.func58, Try.ntmps58
  go_wp2_with fail
  go_wp2
  go_ret2
  exact ⟨by first | rfl | simp, rfl⟩
set_option maxRecDepth 100000 in
theorem rtrans_read (h : Blk w x (rrow F root sl E)) (a : Int) (ha0 : 0 ≤ a) (ha : a < 65536) (y : Int) (hy : E (a / 256).toNat = y) (hb : 0 ≤ y ∧ y ≤ 4294967295) (hz : ¬ y = 0) : Calls Try.prog 58 #[.pointer (some ⟨x, 0, none⟩), .int .u32 a, .bool false] w fun r w' => r = .returned (.tuple #[.int .i64 (y / 256 * 256 + a % 256), .int .i64 0]) ∧ w = w' := by
  have c0 : w.cell? ⟨x, 3 + (a / 256).toNat, none⟩ = some (.int .u32 y) := by rw [← hy]; exact (h.all.2.2.1 _).trans (rrow_get _ _ _ _ _ (by omega))
  obtain ⟨q, hq⟩ : ∃ q, (a / 256).toNat = q := ⟨_, rfl⟩
  rw [hq] at c0
  have hq2 : a / 256 = (q : Int) := by omega
  have hq3 : q < 256 := by omega
  have k1 : (y == 0) = false := by simpa using hz
  clear hz
  obtain ⟨x0, x1⟩ := hb
  clear h hy hq
  go_enter Try.func58, Try.ntmps58
  go_wp2_with fail
  refine (rframe_ok y x0 x1 w).mono ?_
  rintro r w' ⟨rfl, rfl⟩
  go_wp2
  go_ret2
  exact ⟨by first | rfl | simp, rfl⟩
set_option maxRecDepth 100000 in
theorem rtrans_ro (h : Blk w x (rrow F root sl E)) (a : Int) (ha0 : 0 ≤ a) (ha : a < 65536) (y : Int) (hy : E (a / 256).toNat = y) (hb : 0 ≤ y ∧ y ≤ 4294967295) (hz : ¬ y = 0) (hw : (y % 256 / 2 % 2 == 0) = true) : Calls Try.prog 58 #[.pointer (some ⟨x, 0, none⟩), .int .u32 a, .bool true] w fun r w' => r = .returned (.tuple #[.int .i64 0, .int .i64 51]) ∧ w = w' := by
  have c0 : w.cell? ⟨x, 3 + (a / 256).toNat, none⟩ = some (.int .u32 y) := by rw [← hy]; exact (h.all.2.2.1 _).trans (rrow_get _ _ _ _ _ (by omega))
  obtain ⟨q, hq⟩ : ∃ q, (a / 256).toNat = q := ⟨_, rfl⟩
  rw [hq] at c0
  have hq2 : a / 256 = (q : Int) := by omega
  have hq3 : q < 256 := by omega
  have k1 : (y == 0) = false := by simpa using hz
  clear hz
  obtain ⟨x0, x1⟩ := hb
  clear h hy hq
  go_enter Try.func58, Try.ntmps58
  go_wp2_with fail
  refine (rflags_ok y x0 x1 w).mono ?_
  rintro r w' ⟨rfl, rfl⟩
  go_wp2_with fail
  go_wp2
  go_ret2
  exact ⟨by first | rfl | simp, rfl⟩
set_option maxRecDepth 100000 in
theorem rtrans_write (h : Blk w x (rrow F root sl E)) (a : Int) (ha0 : 0 ≤ a) (ha : a < 65536) (y : Int) (hy : E (a / 256).toNat = y) (hb : 0 ≤ y ∧ y ≤ 4294967295) (hz : ¬ y = 0) (hw : (y % 256 / 2 % 2 == 0) = false) : Calls Try.prog 58 #[.pointer (some ⟨x, 0, none⟩), .int .u32 a, .bool true] w fun r w' => r = .returned (.tuple #[.int .i64 (y / 256 * 256 + a % 256), .int .i64 0]) ∧ w = w' := by
  have c0 : w.cell? ⟨x, 3 + (a / 256).toNat, none⟩ = some (.int .u32 y) := by rw [← hy]; exact (h.all.2.2.1 _).trans (rrow_get _ _ _ _ _ (by omega))
  obtain ⟨q, hq⟩ : ∃ q, (a / 256).toNat = q := ⟨_, rfl⟩
  rw [hq] at c0
  have hq2 : a / 256 = (q : Int) := by omega
  have hq3 : q < 256 := by omega
  have k1 : (y == 0) = false := by simpa using hz
  clear hz
  obtain ⟨x0, x1⟩ := hb
  clear h hy hq
  go_enter Try.func58, Try.ntmps58
  go_wp2_with fail
  refine (rflags_ok y x0 x1 w).mono ?_
  rintro r w' ⟨rfl, rfl⟩
  go_wp2_with fail
  refine (rframe_ok y x0 x1 w).mono ?_
  rintro r w' ⟨rfl, rfl⟩
  go_wp2
  go_ret2
  exact ⟨by first | rfl | simp, rfl⟩
end
end Go.Proofs.Ytngjpokbjnjodaa
