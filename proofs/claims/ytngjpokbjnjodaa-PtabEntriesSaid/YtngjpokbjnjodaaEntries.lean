import Derived.Test.YtngjpokbjnjodaaLives
import Derived.Deep.QuietTactic
import Derived.BigQuiet
/- PtabEntries. -/
namespace Go.Proofs.Ytngjpokbjnjodaa
open Go.RowKit Go.BigFrame
set_option linter.unusedVariables false
set_option linter.unusedSimpArgs false
attribute [local go_sem] szIs_lit row_at row_past row_alloc nf_alloc row_set nf_set row_cell nf_cell row_drew nf_drew row_drewN nf_drewN cell_setRow frozen_setRow nlt1 nlt2 nlt3 nlt4 nne1 nne2 nne3 nen1 nen2 nen3
attribute [local go_sem] by_get by_set
set_option maxHeartbeats 4000000 in
set_option maxRecDepth 20000 in
theorem entries_walk (a c e : Int) (h0 : 0 ≤ e) (h1 : e ≤ 4294967295) (w : World) : Calls Try.prog 3 #[.int .i64 a, .int .i64 c, .int .u32 e] w fun r w' => r = .returned (.bool true) ∧ Below w.heap.size w w' := by
  have ha : -16777216 < a.tmod 16777216 ∧ a.tmod 16777216 < 16777216 := ⟨Int.lt_tmod_of_pos a (by omega), Int.tmod_lt_of_pos a (by omega)⟩
  have hc : -256 < c.tmod 256 ∧ c.tmod 256 < 256 := ⟨Int.lt_tmod_of_pos c (by omega), Int.tmod_lt_of_pos c (by omega)⟩
  have HL := Lib.hid (lives_ok w)
  obtain ⟨x, hx⟩ : ∃ x, a.tmod 16777216 = x := ⟨_, rfl⟩
  obtain ⟨y, hy⟩ : ∃ y, c.tmod 256 = y := ⟨_, rfl⟩
  rw [hx] at ha
  rw [hy] at hc
  obtain ⟨a1, a2⟩ := ha
  obtain ⟨c1, c2⟩ := hc
  by_cases q1 : x < 0
  · have z1 : x < 0 := by omega
    clear q1
    by_cases q2 : y < 0
    · have z2 : y < 0 := by omega
      clear q2
      go_enter Try.func3, Try.ntmps3
      go_wp2_with fail
      refine (pack_ok (x + 16777216) (y + 256) (by omega) (by omega) (by omega) (by omega) w).mono ?_
      rintro r w' ⟨rfl, rfl⟩
      go_wp2_with fail
      refine HL.out.mono ?_
      rintro r w1 ⟨rfl, hb1⟩
      have HB := Lib.hid hb1
      clear hb1 HL
      go_wp2_with fail
      refine (rpack_ok (x + 16777216) (y + 256) (by omega) (by omega) (by omega) (by omega) w1).mono ?_
      rintro r w' ⟨rfl, rfl⟩
      go_wp2_with fail
      refine (frame_ok ((x + 16777216) * 256 + (y + 256)) (by omega) (by omega) w1).mono ?_
      rintro r w' ⟨rfl, rfl⟩
      rw [show ((x + 16777216) * 256 + (y + 256)) / 256 = (x + 16777216) by omega]
      go_wp2_with fail
      refine (flags_ok ((x + 16777216) * 256 + (y + 256)) (by omega) (by omega) w1).mono ?_
      rintro r w' ⟨rfl, rfl⟩
      rw [show ((x + 16777216) * 256 + (y + 256)) % 256 = (y + 256) by omega]
      go_wp2_with fail
      refine (frame_ok e (by omega) (by omega) w1).mono ?_
      rintro r w' ⟨rfl, rfl⟩
      go_wp2_with fail
      refine (rframe_ok e (by omega) (by omega) w1).mono ?_
      rintro r w' ⟨rfl, rfl⟩
      go_wp2_with fail
      refine (flags_ok e (by omega) (by omega) w1).mono ?_
      rintro r w' ⟨rfl, rfl⟩
      go_wp2_with fail
      refine (rflags_ok e (by omega) (by omega) w1).mono ?_
      rintro r w' ⟨rfl, rfl⟩
      go_wp2_with fail
      refine (frame_ok e (by omega) (by omega) w1).mono ?_
      rintro r w' ⟨rfl, rfl⟩
      go_wp2_with fail
      refine (flags_ok e (by omega) (by omega) w1).mono ?_
      rintro r w' ⟨rfl, rfl⟩
      go_wp2_with fail
      refine (pack_ok (e / 256) (e % 256) (by omega) (by omega) (by omega) (by omega) w1).mono ?_
      rintro r w' ⟨rfl, rfl⟩
      rw [show e / 256 * 256 + e % 256 = e by omega]
      go_wp2
      go_ret
      exact ⟨by first | rfl | simp, HB.out⟩
    · have z2 : 0 ≤ y := by omega
      clear q2
      go_enter Try.func3, Try.ntmps3
      go_wp2_with fail
      refine (pack_ok (x + 16777216) y (by omega) (by omega) (by omega) (by omega) w).mono ?_
      rintro r w' ⟨rfl, rfl⟩
      go_wp2_with fail
      refine HL.out.mono ?_
      rintro r w1 ⟨rfl, hb1⟩
      have HB := Lib.hid hb1
      clear hb1 HL
      go_wp2_with fail
      refine (rpack_ok (x + 16777216) y (by omega) (by omega) (by omega) (by omega) w1).mono ?_
      rintro r w' ⟨rfl, rfl⟩
      go_wp2_with fail
      refine (frame_ok ((x + 16777216) * 256 + y) (by omega) (by omega) w1).mono ?_
      rintro r w' ⟨rfl, rfl⟩
      rw [show ((x + 16777216) * 256 + y) / 256 = (x + 16777216) by omega]
      go_wp2_with fail
      refine (flags_ok ((x + 16777216) * 256 + y) (by omega) (by omega) w1).mono ?_
      rintro r w' ⟨rfl, rfl⟩
      rw [show ((x + 16777216) * 256 + y) % 256 = y by omega]
      go_wp2_with fail
      refine (frame_ok e (by omega) (by omega) w1).mono ?_
      rintro r w' ⟨rfl, rfl⟩
      go_wp2_with fail
      refine (rframe_ok e (by omega) (by omega) w1).mono ?_
      rintro r w' ⟨rfl, rfl⟩
      go_wp2_with fail
      refine (flags_ok e (by omega) (by omega) w1).mono ?_
      rintro r w' ⟨rfl, rfl⟩
      go_wp2_with fail
      refine (rflags_ok e (by omega) (by omega) w1).mono ?_
      rintro r w' ⟨rfl, rfl⟩
      go_wp2_with fail
      refine (frame_ok e (by omega) (by omega) w1).mono ?_
      rintro r w' ⟨rfl, rfl⟩
      go_wp2_with fail
      refine (flags_ok e (by omega) (by omega) w1).mono ?_
      rintro r w' ⟨rfl, rfl⟩
      go_wp2_with fail
      refine (pack_ok (e / 256) (e % 256) (by omega) (by omega) (by omega) (by omega) w1).mono ?_
      rintro r w' ⟨rfl, rfl⟩
      rw [show e / 256 * 256 + e % 256 = e by omega]
      go_wp2
      go_ret
      exact ⟨by first | rfl | simp, HB.out⟩
  · have z1 : 0 ≤ x := by omega
    clear q1
    by_cases q2 : y < 0
    · have z2 : y < 0 := by omega
      clear q2
      go_enter Try.func3, Try.ntmps3
      go_wp2_with fail
      refine (pack_ok x (y + 256) (by omega) (by omega) (by omega) (by omega) w).mono ?_
      rintro r w' ⟨rfl, rfl⟩
      go_wp2_with fail
      refine HL.out.mono ?_
      rintro r w1 ⟨rfl, hb1⟩
      have HB := Lib.hid hb1
      clear hb1 HL
      go_wp2_with fail
      refine (rpack_ok x (y + 256) (by omega) (by omega) (by omega) (by omega) w1).mono ?_
      rintro r w' ⟨rfl, rfl⟩
      go_wp2_with fail
      refine (frame_ok (x * 256 + (y + 256)) (by omega) (by omega) w1).mono ?_
      rintro r w' ⟨rfl, rfl⟩
      rw [show (x * 256 + (y + 256)) / 256 = x by omega]
      go_wp2_with fail
      refine (flags_ok (x * 256 + (y + 256)) (by omega) (by omega) w1).mono ?_
      rintro r w' ⟨rfl, rfl⟩
      rw [show (x * 256 + (y + 256)) % 256 = (y + 256) by omega]
      go_wp2_with fail
      refine (frame_ok e (by omega) (by omega) w1).mono ?_
      rintro r w' ⟨rfl, rfl⟩
      go_wp2_with fail
      refine (rframe_ok e (by omega) (by omega) w1).mono ?_
      rintro r w' ⟨rfl, rfl⟩
      go_wp2_with fail
      refine (flags_ok e (by omega) (by omega) w1).mono ?_
      rintro r w' ⟨rfl, rfl⟩
      go_wp2_with fail
      refine (rflags_ok e (by omega) (by omega) w1).mono ?_
      rintro r w' ⟨rfl, rfl⟩
      go_wp2_with fail
      refine (frame_ok e (by omega) (by omega) w1).mono ?_
      rintro r w' ⟨rfl, rfl⟩
      go_wp2_with fail
      refine (flags_ok e (by omega) (by omega) w1).mono ?_
      rintro r w' ⟨rfl, rfl⟩
      go_wp2_with fail
      refine (pack_ok (e / 256) (e % 256) (by omega) (by omega) (by omega) (by omega) w1).mono ?_
      rintro r w' ⟨rfl, rfl⟩
      rw [show e / 256 * 256 + e % 256 = e by omega]
      go_wp2
      go_ret
      exact ⟨by first | rfl | simp, HB.out⟩
    · have z2 : 0 ≤ y := by omega
      clear q2
      go_enter Try.func3, Try.ntmps3
      go_wp2_with fail
      refine (pack_ok x y (by omega) (by omega) (by omega) (by omega) w).mono ?_
      rintro r w' ⟨rfl, rfl⟩
      go_wp2_with fail
      refine HL.out.mono ?_
      rintro r w1 ⟨rfl, hb1⟩
      have HB := Lib.hid hb1
      clear hb1 HL
      go_wp2_with fail
      refine (rpack_ok x y (by omega) (by omega) (by omega) (by omega) w1).mono ?_
      rintro r w' ⟨rfl, rfl⟩
      go_wp2_with fail
      refine (frame_ok (x * 256 + y) (by omega) (by omega) w1).mono ?_
      rintro r w' ⟨rfl, rfl⟩
      rw [show (x * 256 + y) / 256 = x by omega]
      go_wp2_with fail
      refine (flags_ok (x * 256 + y) (by omega) (by omega) w1).mono ?_
      rintro r w' ⟨rfl, rfl⟩
      rw [show (x * 256 + y) % 256 = y by omega]
      go_wp2_with fail
      refine (frame_ok e (by omega) (by omega) w1).mono ?_
      rintro r w' ⟨rfl, rfl⟩
      go_wp2_with fail
      refine (rframe_ok e (by omega) (by omega) w1).mono ?_
      rintro r w' ⟨rfl, rfl⟩
      go_wp2_with fail
      refine (flags_ok e (by omega) (by omega) w1).mono ?_
      rintro r w' ⟨rfl, rfl⟩
      go_wp2_with fail
      refine (rflags_ok e (by omega) (by omega) w1).mono ?_
      rintro r w' ⟨rfl, rfl⟩
      go_wp2_with fail
      refine (frame_ok e (by omega) (by omega) w1).mono ?_
      rintro r w' ⟨rfl, rfl⟩
      go_wp2_with fail
      refine (flags_ok e (by omega) (by omega) w1).mono ?_
      rintro r w' ⟨rfl, rfl⟩
      go_wp2_with fail
      refine (pack_ok (e / 256) (e % 256) (by omega) (by omega) (by omega) (by omega) w1).mono ?_
      rintro r w' ⟨rfl, rfl⟩
      rw [show e / 256 * 256 + e % 256 = e by omega]
      go_wp2
      go_ret
      exact ⟨by first | rfl | simp, HB.out⟩
end Go.Proofs.Ytngjpokbjnjodaa
