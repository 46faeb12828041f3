import Derived.Test.YtdpbfmookhgilaaBytes8
import Derived.Test.YtdpbfmookhgilaaPages
import Derived.Deep.QuietTactic
import Derived.BigQuiet
import Derived.Deep.LoopGhost
/- right, there, Missing. -/
namespace Go.Proofs.Ytdpbfmookhgilaa
open Go.RowKit Go.BigFrame
set_option linter.unusedVariables false
set_option linter.unusedSimpArgs false
attribute [local go_sem] szIs_lit row_at row_past row_alloc nf_alloc row_set nf_set row_cell nf_cell row_drew nf_drew row_drewN nf_drewN cell_setRow frozen_setRow nlt1 nlt2 nlt3 nlt4 nne1 nne2 nne3 nen1 nen2 nen3
attribute [local go_sem] by_get by_set
section
variable {w w' : World} {g b F t root : Nat} {L : Nat → Option Nat} {E : Nat → Int}
theorem right_ok (n : Int) (h0 : 0 ≤ n) (h1 : n ≤ 1024) (w : World) : Calls Try.prog 15 #[.int .i64 n] w fun r w' => r = .returned (.bool true) ∧ w = w' := by
  go_enter Try.func15, Try.ntmps15
  go_wp2
  go_ret
  exact ⟨by first | rfl | simp, rfl⟩
theorem trans_good (h : TS w g b F t root L E) (a f : Int) (ha : 0 ≤ a ∧ a < 65536) (hf : 0 ≤ f ∧ f < 16777216) (hE : E (a / 256).toNat = f * 256 + 3) (c : Bool) : Calls Try.prog 33 #[.pointer (some ⟨t, 0, none⟩), .int .u32 a, .bool c] w fun r w' => r = .returned (.tuple #[.int .i64 (f * 256 + a % 256), .int .i64 0]) ∧ Below w.heap.size w w' := by
  have he : entA E a = f * 256 + 3 := by unfold entA; rw [if_pos (by omega), hE]
  have e1 : entA E a / 256 = f := by omega
  have e2 : entA E a % 256 = 3 := by omega
  cases c with
  | false =>
    have := trans_read h a ⟨ha.1, by omega⟩ (by omega) (by omega)
    rw [e1] at this; exact this
  | true =>
    have := trans_write h a ⟨ha.1, by omega⟩ (by omega) (by omega) (by rw [e2]; decide)
    rw [e1] at this; exact this
theorem shl8 (p : Int) (h0 : 0 ≤ p) (h1 : p < 256) : p * 256 % 4294967296 = p * 256 := by omega
theorem there_ok (h : TS w g b F t root L E) (p : Int) (h0 : 0 ≤ p) (hp : p < 256) (f : Int) (hf : 0 ≤ f ∧ f < 16777216) (hE : E p.toNat = f * 256 + 3) (c : Bool) : Calls Try.prog 32 #[.pointer (some ⟨t, 0, none⟩), .int .i64 p, .bool c] w fun r w' => r = .returned (.bool true) ∧ Below w.heap.size w w' := by
  have hq : (p * 256 / 256).toNat = p.toNat := by omega
  have HT := Lib.hid (trans_good h (p * 256) f (by omega) hf (by rw [hq]; exact hE) c)
  have hm : (p * 256) % 256 = 0 := by omega
  rw [hm] at HT
  clear h hE hq hm
  go_enter Try.func32, Try.ntmps32
  go_wp2_with fail
  refine HT.out.mono ?_
  rintro r w1 ⟨rfl, hb⟩
  go_wp2_with fail
  go_ret
  exact ⟨by first | rfl | simp, hb⟩
theorem there_no (h : TS w g b F t root L E) (p : Int) (h0 : 0 ≤ p) (hp : p < 256) (hE : E p.toNat = 0) (c : Bool) : Calls Try.prog 32 #[.pointer (some ⟨t, 0, none⟩), .int .i64 p, .bool c] w fun r w' => r = .returned (.bool false) ∧ Below w.heap.size w w' := by
  have hq : (p * 256 / 256).toNat = p.toNat := by omega
  have HT := Lib.hid (trans_zero h (p * 256) (by omega) c (by unfold entA; rw [if_pos (by omega), hq]; exact hE))
  clear h hE hq
  go_enter Try.func32, Try.ntmps32
  go_wp2_with fail
  refine HT.out.mono ?_
  rintro r w1 ⟨rfl, hb⟩
  go_wp2_with fail
  go_ret
  exact ⟨by first | rfl | simp, hb⟩
set_option maxHeartbeats 2000000 in
theorem missing_all (h : TS w g b F t root L E) (a n : Int) (ha : 0 ≤ a) (ha2 : a ≤ 4294967295) (c : Bool) (hG : ∀ i, i < cnt a n → ∀ w, TS w g b F t root L E → Calls Try.prog 32 #[.pointer (some ⟨t, 0, none⟩), .int .i64 (a / 256 + (i : Int)), .bool c] w fun r w' => r = .returned (.bool true) ∧ Below w.heap.size w w') : Calls Try.prog 16 #[.pointer (some ⟨t, 0, none⟩), .int .u32 a, .int .i64 n, .bool c] w fun r w' => r = .returned (.tuple #[.int .i64 0, .bool false]) ∧ Below w.heap.size w w' := by
  have HT := Lib.hid h
  have HP := Lib.hid (pages_ok a n ha ha2)
  have HG := Lib.hid hG
  have hk6 := cnt_le a n ha
  clear h hG ha ha2
  go_enter Try.func16, Try.ntmps16
  go_wp2_with fail
  refine (HP.out _).mono ?_
  rintro r w1 ⟨⟨A, cc, rfl, hr⟩, hb⟩
  have HR := Lib.hid hr
  have HB := Lib.hid hb
  have HT1 := Lib.hid (HT.out.below hb)
  clear hr hb HP
  generalize cnt a n = k at *
  generalize hqq : a / 256 = q at *
  have HQQ := Lib.hid hqq
  clear hqq
  go_wp2_with fail
  go_loopg [18] k (fun m i_ wr => ∃ i : Nat, i_ = .int .i64 (i : Int) ∧ m = k - i ∧ i ≤ k ∧ Below w1.heap.size w1 wr)
  case atStart => exact ⟨0, rfl, rfl, by omega, Below.refl _ _⟩
  case round =>
    obtain ⟨i, rfl, hm, hi, hb⟩ := hrel
    have HM := Lib.hid hm
    have HB2 := Lib.hid hb
    clear hm hb
    by_cases hlt : i < k
    · have hik : i < k := by omega
      obtain ⟨b1, rfl⟩ := HR.out.some_ (by omega)
      have d1 : wr.cell? ⟨b1, i, none⟩ = some (.int .i64 (q + (i : Int))) := ((HR.out.below HB2.out).cell i (by omega)).trans (up_get q k i hik)
      have HC := Lib.hid (HG.out i hlt wr (HT1.out.below HB2.out))
      generalize q + (i : Int) = y at *
      go_wp2_with fail
      refine HC.out.mono ?_
      rintro r w2 ⟨rfl, hb⟩
      have HB3 := Lib.hid (HB2.out.trans (Below.mono hb HB2.out.size))
      clear hb d1
      go_wp2_with fail
      go_roundg (k - (i + 1))
      case measure => have := HM.out; omega
      case rel => exact ⟨i + 1, by go_num, rfl, by omega, HB3.out⟩
    · obtain rfl : i = k := by omega
      go_wp2_with fail
      go_ret2
      exact ⟨by first | rfl | simp, HB.out.trans (Below.mono HB2.out HB.out.size)⟩
set_option maxHeartbeats 2000000 in
theorem missing_at (h : TS w g b F t root L E) (a n : Int) (ha : 0 ≤ a) (ha2 : a ≤ 4294967295) (c : Bool) (j : Nat) (hj : j < cnt a n) (hG : ∀ i, i < j → ∀ w, TS w g b F t root L E → Calls Try.prog 32 #[.pointer (some ⟨t, 0, none⟩), .int .i64 (a / 256 + (i : Int)), .bool c] w fun r w' => r = .returned (.bool true) ∧ Below w.heap.size w w') (hN : ∀ w, TS w g b F t root L E → Calls Try.prog 32 #[.pointer (some ⟨t, 0, none⟩), .int .i64 (a / 256 + (j : Int)), .bool c] w fun r w' => r = .returned (.bool false) ∧ Below w.heap.size w w') : Calls Try.prog 16 #[.pointer (some ⟨t, 0, none⟩), .int .u32 a, .int .i64 n, .bool c] w fun r w' => r = .returned (.tuple #[.int .i64 (a / 256 + (j : Int)), .bool true]) ∧ Below w.heap.size w w' := by
  have HT := Lib.hid h
  have HP := Lib.hid (pages_ok a n ha ha2)
  have HG := Lib.hid hG
  have hk6 := cnt_le a n ha
  have HN := Lib.hid hN
  clear h hG ha ha2 hN
  go_enter Try.func16, Try.ntmps16
  go_wp2_with fail
  refine (HP.out _).mono ?_
  rintro r w1 ⟨⟨A, cc, rfl, hr⟩, hb⟩
  have HR := Lib.hid hr
  have HB := Lib.hid hb
  have HT1 := Lib.hid (HT.out.below hb)
  clear hr hb HP
  generalize cnt a n = k at *
  generalize hqq : a / 256 = q at *
  have HQQ := Lib.hid hqq
  clear hqq
  go_wp2_with fail
  go_loopg [18] k (fun m i_ wr => ∃ i : Nat, i_ = .int .i64 (i : Int) ∧ m = k - i ∧ i ≤ j ∧ Below w1.heap.size w1 wr)
  case atStart => exact ⟨0, rfl, rfl, by omega, Below.refl _ _⟩
  case round =>
    obtain ⟨i, rfl, hm, hi, hb⟩ := hrel
    have HM := Lib.hid hm
    have HB2 := Lib.hid hb
    clear hm hb
    by_cases hlt : i < j
    · have hik : i < k := by omega
      obtain ⟨b1, rfl⟩ := HR.out.some_ (by omega)
      have d1 : wr.cell? ⟨b1, i, none⟩ = some (.int .i64 (q + (i : Int))) := ((HR.out.below HB2.out).cell i (by omega)).trans (up_get q k i hik)
      have HC := Lib.hid (HG.out i hlt wr (HT1.out.below HB2.out))
      generalize q + (i : Int) = y at *
      go_wp2_with fail
      refine HC.out.mono ?_
      rintro r w2 ⟨rfl, hb⟩
      have HB3 := Lib.hid (HB2.out.trans (Below.mono hb HB2.out.size))
      clear hb d1
      go_wp2_with fail
      go_roundg (k - (i + 1))
      case measure => have := HM.out; omega
      case rel => exact ⟨i + 1, by go_num, rfl, by omega, HB3.out⟩
    · obtain rfl : i = j := by omega
      obtain ⟨b1, rfl⟩ := HR.out.some_ (by omega)
      have d1 : wr.cell? ⟨b1, i, none⟩ = some (.int .i64 (q + (i : Int))) := ((HR.out.below HB2.out).cell i (by omega)).trans (up_get q k i hj)
      have HC := Lib.hid (HN.out wr (HT1.out.below HB2.out))
      generalize hy : q + (i : Int) = y at *
      have HY := Lib.hid hy
      clear hy
      go_wp2_with fail
      refine HC.out.mono ?_
      rintro r w2 ⟨rfl, hb⟩
      have HB3 := Lib.hid (HB2.out.trans (Below.mono hb HB2.out.size))
      clear hb d1
      go_wp2_with fail
      go_ret2
      exact ⟨by rw [← HY.out, ← HQQ.out]; first | rfl | simp, HB.out.trans (Below.mono HB3.out HB.out.size)⟩
end
end Go.Proofs.Ytdpbfmookhgilaa
