import Derived.Laws.BitsLemmas
import Derived.Lib.EndianBits
import Derived.RowKit
/- Bits and numbers: masks, joins, signs, shifts. -/
namespace Go.Proofs.Ytjmdikabikgjhaa
open Go.RowKit
theorem mask32 (i : Nat) (hi : i ≤ 32) (x : Int) (h0 : 0 ≤ x) (h1 : x ≤ 4294967295) : bits .and .u32 x (2 ^ i - 1) = x % 2 ^ i := bits_mask .u32 32 (by decide) wraps_u32 i hi x h0 (by omega)
theorem and255 (x : Int) (h0 : 0 ≤ x) (h1 : x ≤ 4294967295) : bits .and .u32 x 255 = x % 256 := mask32 8 (by decide) x h0 h1
theorem and15 (x : Int) (h0 : 0 ≤ x) (h1 : x ≤ 4294967295) : bits .and .u32 x 15 = x % 16 := mask32 4 (by decide) x h0 h1
theorem and31 (x : Int) (h0 : 0 ≤ x) (h1 : x ≤ 4294967295) : bits .and .u32 x 31 = x % 32 := mask32 5 (by decide) x h0 h1
theorem and65535 (x : Int) (h0 : 0 ≤ x) (h1 : x ≤ 4294967295) : bits .and .u32 x 65535 = x % 65536 := mask32 16 (by decide) x h0 h1
theorem wraps_i64 (n : Int) (h₀ : 0 ≤ n) (h₁ : n < 2 ^ 63) : IntKind.i64.wrap n = n := by rw [IntKind.wrap_i64]; omega
theorem and15i (k : Nat) (h : k < 16) : bits .and .i64 (k : Int) 15 = (k : Int) := by
  have := bits_mask .i64 63 (by decide) wraps_i64 4 (by decide) (k : Int) (by omega) (by omega)
  have e : bits .and .i64 (k : Int) 15 = (k : Int) % 16 := this
  rw [e]; omega
theorem or12 (y x : Int) (hy₀ : 0 ≤ y) (hy : y < 4096) (hx₀ : 0 ≤ x) (hx : x % 4096 = 0) (hx₁ : x < 4294967296) : bits .or .u32 y x = y + x :=
  bits_join_low .u32 32 (by decide) wraps_u32 12 y x hy₀ hy (by omega) hx₀ hx hx₁
theorem i16_wrap (n : Int) : IntKind.i16.wrap n = (n + 32768) % 65536 - 32768 := by
  simp only [IntKind.wrap, IntKind.bits, IntKind.signed]; simp; split <;> omega
end Go.Proofs.Ytjmdikabikgjhaa
namespace Go.Proofs.Ytjmdikabikgjhaa
open Go.RowKit
theorem bits_rng (op : BinOp) (a b : Int) : 0 ≤ bits op .u32 a b ∧ bits op .u32 a b ≤ 4294967295 := by
  unfold bits
  rw [IntKind.wrap_u32]
  omega
/-! Shifts by one, again and again -/
theorem shl_step (a : Int) (k : Nat) : a * 2 ^ k % 4294967296 * 2 % 4294967296 = a * 2 ^ (k + 1) % 4294967296 := by
  rw [Int.pow_succ, ← Int.mul_assoc, Int.mul_emod (a * 2 ^ k) 2, Int.mul_emod (a * 2 ^ k % 4294967296) 2, Int.emod_emod]
theorem shr_step (a : Int) (k : Nat) : a / 2 ^ k / 2 = a / 2 ^ (k + 1) := by
  rw [Int.pow_succ, Int.ediv_ediv_of_nonneg (Int.pow_nonneg (by omega))]
theorem wrap32_rng (a : Int) : -2147483648 ≤ wrap32 a ∧ wrap32 a ≤ 2147483647 := by unfold wrap32; omega
theorem div_rng (s : Int) (k : Nat) (h0 : -2147483648 ≤ s) (h1 : s ≤ 2147483647) : -2147483648 ≤ s / 2 ^ k ∧ s / 2 ^ k ≤ 2147483647 := by
  have hp : (0 : Int) < 2 ^ k := Int.pow_pos (by omega)
  have hp1 : (1 : Int) ≤ 2 ^ k := by omega
  constructor
  · rw [Int.le_ediv_iff_mul_le hp]
    have : (2147483648 : Int) * 1 ≤ 2147483648 * 2 ^ k := Int.mul_le_mul_of_nonneg_left hp1 (by omega)
    omega
  · by_cases h : 0 ≤ s
    · have := Int.ediv_le_self (2 ^ k) h; omega
    · have := Int.ediv_neg_of_neg_of_pos (by omega : s < 0) hp; omega
theorem sar_step (a : Int) (k : Nat) : wrap32 a / 2 ^ k % 4294967296 / 2 + wrap32 a / 2 ^ k % 4294967296 / 2147483648 * 2147483648 = wrap32 a / 2 ^ (k + 1) % 4294967296 := by
  obtain ⟨r0, r1⟩ := wrap32_rng a
  obtain ⟨d0, d1⟩ := div_rng (wrap32 a) k r0 r1
  rw [← shr_step]
  generalize wrap32 a / 2 ^ k = s at *
  omega
theorem shr_rng (a : Int) (k : Nat) (h0 : 0 ≤ a) (h1 : a ≤ 4294967295) : 0 ≤ a / 2 ^ k ∧ a / 2 ^ k ≤ 4294967295 :=
  ⟨Int.ediv_nonneg h0 (Int.pow_nonneg (by omega)), by have := Int.ediv_le_self (2 ^ k) h0; omega⟩
end Go.Proofs.Ytjmdikabikgjhaa
