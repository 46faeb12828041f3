import Derived.Test.YtmifomppnmhmpaaCopy
import Derived.Deep.QuietTactic
import Derived.BigQuiet
import Derived.StillTailTactics
/- Write. -/
namespace Go.Proofs.Ytmifomppnmhmpaa
open Go.RowKit
set_option linter.unusedVariables false
set_option linter.unusedSimpArgs false
attribute [local go_sem] szIs_lit row_at row_past row_alloc nf_alloc row_set nf_set row_cell nf_cell row_drew nf_drew row_drewN nf_drewN cell_setRow frozen_setRow nlt1 nlt2 nlt3 nlt4 nne1 nne2 nne3 nen1 nen2 nen3
attribute [local go_sem] rg_setf rg_setn rg_setm

theorem u26 : Try.prog.underlying 26 = some (.slice 5) := by kernel_rfl
theorem s5 : (Try.prog.info? 5).map (·.size) = some 1 := by kernel_rfl
theorem sl_at (g p : Nat) (hp : p < 512) (w : World) : (Instr.sliceAt 59 (.pointer (some ⟨g, 0, none⟩)) (some (.int .i64 p)) none none).run Try.prog w = .ok (.slice (some ⟨g, p, none⟩) (512 - p) (512 - p)) w := by
  have h59 : Try.prog.underlying 59 = some (.array (Try.prog.arrayLen 59) (Try.prog.elem 59)) := by kernel_rfl
  have hl : Try.prog.arrayLen 59 = 512 := by kernel_rfl
  have he : Try.prog.elem 59 = 5 := by kernel_rfl
  have hs : (sizeOf 5).run Try.prog w = .ok 1 w := by kernel_rfl
  have := run_sliceAt_array_l (P := Try.prog) w 59 ⟨g, 0, none⟩ h59 .i64 p (by omega) (by rw [hl]; omega)
  rw [hl, he, hs] at this
  rw [this]
  have ne : ¬ (512 = p) := by omega
  simp [slicedAt, Result.andThen, ne, Addr.add]
  omega
/-- The ring with some bytes laid over it. -/
def over (B Y : Nat → Int) (p k : Nat) : Nat → Int := fun j => if p ≤ j ∧ j < p + k then Y (j - p) else B j
theorem laid_ring (B Y : Nat → Int) (f n : Int) (v : Value) (p k : Nat) (h : p + k ≤ 512) : Laid (ring B f n v) (ring (over B Y p k) f n v) p k (fun j => .int .u8 (Y j)) := by
  refine ⟨by rw [rg_size, rg_size], fun j hj => ?_⟩
  rw [rg_size] at hj
  by_cases h1 : j < 512
  · rw [rg_get _ _ _ _ _ h1, rg_get _ _ _ _ _ h1]
    by_cases h2 : p ≤ j ∧ j < p + k
    · rw [if_pos h2]; simp [over, h2]
    · rw [if_neg h2]; simp [over, h2]
  · rw [if_neg (by omega)]
    obtain ⟨i, rfl⟩ : ∃ i, j = 512 + i := ⟨j - 512, by omega⟩
    rw [rg_past, rg_past]
theorem cut26 (A : Option Addr) (len cap k : Nat) (hk : k ≤ len) : ∃ A', (∀ w : World, (Instr.slice 26 (.slice A len cap) (some (.int .i64 (k : Int))) none none).run Try.prog w = .ok (.slice A' (len - k) (cap - k)) w) ∧ (len < cap ∨ k < len → len ≤ cap → A' = A.map (·.add k)) := by
  have h26 : Try.prog.underlying 26 = some (.slice (Try.prog.elem 26)) := by kernel_rfl
  have he : ∀ w : World, (sizeOf (Try.prog.elem 26)).run Try.prog w = .ok 1 w := fun w => by kernel_rfl
  refine ⟨if cap = k then A else A.map (·.add k), fun w => ?_, fun h h2 => by rw [if_neg (by omega)]⟩
  have := run_slice_l (P := Try.prog) w 26 A len cap h26 .i64 (k : Int) (by omega) (by omega)
  rw [this, he w]
  simp [sliced, Result.andThen]
theorem block_of_add (a : Addr) (n : Nat) : (a.add n).block = a.block := by unfold Addr.add; split <;> rfl
theorem add_of_add (a : Addr) (i j : Nat) : (a.add i).add j = a.add (i + j) := by
  unfold Addr.add
  by_cases hi : i = 0 <;> by_cases hj : j = 0 <;> simp [hi, hj, Nat.add_assoc]
theorem over_zero (B Y : Nat → Int) (p : Nat) : over B Y p 0 = B := by funext j; unfold over; rw [if_neg (by omega)]
set_option maxRecDepth 20000 in
theorem write_a (g m n : Nat) (Q : Nat → Int) (r s : Int) (w : World) (A : Addr) (len cap p k : Nat) (Y : Nat → Int) (h : PipeAt w g m Q n r s) (hr : 0 < r) (hlen : 0 < len) (hn1 : n < 512) (hlc : len ≤ cap) (hcap : cap ≤ 9223372036854775807)
    (hsb : A.block ≠ g) (hy : ∀ i, i < len → w.cell? (A.add i) = some (.int .u8 (Y i))) (c : Nat) (he : (512 : Int) - n = c) (hlt : c < len) (B : Nat → Int) (f : Nat) (hb : Blk w g (ring B (f : Nat) n (.map (some m)))) (hm : w.heap[m]? = some (held r s)) (hf : f < 512) (hp : p = (f + n) % 512) (hk : k = min c (512 - p)) :
    Calls Try.prog 12 #[.pointer (some ⟨g, 0, none⟩), .slice (some A) len cap] w fun e w' => e = .returned (.tuple #[.int .i64 c, .int .i64 0]) ∧ Blk w' g (ring (over (over B Y p k) (fun i => Y (k + i)) 0 (c - k)) f (n + c : Nat) (.map (some m))) ∧ Keep w w' g g := by
  have HM := Lib.hid (made_ok g m n Q _ _ w h)
  obtain ⟨gr, gn, gc, gf⟩ := hb.all
  have c2 := (gc 512).trans (rg_first ..)
  have c3 := (gc 513).trans (rg_n ..)
  have c4 := (gc 514).trans (rg_map ..)
  have hl0 := look_held hm false
  simp only [Bool.false_eq_true, if_false, if_true] at hl0
  have ne : (r == 0) = false := beq_eq_false_iff_ne.2 (by omega)
  have hp' : ((f : Int) + (n : Int)) % 512 = (p : Int) := by omega
  have hp5 : p < 512 := by omega
  have hk1 : k ≤ c := by omega
  have hk2 : p + k ≤ 512 := by omega
  have HK := Lib.hid hk
  clear hk
  have hsl := fun w => sl_at g p hp5 w
  obtain ⟨A', hA, hA'⟩ := cut26 (some A) c cap k hk1
  have HA := Lib.hid hA'
  have hc5 : (c : Int) < len := by omega
  have hN : n + c = 512 := by omega
  have HY := Lib.hid hy
  have HB := Lib.hid hb
  clear gc gr gn gf hb hm hy h hp hA'
  go_enter Try.func12, Try.ntmps12
  go_wp2_with fail
  refine (HM.out).mono ?_; rintro e w' ⟨rfl, rfl⟩
  go_wp2_with fail
  go_quiet (fail)
  rw [hp']
  go_wp2_with ((with_reducible refine wpList_copy_blk rfl (.tmp 53) (.tmp 54) 26 26 rfl 5 u26 s5 _ _ _ _ _ _ rfl rfl g p k (ring B f n (.map (some m))) (ring (over B Y p k) f n (.map (some m))) (fun j => .int .u8 (Y j)) ?_ ?_ ?_ ?_ ?_ ?_); go_must (skip; (exact ⟨HB.out.1, HB.out.2⟩); (have := HK.out; show _ = min _ _; omega); (exact fun _ => ⟨rfl, A, rfl, fun j hj => ⟨HY.out j (by omega), rfl⟩⟩); (rw [rg_size]; omega); (exact laid_ring B Y f n _ p k (by omega)); intro w3 hb3 hg3 hs3))
  have HB3 := Lib.hid hb3
  have HG3 := Lib.hid hg3
  have HY3 := Lib.hid (fun i (hi : i < len) => (hg3.cell (a := A.add i) (HY.out i hi) (fun e => hsb (by rw [block_of_add] at e; injection e))))
  obtain ⟨gr, gn, gc, gf⟩ := hb3.all
  have d2 := (gc 512).trans (rg_first ..)
  have d3 := (gc 513).trans (rg_n ..)
  clear hb3 hg3 gr gn gc gf
  go_still_tail 7, (by kernel_rfl)
  change wpList _ _ _ _ _ w3.drew
  with_reducible refine wpList_copy_blk rfl (.tmp 59) (.tmp 62) 26 26 rfl 5 u26 s5 _ _ _ _ _ _ rfl rfl g 0 (c - k) (ring (over B Y p k) f n (.map (some m))) (ring (over (over B Y p k) (fun i => Y (k + i)) 0 (c - k)) f n (.map (some m))) (fun j => .int .u8 (Y (k + j))) ?c0 ?c1 ?c2 ?c3 ?c4 ?cm
  case c0 => exact ⟨HB3.out.1, HB3.out.2⟩
  case c1 => show _ = min _ _; omega
  case c2 => exact fun hpos => ⟨rfl, A.add k, HA.out (Or.inr (by omega)) (by omega), fun j hj => ⟨by rw [add_of_add]; exact HY3.out (k + j) (by omega), rfl⟩⟩
  case c3 => rw [rg_size]; omega
  case c4 => exact laid_ring _ _ f n _ 0 (c - k) (by omega)
  intro w4 hb4 hg4 hs4
  have hk4 : Keep w w4 g g := (Keep.of_below g g (below_drewN (Below.refl _ _) nq)).trans ((Keep.of_only HG3.out).trans ((Keep.of_below g g (Below.drew (Below.refl _ _))).trans (Keep.of_only hg4)))
  obtain ⟨gr, gn, gc, gf⟩ := hb4.all
  have e2 := (gc 512).trans (rg_first ..)
  have e3 := (gc 513).trans (rg_n ..)
  have HB4 := Lib.hid hb4
  have HK4 := Lib.hid hk4
  clear hb4 hg4 hk4 gc
  go_wp2
  go_ret2
  have hb5 := Blk.put HB4.out 513 (.int .i64 ((n : Int) + (c : Int)))
  rw [rg_setn] at hb5
  exact ⟨by simp, by rw [Int.natCast_add]; exact hb5, HK4.out.trans (Keep.of_only (only_cell (only_refl _ _) _ _))⟩
set_option maxRecDepth 20000 in
theorem write_b (g m n : Nat) (Q : Nat → Int) (r s : Int) (w : World) (A : Addr) (len cap p k : Nat) (Y : Nat → Int) (h : PipeAt w g m Q n r s) (hr : 0 < r) (hlen : 0 < len) (hn1 : n < 512) (hlc : len ≤ cap) (hcap : cap ≤ 9223372036854775807)
    (hsb : A.block ≠ g) (hy : ∀ i, i < len → w.cell? (A.add i) = some (.int .u8 (Y i))) (hle : len ≤ 512 - n) (B : Nat → Int) (f : Nat) (hb : Blk w g (ring B (f : Nat) n (.map (some m)))) (hm : w.heap[m]? = some (held r s)) (hf : f < 512) (hp : p = (f + n) % 512) (hk : k = min len (512 - p)) :
    Calls Try.prog 12 #[.pointer (some ⟨g, 0, none⟩), .slice (some A) len cap] w fun e w' => e = .returned (.tuple #[.int .i64 len, .int .i64 0]) ∧ Blk w' g (ring (over (over B Y p k) (fun i => Y (k + i)) 0 (len - k)) f (n + len : Nat) (.map (some m))) ∧ Keep w w' g g := by
  have HM := Lib.hid (made_ok g m n Q _ _ w h)
  obtain ⟨gr, gn, gc, gf⟩ := hb.all
  have c2 := (gc 512).trans (rg_first ..)
  have c3 := (gc 513).trans (rg_n ..)
  have c4 := (gc 514).trans (rg_map ..)
  have hl0 := look_held hm false
  simp only [Bool.false_eq_true, if_false, if_true] at hl0
  have ne : (r == 0) = false := beq_eq_false_iff_ne.2 (by omega)
  have hp' : ((f : Int) + (n : Int)) % 512 = (p : Int) := by omega
  have hp5 : p < 512 := by omega
  have hk1 : k ≤ len := by omega
  have hk2 : p + k ≤ 512 := by omega
  have HK := Lib.hid hk
  clear hk
  have hsl := fun w => sl_at g p hp5 w
  obtain ⟨A', hA, hA'⟩ := cut26 (some A) len cap k hk1
  have HA := Lib.hid hA'
  have hc5 : (len : Int) ≤ 512 - n := by omega
  have hN : n + len ≤ 512 := by omega
  have HY := Lib.hid hy
  have HB := Lib.hid hb
  clear gc gr gn gf hb hm hy h hp hA'
  go_enter Try.func12, Try.ntmps12
  go_wp2_with fail
  refine (HM.out).mono ?_; rintro e w' ⟨rfl, rfl⟩
  go_wp2_with fail
  go_quiet (fail)
  rw [hp']
  go_wp2_with ((with_reducible refine wpList_copy_blk rfl (.tmp 53) (.tmp 54) 26 26 rfl 5 u26 s5 _ _ _ _ _ _ rfl rfl g p k (ring B f n (.map (some m))) (ring (over B Y p k) f n (.map (some m))) (fun j => .int .u8 (Y j)) ?_ ?_ ?_ ?_ ?_ ?_); go_must (skip; (exact ⟨HB.out.1, HB.out.2⟩); (have := HK.out; show _ = min _ _; omega); (exact fun _ => ⟨rfl, A, rfl, fun j hj => ⟨HY.out j (by omega), rfl⟩⟩); (rw [rg_size]; omega); (exact laid_ring B Y f n _ p k (by omega)); intro w3 hb3 hg3 hs3))
  have HB3 := Lib.hid hb3
  have HG3 := Lib.hid hg3
  have HY3 := Lib.hid (fun i (hi : i < len) => (hg3.cell (a := A.add i) (HY.out i hi) (fun e => hsb (by rw [block_of_add] at e; injection e))))
  obtain ⟨gr, gn, gc, gf⟩ := hb3.all
  have d2 := (gc 512).trans (rg_first ..)
  have d3 := (gc 513).trans (rg_n ..)
  clear hb3 hg3 gr gn gc gf
  go_still_tail 7, (by kernel_rfl)
  change wpList _ _ _ _ _ w3.drew
  with_reducible refine wpList_copy_blk rfl (.tmp 59) (.tmp 62) 26 26 rfl 5 u26 s5 _ _ _ _ _ _ rfl rfl g 0 (len - k) (ring (over B Y p k) f n (.map (some m))) (ring (over (over B Y p k) (fun i => Y (k + i)) 0 (len - k)) f n (.map (some m))) (fun j => .int .u8 (Y (k + j))) ?c0 ?c1 ?c2 ?c3 ?c4 ?cm
  case c0 => exact ⟨HB3.out.1, HB3.out.2⟩
  case c1 => show _ = min _ _; omega
  case c2 => exact fun hpos => ⟨rfl, A.add k, HA.out (Or.inr (by omega)) (by omega), fun j hj => ⟨by rw [add_of_add]; exact HY3.out (k + j) (by omega), rfl⟩⟩
  case c3 => rw [rg_size]; omega
  case c4 => exact laid_ring _ _ f n _ 0 (len - k) (by omega)
  intro w4 hb4 hg4 hs4
  have hk4 : Keep w w4 g g := (Keep.of_below g g (below_drewN (Below.refl _ _) nq)).trans ((Keep.of_only HG3.out).trans ((Keep.of_below g g (Below.drew (Below.refl _ _))).trans (Keep.of_only hg4)))
  obtain ⟨gr, gn, gc, gf⟩ := hb4.all
  have e2 := (gc 512).trans (rg_first ..)
  have e3 := (gc 513).trans (rg_n ..)
  have HB4 := Lib.hid hb4
  have HK4 := Lib.hid hk4
  clear hb4 hg4 hk4 gc
  go_wp2
  go_ret2
  have hb5 := Blk.put HB4.out 513 (.int .i64 ((n : Int) + (len : Int)))
  rw [rg_setn] at hb5
  exact ⟨by simp, by rw [Int.natCast_add]; exact hb5, HK4.out.trans (Keep.of_only (only_cell (only_refl _ _) _ _))⟩
end Go.Proofs.Ytmifomppnmhmpaa
