import Derived.Test.YtmifomppnmhmpaaWrite
/- Read. -/
namespace Go.Proofs.Ytmifomppnmhmpaa
open Go.RowKit
set_option linter.unusedVariables false
set_option linter.unusedSimpArgs false
attribute [local go_sem] szIs_lit row_at row_past row_alloc nf_alloc row_set nf_set row_cell nf_cell row_drew nf_drew row_drewN nf_drewN cell_setRow frozen_setRow nlt1 nlt2 nlt3 nlt4 nne1 nne2 nne3 nen1 nen2 nen3
attribute [local go_sem] rg_setf rg_setn rg_setm

theorem cell_rec (w : World) (d : Nat) (a : Addr) : World.cell? { heap := w.heap, tape := w.tape, drawn := d, os := w.os, output := w.output } a = w.cell? a := rfl
attribute [local go_sem] cell_rec
theorem made_bytes (C : Nat) : madeCells #[Value.int .u8 0] C = bytes (fun _ => 0) C := by
  apply Array.ext'
  rw [toList_madeCells_one]
  simp [bytes, List.map_const']
theorem mk26 (C : Nat) (hC : C ≤ 140737488355328) (w : World) : (Instr.makeSlice 26 (.int .i64 (C : Int)) (.int .i64 (C : Int))).run Try.prog w = .ok (.slice (some ⟨w.heap.size, 0, none⟩) C C) (w.alloc (.cells (bytes (fun _ => 0) C) 5)) := by
  have i5 : (Try.prog.info? 5).map (fun i => (i.zero, i.size, i.bytes)) = some (some (.int .u8 0), 1, 1) := by kernel_rfl
  obtain ⟨i0, hi, hz0, hz1, hz2⟩ := info_parts i5
  have := run_make (P := Try.prog) w 26 5 i0 (.int .u8 0) u26 hi hz0 .i64 .i64 C C (by omega) (by omega) (by rw [hz2]; omega) (by omega)
  rw [hz1, Nat.mul_one, Int.toNat_natCast] at this
  rw [this, ← made_bytes]
  rfl
theorem laid_bytes (B Y : Nat → Int) (N p k : Nat) (h : p + k ≤ N) : Laid (bytes B N) (bytes (over B Y p k) N) p k (fun j => .int .u8 (Y j)) := by
  refine ⟨by rw [by_size, by_size], fun j hj => ?_⟩
  rw [by_size] at hj
  rw [by_get _ _ _ hj, by_get _ _ _ hj]
  by_cases h2 : p ≤ j ∧ j < p + k
  · rw [if_pos h2]; simp [over, h2]
  · rw [if_neg h2]; simp [over, h2]
theorem Keep.newer {w w1 w2 : World} {g m G : Nat} (h : Keep w w1 g m) (h2 : w1.grownBy w2 (some G)) (hG : w.heap.size ≤ G) : Keep w w2 g m :=
  ⟨h2.os.trans h.os, h2.tape.trans h.tape, h2.output.trans h.output, Nat.le_trans h.size h2.size, fun k hk a b => (h2.block k (Nat.lt_of_lt_of_le hk h.size) (fun e => by injection e with e; omega)).trans (h.block k hk a b)⟩
theorem ring_at {w : World} {g n : Nat} {B : Nat → Int} {F : Int} {v : Value} (h : Blk w g (ring B F n v)) (f j : Nat) (hj : f + j < 512) : w.cell? ((⟨g, f, none⟩ : Addr).add j) = some (.int .u8 (B (f + j))) := by
  have e : ((⟨g, f, none⟩ : Addr).add j) = ⟨g, f + j, none⟩ := by unfold Addr.add; by_cases h : j = 0 <;> simp [h]
  rw [e]
  exact (h.all.2.2.1 (f + j)).trans (rg_get _ _ _ _ _ hj)
set_option maxRecDepth 20000 in
theorem read_a (g m n : Nat) (Q : Nat → Int) (r s : Int) (w : World) (C : Nat) (k : Nat) (h : PipeAt w g m Q n r s) (hle : C ≤ n) (hpos : 0 < C) (B : Nat → Int) (f : Nat) (hb : Blk w g (ring B (f : Nat) n (.map (some m)))) (hm : w.heap[m]? = some (held r s)) (hf : f < 512) (hn5 : n ≤ 512) (hk : k = min C (512 - f)) :
    Calls Try.prog 11 #[.pointer (some ⟨g, 0, none⟩), .int .i64 (C : Nat)] w fun e w' => e = .returned (.tuple #[.slice (some ⟨w.heap.size, 0, none⟩) C C, .int .i64 0]) ∧ Blk w' w.heap.size (bytes (over (over (fun _ => 0) (fun i => B (f + i)) 0 k) B k (C - k)) C) ∧ Blk w' g (ring B ((f + C) % 512 : Nat) (n - C : Nat) (.map (some m))) ∧ Keep w w' g g := by
  have HM := Lib.hid (made_ok g m n Q _ _ w h)
  obtain ⟨gr, gn, gc, gf⟩ := hb.all
  have c2 := (gc 512).trans (rg_first ..)
  have c3 := (gc 513).trans (rg_n ..)
  have c4 := (gc 514).trans (rg_map ..)
  have glt := hb.lt
  have hk1 : k ≤ C := by omega
  have hk2 : f + k ≤ 512 := by omega
  have HK := Lib.hid hk
  have hsl := fun w => sl_at g f hf w
  have hmk := mk26 C (by omega)
  obtain ⟨A', hA, hA'⟩ := cut26 (some ⟨w.heap.size, 0, none⟩) C C k hk1
  have HA := Lib.hid hA'
  have HB := Lib.hid hb
  have n1 : ((C : Int) == 0) = false := beq_eq_false_iff_ne.2 (by omega)
  have n2 : decide ((C : Int) < 0) = false := by simp
  have n3 : ((n : Int) == 0) = false := beq_eq_false_iff_ne.2 (by omega)
  clear gc gr gn gf hb hm h hA' hk
  go_enter Try.func11, Try.ntmps11
  go_wp2_with fail
  refine (HM.out).mono ?_; rintro e w' ⟨rfl, rfl⟩
  go_wp2_with fail
  have e2 : (w.alloc (.cells (bytes (fun _ => 0) C) 5)).cell? ⟨g, 512, none⟩ = some (.int .i64 (f : Int)) := (World.cell?_alloc_lt w _ ⟨g, 512, none⟩ glt).trans c2
  have hbn : Blk (w.alloc (.cells (bytes (fun _ => 0) C) 5)) w.heap.size (bytes (fun _ => 0) C) := Blk.of_heap (heap_alloc_new w _)
  have hbg : Blk (w.alloc (.cells (bytes (fun _ => 0) C) 5)) g (ring B f n (.map (some m))) := HB.out.below ((Below.refl _ _).alloc (Nat.le_refl _) _) glt
  have hkn : Keep w (w.alloc (.cells (bytes (fun _ => 0) C) 5)) g g := Keep.of_below g g ((Below.refl _ _).alloc (Nat.le_refl _) _)
  generalize w.alloc (.cells (bytes (fun _ => 0) C) 5) = W at e2 hbn hbg hkn ⊢
  have HBN := Lib.hid hbn
  have HBG := Lib.hid hbg
  have HKN := Lib.hid hkn
  have hne : g ≠ w.heap.size := by omega
  have h0 : 0 < w.heap.size := by omega
  generalize hG : w.heap.size = G at *
  have HG := Lib.hid hG
  clear hbn hbg hkn hG
  go_still_tail 9, (by kernel_rfl)
  change wpList _ _ _ _ _ W.drew
  go_wp2_with ((with_reducible refine wpList_copy_blk rfl (.tmp 46) (.tmp 54) 26 26 rfl 5 u26 s5 _ _ _ _ _ _ rfl rfl G 0 k (bytes (fun _ => 0) C) (bytes (over (fun _ => 0) (fun i => B (f + i)) 0 k) C) (fun j => .int .u8 (B (f + j))) ?_ ?_ ?_ ?_ ?_ ?_); go_must (skip; (exact ⟨HBN.out.1, HBN.out.2⟩); (have := HK.out; show _ = min _ _; omega); (exact fun _ => ⟨rfl, ⟨g, f, none⟩, rfl, fun j hj => ⟨ring_at HBG.out f j (by omega), rfl⟩⟩); (rw [by_size]; omega); (exact laid_bytes _ _ _ 0 k (by omega)); intro w3 hb3 hg3 hs3))
  have HBG3 := Lib.hid (HBG.out.only (w := W.drew) hg3 HBG.out.lt hne)
  have HB3 := Lib.hid hb3
  have HK3 := Lib.hid (Keep.newer (HKN.out.trans (Keep.of_below g g (Below.drew (Below.refl W.heap.size W)))) hg3 (Nat.le_of_eq HG.out))
  clear hb3 hg3 hs3
  go_still_tail 7, (by kernel_rfl)
  change wpList _ _ _ _ _ w3.drew
  with_reducible refine wpList_copy_blk rfl (.tmp 58) (.tmp 62) 26 26 rfl 5 u26 s5 _ _ _ _ _ _ rfl rfl G k (C - k) (bytes (over (fun _ => 0) (fun i => B (f + i)) 0 k) C) (bytes (over (over (fun _ => 0) (fun i => B (f + i)) 0 k) B k (C - k)) C) (fun j => .int .u8 (B j)) ?c0 ?c1 ?c2 ?c3 ?c4 ?cm
  case c0 => exact ⟨HB3.out.1, HB3.out.2⟩
  case c1 => have := HK.out; show _ = min _ _; omega
  case c2 => exact fun hpos => ⟨(HA.out (Or.inr (by omega)) (by omega)).trans (by unfold Addr.add; by_cases h : k = 0 <;> simp [h]), ⟨g, 0, none⟩, rfl, fun j hj => ⟨by have := ring_at HBG3.out 0 j (by omega); rw [Nat.zero_add] at this; exact this, rfl⟩⟩
  case c3 => rw [by_size]; omega
  case c4 => exact laid_bytes _ _ _ k _ (by omega)
  intro w4 hb4 hg4 hs4
  have HBG4 := Lib.hid (HBG3.out.only (w := w3.drew) hg4 HBG3.out.lt hne)
  have HB4 := Lib.hid hb4
  have HK4 := Lib.hid (Keep.newer (HK3.out.trans (Keep.of_below g g (Below.drew (Below.refl w3.heap.size w3)))) hg4 (Nat.le_of_eq HG.out))
  obtain ⟨gr, gn, gc, gf⟩ := HBG4.out.all
  have c2' := (gc 512).trans (rg_first ..)
  have c3' := (gc 513).trans (rg_n ..)
  clear hb4 hg4 hs4 gc
  go_wp2
  go_ret2
  have hg5 := (HBG4.out.put 512 (.int .i64 (((f : Int) + (C : Int)) % 512))).put 513 (.int .i64 ((n : Int) - (C : Int)))
  rw [rg_setf, rg_setn] at hg5
  have hn5 := ((HB4.out.only (only_cell (only_refl w4 g) 512 (.int .i64 (((f : Int) + (C : Int)) % 512))) HB4.out.lt (Ne.symm hne)))
  have hn6 := hn5.only (only_cell (only_refl _ g) 513 (.int .i64 ((n : Int) - (C : Int)))) hn5.lt (Ne.symm hne)
  rw [HG.out]
  refine ⟨by simp, hn6, ?_, HK4.out.trans (Keep.of_only (only_cell (only_cell (only_refl _ g) _ _) _ _))⟩
  have e1 : (((f + C) % 512 : Nat) : Int) = ((f : Int) + (C : Int)) % 512 := by omega
  have e3 : ((n - C : Nat) : Int) = ((n : Int) - (C : Int)) := by omega
  rw [e1, e3]
  exact hg5
set_option maxRecDepth 20000 in
theorem read_b (g m n : Nat) (Q : Nat → Int) (r s : Int) (w : World) (N : Nat) (k : Nat) (h : PipeAt w g m Q n r s) (hle : n < N) (hpos : 0 < n) (B : Nat → Int) (f : Nat) (hb : Blk w g (ring B (f : Nat) n (.map (some m)))) (hm : w.heap[m]? = some (held r s)) (hf : f < 512) (hn5 : n ≤ 512) (hk : k = min n (512 - f)) :
    Calls Try.prog 11 #[.pointer (some ⟨g, 0, none⟩), .int .i64 (N : Nat)] w fun e w' => e = .returned (.tuple #[.slice (some ⟨w.heap.size, 0, none⟩) n n, .int .i64 0]) ∧ Blk w' w.heap.size (bytes (over (over (fun _ => 0) (fun i => B (f + i)) 0 k) B k (n - k)) n) ∧ Blk w' g (ring B ((f + n) % 512 : Nat) (n - n : Nat) (.map (some m))) ∧ Keep w w' g g := by
  have HM := Lib.hid (made_ok g m n Q _ _ w h)
  obtain ⟨gr, gn, gc, gf⟩ := hb.all
  have c2 := (gc 512).trans (rg_first ..)
  have c3 := (gc 513).trans (rg_n ..)
  have c4 := (gc 514).trans (rg_map ..)
  have glt := hb.lt
  have hk1 : k ≤ n := by omega
  have hk2 : f + k ≤ 512 := by omega
  have HK := Lib.hid hk
  have hsl := fun w => sl_at g f hf w
  have hmk := mk26 n (by omega)
  obtain ⟨A', hA, hA'⟩ := cut26 (some ⟨w.heap.size, 0, none⟩) n n k hk1
  have HA := Lib.hid hA'
  have HB := Lib.hid hb
  have n1 : ((N : Int) == 0) = false := beq_eq_false_iff_ne.2 (by omega)
  have n2 : decide ((N : Int) < 0) = false := by simp
  have n3 : ((n : Int) == 0) = false := beq_eq_false_iff_ne.2 (by omega)
  clear gc gr gn gf hb hm h hA' hk
  go_enter Try.func11, Try.ntmps11
  go_wp2_with fail
  refine (HM.out).mono ?_; rintro e w' ⟨rfl, rfl⟩
  go_wp2_with fail
  have e2 : (w.alloc (.cells (bytes (fun _ => 0) n) 5)).cell? ⟨g, 512, none⟩ = some (.int .i64 (f : Int)) := (World.cell?_alloc_lt w _ ⟨g, 512, none⟩ glt).trans c2
  have hbn : Blk (w.alloc (.cells (bytes (fun _ => 0) n) 5)) w.heap.size (bytes (fun _ => 0) n) := Blk.of_heap (heap_alloc_new w _)
  have hbg : Blk (w.alloc (.cells (bytes (fun _ => 0) n) 5)) g (ring B f n (.map (some m))) := HB.out.below ((Below.refl _ _).alloc (Nat.le_refl _) _) glt
  have hkn : Keep w (w.alloc (.cells (bytes (fun _ => 0) n) 5)) g g := Keep.of_below g g ((Below.refl _ _).alloc (Nat.le_refl _) _)
  generalize w.alloc (.cells (bytes (fun _ => 0) n) 5) = W at e2 hbn hbg hkn ⊢
  have HBN := Lib.hid hbn
  have HBG := Lib.hid hbg
  have HKN := Lib.hid hkn
  have hne : g ≠ w.heap.size := by omega
  have h0 : 0 < w.heap.size := by omega
  generalize hG : w.heap.size = G at *
  have HG := Lib.hid hG
  clear hbn hbg hkn hG
  go_still_tail 9, (by kernel_rfl)
  change wpList _ _ _ _ _ W.drew
  go_wp2_with ((with_reducible refine wpList_copy_blk rfl (.tmp 46) (.tmp 54) 26 26 rfl 5 u26 s5 _ _ _ _ _ _ rfl rfl G 0 k (bytes (fun _ => 0) n) (bytes (over (fun _ => 0) (fun i => B (f + i)) 0 k) n) (fun j => .int .u8 (B (f + j))) ?_ ?_ ?_ ?_ ?_ ?_); go_must (skip; (exact ⟨HBN.out.1, HBN.out.2⟩); (have := HK.out; show _ = min _ _; omega); (exact fun _ => ⟨rfl, ⟨g, f, none⟩, rfl, fun j hj => ⟨ring_at HBG.out f j (by omega), rfl⟩⟩); (rw [by_size]; omega); (exact laid_bytes _ _ _ 0 k (by omega)); intro w3 hb3 hg3 hs3))
  have HBG3 := Lib.hid (HBG.out.only (w := W.drew) hg3 HBG.out.lt hne)
  have HB3 := Lib.hid hb3
  have HK3 := Lib.hid (Keep.newer (HKN.out.trans (Keep.of_below g g (Below.drew (Below.refl W.heap.size W)))) hg3 (Nat.le_of_eq HG.out))
  clear hb3 hg3 hs3
  go_still_tail 7, (by kernel_rfl)
  change wpList _ _ _ _ _ w3.drew
  with_reducible refine wpList_copy_blk rfl (.tmp 58) (.tmp 62) 26 26 rfl 5 u26 s5 _ _ _ _ _ _ rfl rfl G k (n - k) (bytes (over (fun _ => 0) (fun i => B (f + i)) 0 k) n) (bytes (over (over (fun _ => 0) (fun i => B (f + i)) 0 k) B k (n - k)) n) (fun j => .int .u8 (B j)) ?c0 ?c1 ?c2 ?c3 ?c4 ?cm
  case c0 => exact ⟨HB3.out.1, HB3.out.2⟩
  case c1 => have := HK.out; show _ = min _ _; omega
  case c2 => exact fun hpos => ⟨(HA.out (Or.inr (by omega)) (by omega)).trans (by unfold Addr.add; by_cases h : k = 0 <;> simp [h]), ⟨g, 0, none⟩, rfl, fun j hj => ⟨by have := ring_at HBG3.out 0 j (by omega); rw [Nat.zero_add] at this; exact this, rfl⟩⟩
  case c3 => rw [by_size]; omega
  case c4 => exact laid_bytes _ _ _ k _ (by omega)
  intro w4 hb4 hg4 hs4
  have HBG4 := Lib.hid (HBG3.out.only (w := w3.drew) hg4 HBG3.out.lt hne)
  have HB4 := Lib.hid hb4
  have HK4 := Lib.hid (Keep.newer (HK3.out.trans (Keep.of_below g g (Below.drew (Below.refl w3.heap.size w3)))) hg4 (Nat.le_of_eq HG.out))
  obtain ⟨gr, gn, gc, gf⟩ := HBG4.out.all
  have c2' := (gc 512).trans (rg_first ..)
  have c3' := (gc 513).trans (rg_n ..)
  clear hb4 hg4 hs4 gc
  go_wp2
  go_ret2
  have hg5 := (HBG4.out.put 512 (.int .i64 (((f : Int) + (n : Int)) % 512))).put 513 (.int .i64 0)
  rw [rg_setf, rg_setn] at hg5
  have hn5 := ((HB4.out.only (only_cell (only_refl w4 g) 512 (.int .i64 (((f : Int) + (n : Int)) % 512))) HB4.out.lt (Ne.symm hne)))
  have hn6 := hn5.only (only_cell (only_refl _ g) 513 (.int .i64 0)) hn5.lt (Ne.symm hne)
  rw [HG.out]
  refine ⟨by simp, hn6, ?_, HK4.out.trans (Keep.of_only (only_cell (only_cell (only_refl _ g) _ _) _ _))⟩
  have e1 : (((f + n) % 512 : Nat) : Int) = ((f : Int) + (n : Int)) % 512 := by omega
  have e3 : ((n - n : Nat) : Int) = 0 := by omega
  rw [e1, e3]
  exact hg5
end Go.Proofs.Ytmifomppnmhmpaa
