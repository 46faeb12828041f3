import Derived.Test.YtdpbfmookhgilaaHpRow
import Derived.Test.YtdpbfmookhgilaaLoads
import Derived.Test.YtdpbfmookhgilaaFreeT
import Derived.Deep.QuietTactic
import Derived.BigQuiet
import Derived.Deep.LoopGhost
import Derived.Deep.Cut
import Derived.Deep.CutRange
import Derived.Deep.DeepMust
import Derived.Lib.EndianBits
/- Pages, of both; and the walk of CopyPages. -/
namespace Go.Proofs.Ytdpbfmookhgilaa
open Go.RowKit Go.BigFrame
set_option linter.unusedVariables false
set_option linter.unusedSimpArgs false
attribute [local go_sem] szIs_lit row_at row_past row_alloc nf_alloc row_set nf_set row_cell nf_cell row_drew nf_drew row_drewN nf_drewN cell_setRow frozen_setRow nlt1 nlt2 nlt3 nlt4 nne1 nne2 nne3 nen1 nen2 nen3
attribute [local go_sem] by_get by_set
theorem intT : ElT Try.prog 23 3 1 8 (.int .i64 0) := ⟨by kernel_rfl, by kernel_rfl, rfl, by simp [Value.cells, Value.oneCell'], by decide⟩
theorem bs23 (x : Int) (w : World) : (Instr.buildSlice 23 1 #[(0, .int .i64 x)]).run Try.prog w = .ok (.slice (some ⟨w.heap.size, 0, none⟩) 1 1) (w.alloc (.cells #[.int .i64 x] 3)) := by simp [go_sem]
/-- Whole numbers from f on, as cells. -/
def up (f : Int) (k : Nat) : List Value := (List.range k).map fun (i : Nat) => Value.int .i64 (f + (i : Int))
theorem up_len (f : Int) (k : Nat) : (up f k).length = k := by simp [up]
theorem up_succ (f : Int) (k : Nat) : up f (k + 1) = up f k ++ [.int .i64 (f + (k : Int))] := by unfold up; rw [List.range_succ, List.map_append]; rfl
theorem up_get (f : Int) (k i : Nat) (h : i < k) : (up f k)[i]? = some (.int .i64 (f + (i : Int))) := by unfold up; rw [List.getElem?_map, List.getElem?_range h]; rfl
def cnt (a n : Int) : Nat := if 1 ≤ n ∧ n ≤ 1024 then ((a + n - 1) / 256 - a / 256 + 1).toNat else 0
theorem cnt_le (a n : Int) (ha : 0 ≤ a) : cnt a n ≤ 6 := by unfold cnt; split <;> omega
/-- The pages of a range, in memory. -/
def Pg (a n : Int) (w : World) (r : Ending) (w' : World) : Prop := (∃ A c, r = .returned (.slice A (cnt a n) c) ∧ Rw w' 3 1 A (cnt a n) c (up (a / 256) (cnt a n))) ∧ Below w.heap.size w w'
set_option maxHeartbeats 4000000 in
theorem pages_bad (a n : Int) (hn : ¬ (1 ≤ n ∧ n ≤ 1024)) (w : World) : Calls Try.prog 4 #[.int .u32 a, .int .i64 n] w (Pg a n w) := by
  have hc : cnt a n = 0 := by unfold cnt; rw [if_neg hn]
  have HC := Lib.hid hc
  clear hc
  by_cases h1 : n < 1
  · clear hn
    go_enter Try.func4, Try.ntmps4
    go_wp2
    go_ret
    exact ⟨⟨none, 0, by rw [HC.out]; first | rfl | simp, by rw [HC.out]; exact Rw.nil _ _ _⟩, Below.refl _ _⟩
  · have h2 : 1 ≤ n := by omega
    have h3 : 1024 < n := by omega
    clear hn h1
    go_enter Try.func4, Try.ntmps4
    go_wp2
    go_ret
    exact ⟨⟨none, 0, by rw [HC.out]; first | rfl | simp, by rw [HC.out]; exact Rw.nil _ _ _⟩, Below.refl _ _⟩
set_option maxHeartbeats 4000000 in
theorem pages_good (a n : Int) (ha : 0 ≤ a) (ha2 : a ≤ 4294967295) (h1 : 1 ≤ n) (h2 : n ≤ 1024) (w : World) : Calls Try.prog 4 #[.int .u32 a, .int .i64 n] w (Pg a n w) := by
  obtain ⟨q, hq⟩ : ∃ q, q = a / 256 := ⟨_, rfl⟩
  obtain ⟨k, hk⟩ : ∃ k : Nat, k = ((a + n - 1) / 256 - a / 256 + 1).toNat := ⟨_, rfl⟩
  have hc : cnt a n = k := by unfold cnt; rw [if_pos ⟨h1, h2⟩, hk]
  have hk6 : k ≤ 6 ∧ 1 ≤ k := by omega
  have hlast : (a + n - 1) / 256 = q + (k : Int) - 1 := by omega
  have hqb : 0 ≤ q ∧ q ≤ 16777215 := by omega
  have HQ := Lib.hid hq
  have HC := Lib.hid hc
  have HL := Lib.hid hlast
  obtain ⟨hk6, hk1⟩ := hk6
  obtain ⟨hq0, hq1⟩ := hqb
  clear hk hc
  have hq2 : a / 256 = q := hq.symm
  clear hq
  go_enter Try.func4, Try.ntmps4
  go_wp2_with fail
  try simp only [hq2]
  go_loopg [5, 8] k (fun m o_ p_ wr => ∃ (j c : Nat) (A : Option Addr), o_ = .slice A j c ∧ p_ = .int .i64 (q + (j : Int)) ∧ m = k - j ∧ j ≤ k ∧ Rw wr 3 1 A j c (up q j) ∧ Below w.heap.size w wr ∧ ∀ b, blkOf A = some b → w.heap.size ≤ b)
  case atStart => exact ⟨0, 0, none, rfl, by first | (simp; done) | simp [hq2], rfl, by omega, Rw.nil _ _ _, Below.refl _ _, by simp [blkOf]⟩
  case round =>
    obtain ⟨j, c, A, rfl, rfl, hm, hj, hr, hb, hf⟩ := hrel
    have HM := Lib.hid hm
    have HR := Lib.hid hr
    have HB := Lib.hid hb
    have HF := Lib.hid hf
    clear hm hr hb hf
    by_cases hlt : j < k
    · have t1 : q + (j : Int) ≤ q + (k : Int) - 1 := by omega
      obtain ⟨x, hx⟩ : ∃ x, x = q + (j : Int) := ⟨_, rfl⟩
      have hx0 : 0 ≤ x ∧ x ≤ 16777300 := by omega
      obtain ⟨hx0, hx1⟩ := hx0
      have HX := Lib.hid hx
      rw [← hx] at t1
      rw [← hx]
      clear hx
      have hbb : Below wr.heap.size wr (wr.alloc (.cells #[.int .i64 x] 3)) := (Below.refl _ _).alloc (Nat.le_refl _) _
      obtain ⟨A2, c2, w2, e1, e2, e3, e4⟩ := rw_append (P := Try.prog) intT 23 (HR.out.below hbb) (some ⟨wr.heap.size, 0, none⟩) 1 1 [.int .i64 x] rfl (Rd.of_cells (fun j u hu => by
        cases j with
        | zero => simp at hu; subst hu; simp [go_sem]
        | succ j => simp at hu) (by simp [Value.oneCell'])) (by intro e; cases e) (by unfold maxLen; omega) (by omega)
      have hbs := bs23 x
      have HE1 := Lib.hid e1
      have HE := Lib.hid (And.intro e2 (And.intro hbb (And.intro e3 e4)))
      clear e1 e2 e3 e4 hbb
      go_wp2_with (at_builtin; go_must (refine wpList_run rfl (s := Builtin.append_ #[23, 23] 23 #[.slice A j c, .slice (some ⟨wr.heap.size, 0, none⟩) 1 1]) (by kernel_rfl) HE1.out ?_))
      go_roundg (k - (j + 1))
      case measure => have := HM.out; omega
      case rel =>
        obtain ⟨x2, x1, x3, x4⟩ := HE.out
        have hsz := HB.out.size
        refine ⟨j + 1, c2, A2, by first | rfl | go_num, by rw [HX.out]; push_cast; first | rfl | (congr 1; omega), rfl, by omega, by rw [up_succ, ← HX.out]; exact x2, HB.out.trans ((Below.mono x1 hsz).trans (x3.below (fun b hk q => ?_) (by have := x1.size; omega))), fun b q => ?_⟩
        · have := HF.out b q; omega
        · rcases x4 with e | e
          · exact HF.out b (e ▸ q)
          · rw [e] at q; injection q with q; simp at q; omega
    · obtain rfl : j = k := by omega
      have t1 : q + (j : Int) - 1 < q + (j : Int) := by omega
      go_wp2_with fail
      go_ret
      exact ⟨⟨A, c, by rw [HC.out]; first | rfl | simp, by rw [HC.out, hq2]; exact HR.out⟩, HB.out⟩
theorem pages_ok (a n : Int) (ha : 0 ≤ a) (ha2 : a ≤ 4294967295) (w : World) : Calls Try.prog 4 #[.int .u32 a, .int .i64 n] w (Pg a n w) := by
  by_cases h : 1 ≤ n ∧ n ≤ 1024
  · exact pages_good a n ha ha2 h.1 h.2 w
  · exact pages_bad a n h w
set_option maxHeartbeats 4000000 in
theorem rpages_bad (a n : Int) (hn : ¬ (1 ≤ n ∧ n ≤ 1024)) (w : World) : Calls Try.prog 5 #[.int .u32 a, .int .i64 n] w (Pg a n w) := by
  have hc : cnt a n = 0 := by unfold cnt; rw [if_neg hn]
  have HC := Lib.hid hc
  clear hc
  by_cases h1 : n < 1
  · clear hn
    go_enter Try.func5, Try.ntmps5
    go_wp2
    go_ret
    exact ⟨⟨none, 0, by rw [HC.out]; first | rfl | simp, by rw [HC.out]; exact Rw.nil _ _ _⟩, Below.refl _ _⟩
  · have h2 : 1 ≤ n := by omega
    have h3 : 1024 < n := by omega
    clear hn h1
    go_enter Try.func5, Try.ntmps5
    go_wp2
    go_ret
    exact ⟨⟨none, 0, by rw [HC.out]; first | rfl | simp, by rw [HC.out]; exact Rw.nil _ _ _⟩, Below.refl _ _⟩
set_option maxHeartbeats 4000000 in
theorem rpages_good (a n : Int) (ha : 0 ≤ a) (ha2 : a ≤ 4294967295) (h1 : 1 ≤ n) (h2 : n ≤ 1024) (w : World) : Calls Try.prog 5 #[.int .u32 a, .int .i64 n] w (Pg a n w) := by
  obtain ⟨q, hq⟩ : ∃ q, q = a / 256 := ⟨_, rfl⟩
  obtain ⟨k, hk⟩ : ∃ k : Nat, k = ((a + n - 1) / 256 - a / 256 + 1).toNat := ⟨_, rfl⟩
  have hc : cnt a n = k := by unfold cnt; rw [if_pos ⟨h1, h2⟩, hk]
  have hk6 : k ≤ 6 ∧ 1 ≤ k := by omega
  have hlast : (a + n - 1) / 256 = q + (k : Int) - 1 := by omega
  have hqb : 0 ≤ q ∧ q ≤ 16777215 := by omega
  have HQ := Lib.hid hq
  have HC := Lib.hid hc
  have HL := Lib.hid hlast
  obtain ⟨hk6, hk1⟩ := hk6
  obtain ⟨hq0, hq1⟩ := hqb
  clear hk hc
  have hq2 : a / 256 = q := hq.symm
  clear hq
  go_enter Try.func5, Try.ntmps5
  go_wp2_with fail
  try simp only [hq2]
  go_loopg [5, 6] k (fun m o_ p_ wr => ∃ (j c : Nat) (A : Option Addr), o_ = .slice A j c ∧ p_ = .int .i64 (q + (j : Int)) ∧ m = k - j ∧ j ≤ k ∧ Rw wr 3 1 A j c (up q j) ∧ Below w.heap.size w wr ∧ ∀ b, blkOf A = some b → w.heap.size ≤ b)
  case atStart => exact ⟨0, 0, none, rfl, by first | (simp; done) | simp [hq2], rfl, by omega, Rw.nil _ _ _, Below.refl _ _, by simp [blkOf]⟩
  case round =>
    obtain ⟨j, c, A, rfl, rfl, hm, hj, hr, hb, hf⟩ := hrel
    have HM := Lib.hid hm
    have HR := Lib.hid hr
    have HB := Lib.hid hb
    have HF := Lib.hid hf
    clear hm hr hb hf
    by_cases hlt : j < k
    · have t1 : q + (j : Int) ≤ q + (k : Int) - 1 := by omega
      obtain ⟨x, hx⟩ : ∃ x, x = q + (j : Int) := ⟨_, rfl⟩
      have hx0 : 0 ≤ x ∧ x ≤ 16777300 := by omega
      obtain ⟨hx0, hx1⟩ := hx0
      have HX := Lib.hid hx
      rw [← hx] at t1
      rw [← hx]
      clear hx
      have hbb : Below wr.heap.size wr (wr.alloc (.cells #[.int .i64 x] 3)) := (Below.refl _ _).alloc (Nat.le_refl _) _
      obtain ⟨A2, c2, w2, e1, e2, e3, e4⟩ := rw_append (P := Try.prog) intT 23 (HR.out.below hbb) (some ⟨wr.heap.size, 0, none⟩) 1 1 [.int .i64 x] rfl (Rd.of_cells (fun j u hu => by
        cases j with
        | zero => simp at hu; subst hu; simp [go_sem]
        | succ j => simp at hu) (by simp [Value.oneCell'])) (by intro e; cases e) (by unfold maxLen; omega) (by omega)
      have hbs := bs23 x
      have HE1 := Lib.hid e1
      have HE := Lib.hid (And.intro e2 (And.intro hbb (And.intro e3 e4)))
      clear e1 e2 e3 e4 hbb
      go_wp2_with (at_builtin; go_must (refine wpList_run rfl (s := Builtin.append_ #[23, 23] 23 #[.slice A j c, .slice (some ⟨wr.heap.size, 0, none⟩) 1 1]) (by kernel_rfl) HE1.out ?_))
      go_roundg (k - (j + 1))
      case measure => have := HM.out; omega
      case rel =>
        obtain ⟨x2, x1, x3, x4⟩ := HE.out
        have hsz := HB.out.size
        refine ⟨j + 1, c2, A2, by first | rfl | go_num, by rw [HX.out]; push_cast; first | rfl | (congr 1; omega), rfl, by omega, by rw [up_succ, ← HX.out]; exact x2, HB.out.trans ((Below.mono x1 hsz).trans (x3.below (fun b hk q => ?_) (by have := x1.size; omega))), fun b q => ?_⟩
        · have := HF.out b q; omega
        · rcases x4 with e | e
          · exact HF.out b (e ▸ q)
          · rw [e] at q; injection q with q; simp at q; omega
    · obtain rfl : j = k := by omega
      have t1 : q + (j : Int) - 1 < q + (j : Int) := by omega
      go_wp2_with fail
      go_ret
      exact ⟨⟨A, c, by rw [HC.out]; first | rfl | simp, by rw [HC.out, hq2]; exact HR.out⟩, HB.out⟩
theorem rpages_ok (a n : Int) (ha : 0 ≤ a) (ha2 : a ≤ 4294967295) (w : World) : Calls Try.prog 5 #[.int .u32 a, .int .i64 n] w (Pg a n w) := by
  by_cases h : 1 ≤ n ∧ n ≤ 1024
  · exact rpages_good a n ha ha2 h.1 h.2 w
  · exact rpages_bad a n h w
set_option maxHeartbeats 4000000 in
theorem copyPages_walk (hw : ∀ w, Calls Try.prog 6 #[] w fun r w' => r = .returned (.bool true) ∧ Below w.heap.size w w') (a n : Int) (ha : 0 ≤ a) (ha2 : a ≤ 4294967295) (w : World) : Calls Try.prog 3 #[.int .u32 a, .int .i64 n] w fun r w' => r = .returned (.bool true) ∧ Below w.heap.size w w' := by
  have H1 := Lib.hid (pages_ok a n ha ha2)
  have H2 := Lib.hid (rpages_ok a n ha ha2)
  have HW := Lib.hid hw
  have hk := cnt_le a n ha
  clear hw ha ha2
  go_enter Try.func3, Try.ntmps3
  go_wp2_with fail
  refine (H1.out _).mono ?_
  rintro r w1 ⟨⟨A, c, rfl, hr⟩, hb⟩
  have HR := Lib.hid hr
  have HB := Lib.hid hb
  clear hr hb
  go_wp2_with fail
  refine (H2.out _).mono ?_
  rintro r w2 ⟨⟨A2, c2, rfl, hr⟩, hb⟩
  have HR := Lib.hid (HR.out.below hb)
  have HB := Lib.hid (HB.out.trans (Below.mono hb HB.out.size))
  have HR2 := Lib.hid hr
  clear hr hb
  go_wp2_with fail
  refine (HW.out _).mono ?_
  rintro r w3 ⟨rfl, hb⟩
  have HR := Lib.hid (HR.out.below hb)
  have HR2 := Lib.hid (HR2.out.below hb)
  have HB := Lib.hid (HB.out.trans (Below.mono hb HB.out.size))
  clear hb
  generalize hkk : cnt a n = k at *
  clear hkk
  generalize a / 256 = q at *
  go_wp2_with fail
  go_loopg [25] k (fun m i_ wr => ∃ i : Nat, i_ = .int .i64 (i : Int) ∧ m = k - i ∧ i ≤ k ∧ ∃ t, wr = w3.drewN t)
  case atStart => exact ⟨0, rfl, rfl, by omega, 0, rfl⟩
  case round =>
    obtain ⟨i, rfl, hm, hi, t, rfl⟩ := hrel
    have HM := Lib.hid hm
    clear hm
    by_cases hlt : i < k
    · obtain ⟨b1, rfl⟩ := HR.out.some_ (by omega)
      obtain ⟨b2, rfl⟩ := HR2.out.some_ (by omega)
      have d1 : w3.cell? ⟨b1, i, none⟩ = some (.int .i64 (q + (i : Int))) := (HR.out.cell i (by omega)).trans (up_get q k i hlt)
      have d2 : w3.cell? ⟨b2, i, none⟩ = some (.int .i64 (q + (i : Int))) := (HR2.out.cell i (by omega)).trans (up_get q k i hlt)
      generalize q + (i : Int) = y at *
      go_wp2_with fail
      go_quiet (fail)
      go_wp2_with fail
      go_roundg (k - (i + 1))
      case measure => have := HM.out; omega
      case rel => exact ⟨i + 1, by go_num, rfl, by omega, _, rfl⟩
    · obtain rfl : i = k := by omega
      go_wp2_with fail
      go_ret
      exact ⟨by first | rfl | simp, below_drewN HB.out _⟩
end Go.Proofs.Ytdpbfmookhgilaa
