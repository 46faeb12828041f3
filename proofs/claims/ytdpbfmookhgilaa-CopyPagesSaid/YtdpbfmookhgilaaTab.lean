import Derived.Test.YtdpbfmookhgilaaPack
import Derived.Test.YtdpbfmookhgilaaFreeT
import Derived.Test.YtdpbfmookhgilaaHpRow
/- Zero; tables: New, made, may, Walk, Needs, grow, Set, Translate, All. -/
namespace Go.Proofs.Ytdpbfmookhgilaa
open Go.RowKit Go.BigFrame
set_option linter.unusedVariables false
set_option linter.unusedSimpArgs false
attribute [local go_sem] szIs_lit row_at row_past row_alloc nf_alloc row_set nf_set row_cell nf_cell row_drew nf_drew row_drewN nf_drewN cell_setRow frozen_setRow nlt1 nlt2 nlt3 nlt4 nne1 nne2 nne3 nen1 nen2 nen3
attribute [local go_sem] by_get by_set
/-- k cells from o on are zero. -/
def zf (M : Nat → Int) (o k : Nat) : Nat → Int := fun j => if o ≤ j ∧ j < o + k then 0 else M j
theorem setz {b n : Nat} : ∀ (k : Nat) (w : World) (M : Nat → Int) (o : Nat), Blk w b (bytes M n) → o + k ≤ n → Blk (w.setCells b o (List.replicate k (.int .u8 0))) b (bytes (zf M o k) n) ∧ w.grownBy (w.setCells b o (List.replicate k (.int .u8 0))) (some b)
  | 0, w, M, o, h, ho => by
    have e : zf M o 0 = M := by funext j; unfold zf; rw [if_neg (by omega)]
    rw [e]; exact ⟨h, only_refl _ _⟩
  | k + 1, w, M, o, h, ho => by
    have h1 := h.put o (.int .u8 0)
    rw [by_set _ _ _ _ (by omega)] at h1
    obtain ⟨q1, q2⟩ := setz k (w.setCell ⟨b, o, none⟩ (.int .u8 0)) (updM M o 0) (o + 1) h1 (by omega)
    have e : zf (updM M o 0) (o + 1) k = zf M o (k + 1) := by
      funext j
      unfold zf updM
      by_cases hj : j = o
      · subst hj; rw [if_neg (by omega), if_pos rfl, if_pos (by omega)]
      · by_cases h2 : o + 1 ≤ j ∧ j < o + 1 + k
        · rw [if_pos h2, if_pos (by omega)]
        · rw [if_neg h2, if_neg hj, if_neg (by omega)]
    rw [e] at q1
    exact ⟨q1, only_trans (only_cell (only_refl w b) o _) q2⟩
theorem zero5v (w : World) : (zeroValue 5).run Try.prog w = .ok (.int .u8 0) w := by kernel_rfl
theorem zf_byte {M : Nat → Int} (h : ∀ i, isByte (M i)) (o k : Nat) : ∀ i, isByte (zf M o k i) := fun i => by
  unfold zf; split
  · exact ⟨by omega, by omega⟩
  · exact h i
theorem clear_run {w : World} {b n o k c : Nat} {M : Nat → Int} (h : Blk w b (bytes M n)) (ho : o + k ≤ n) (hk : 0 < k) (ty : TypeId) : (Builtin.clear_ #[45] ty #[.slice (some ⟨b, o, none⟩) k c]).run Try.prog w = .ok (.tuple #[]) (w.setCells b o (List.replicate k (.int .u8 0))) := by
  have hst := run_storeCells_cells (P := Try.prog) b o (List.replicate k (.int .u8 0)) 0 w (fun j hj => by
    rw [List.length_replicate] at hj
    rw [(h.all.2.2.1 _), by_get _ _ _ (by omega)]; rfl) (fun j _ => h.all.2.2.2 _) (fun v hv => by rw [(List.mem_replicate.1 hv).2]; rfl)
  obtain ⟨k', rfl⟩ : ∃ k', k = k' + 1 := ⟨k - 1, by omega⟩
  have e : (Builtin.zeroCells (Value.int .u8 0).cells (k' + 1)).toList = List.replicate (k' + 1) (.int .u8 0) := by
    apply List.ext_getElem?
    intro j
    by_cases hj : j < k' + 1
    · simp [Builtin.zeroCells, Value.cells, hj, Nat.mod_one]
    · simp [Builtin.zeroCells, Value.cells, hj]
  simp only [Nat.add_zero] at hst
  simp [Builtin.clear_, run_underlying Try.underlying45, zero5v, e, hst]
theorem clear_nil (w : World) : (Builtin.clear_ #[45] 0 #[.slice none 0 0]).run Try.prog w = .ok (.tuple #[]) w := by
  simp [Builtin.clear_, run_underlying Try.underlying45]
section
variable {w w' : World} {g b F : Nat} {M : Nat → Int}
theorem framei_ok (h : MP w g b F M) (n : Nat) (hn : n < F) : Calls Try.prog 35 #[.pointer (some ⟨g, 0, none⟩), .int .i64 (n : Int)] w fun e w' => e = .returned (.tuple #[.slice (some ⟨b, n * 256, none⟩) 256 256, .int .i64 0]) ∧ w = w' := by
  have HF := Lib.hid h.frames
  have f1 := h.f1
  have hs := span_ok g b (F * 256) (n * 256) 256 M w h.hg h.hb h.hn (by omega) (by omega)
  rw [show ((n * 256 : Nat) : Int) = (n : Int) * 256 by omega] at hs
  have HS := Lib.hid hs
  clear h hs
  go_enter Try.func35, Try.ntmps35
  go_wp2_with fail
  refine HF.out.mono ?_
  rintro e w' ⟨rfl, rfl⟩
  go_wp2_with fail
  refine HS.out.mono ?_
  rintro e w' ⟨rfl, rfl⟩
  go_wp2
  go_ret2
  exact ⟨by first | rfl | simp, rfl⟩
theorem framei_no (h : MP w g b F M) (n : Int) (hn : ¬ (0 ≤ n ∧ n < F)) : Calls Try.prog 35 #[.pointer (some ⟨g, 0, none⟩), .int .i64 n] w fun e w' => e = .returned (.tuple #[.slice none 0 0, .int .i64 10]) ∧ w = w' := by
  have HF := Lib.hid h.frames
  clear h
  by_cases h0 : n < 0
  · clear hn
    go_enter Try.func35, Try.ntmps35
    go_wp2
    go_ret2
    exact ⟨by first | rfl | simp, rfl⟩
  · have h1 : (F : Int) ≤ n := by omega
    have h0' : 0 ≤ n := by omega
    clear hn h0
    go_enter Try.func35, Try.ntmps35
    go_wp2_with fail
    refine HF.out.mono ?_
    rintro e w' ⟨rfl, rfl⟩
    go_wp2
    go_ret2
    exact ⟨by first | rfl | simp, rfl⟩
theorem zero_ok (h : MP w g b F M) (n : Nat) (hn : n < F) : Calls Try.prog 23 #[.pointer (some ⟨g, 0, none⟩), .int .i64 (n : Int)] w fun e w' => e = .returned (.int .i64 0) ∧ MP w' g b F (zf M (n * 256) 256) ∧ w.grownBy w' (some b) := by
  have HF := Lib.hid (framei_ok h n hn)
  obtain ⟨q1, q2⟩ := setz 256 w M (n * 256) h.hb (by omega)
  have HQ := Lib.hid (And.intro (h.put q1 q2 (zf_byte h.by_ _ _)) q2)
  have hcl := clear_run (c := 256) h.hb (show n * 256 + 256 ≤ F * 256 by omega) (by omega) 0
  generalize w.setCells b (n * 256) (List.replicate 256 (.int .u8 0)) = w2 at *
  clear h q1 q2
  go_enter Try.func23, Try.ntmps23
  go_wp2_with fail
  refine HF.out.mono ?_
  rintro e w' ⟨rfl, rfl⟩
  go_wp2
  go_ret
  exact ⟨by first | rfl | simp, HQ.out⟩
theorem zero_no (h : MP w g b F M) (n : Int) (hn : ¬ (0 ≤ n ∧ n < F)) : Calls Try.prog 23 #[.pointer (some ⟨g, 0, none⟩), .int .i64 n] w fun e w' => e = .returned (.int .i64 10) ∧ w = w' := by
  have HF := Lib.hid (framei_no h n hn)
  have hcl := clear_nil w
  clear h hn
  go_enter Try.func23, Try.ntmps23
  go_wp2_with fail
  refine HF.out.mono ?_
  rintro e w' ⟨rfl, rfl⟩
  go_wp2
  go_ret
  exact ⟨by first | rfl | simp, rfl⟩
/-! Walk -/
def wlk (M : Nat → Int) (F root p : Nat) : Int := if hasL M F root p then le32 M (leafF M root p * 256 + 4 * (p % 64)) else 0
theorem walk_nil (root p : Int) (w : World) : Calls Try.prog 42 #[.pointer none, .int .i64 root, .int .i64 p] w fun e w' => e = .returned (.int .u32 0) ∧ w = w' := by
  go_enter Try.func42, Try.ntmps42
  go_wp2
  go_ret
  exact ⟨by first | rfl | simp, rfl⟩
theorem walk_out (h : MP w g b F M) (root p : Int) (hr : ¬ (0 ≤ root ∧ root < F)) : Calls Try.prog 42 #[.pointer (some ⟨g, 0, none⟩), .int .i64 root, .int .i64 p] w fun e w' => e = .returned (.int .u32 0) ∧ w = w' := by
  have HF := Lib.hid h.frames
  clear h
  by_cases h0 : root < 0
  · clear hr
    go_enter Try.func42, Try.ntmps42
    go_wp2
    go_ret
    exact ⟨by first | rfl | simp, rfl⟩
  · have h1 : (F : Int) ≤ root := by omega
    have h0' : 0 ≤ root := by omega
    clear hr h0
    go_enter Try.func42, Try.ntmps42
    go_wp2_with fail
    refine HF.out.mono ?_
    rintro e w' ⟨rfl, rfl⟩
    go_wp2
    go_ret
    exact ⟨by first | rfl | simp, rfl⟩
theorem walk_page (h : MP w g b F M) (root : Nat) (p : Int) (hr : root < F) (hp : ¬ (0 ≤ p ∧ p < 256)) : Calls Try.prog 42 #[.pointer (some ⟨g, 0, none⟩), .int .i64 (root : Int), .int .i64 p] w fun e w' => e = .returned (.int .u32 0) ∧ w = w' := by
  have HF := Lib.hid h.frames
  have HP := Lib.hid (page_no p hp w)
  clear h hp
  go_enter Try.func42, Try.ntmps42
  go_wp2_with fail
  refine HF.out.mono ?_
  rintro e w' ⟨rfl, rfl⟩
  go_wp2_with fail
  refine HP.out.mono ?_
  rintro e w' ⟨rfl, rfl⟩
  go_wp2
  go_ret
  exact ⟨by first | rfl | simp, rfl⟩
theorem leafF_lt (h : MP w g b F M) (root p : Nat) (hl : hasL M F root p = true) : leafF M root p < F := by
  have hr := le32_rng h.by_ (root * 256 + 4 * (p / 64))
  unfold hasL rootW at hl
  simp only [Bool.and_eq_true, decide_eq_true_eq] at hl
  unfold leafF rootW
  omega
set_option maxHeartbeats 1000000 in
theorem walk_ok (h : MP w g b F M) (root p : Nat) (hr : root < F) (hp : p < 256) : Calls Try.prog 42 #[.pointer (some ⟨g, 0, none⟩), .int .i64 (root : Int), .int .i64 (p : Int)] w fun e w' => e = .returned (.int .u32 (wlk M F root p)) ∧ Below w.heap.size w w' := by
  have HF := Lib.hid h.frames
  have HP := Lib.hid (page_yes (p : Int) (by omega) w)
  have HL := leaf_ok h root p hr hp
  have HM := Lib.hid h
  have f1 := h.f1
  cases hl : hasL M F root p with
  | true =>
    have hlt := leafF_lt h root p hl
    have hd : wlk M F root p = le32 M (leafF M root p * 256 + 4 * (p % 64)) := by unfold wlk; rw [hl]; rfl
    rw [hl] at HL
    simp only [if_true] at HL
    rw [hd]
    generalize leafF M root p = f at *
    have HL := Lib.hid HL
    clear h hd hl
    go_enter Try.func42, Try.ntmps42
    go_wp2_with fail
    refine HF.out.mono ?_
    rintro e w' ⟨rfl, rfl⟩
    go_wp2_with fail
    refine HP.out.mono ?_
    rintro e w' ⟨rfl, rfl⟩
    go_wp2_with fail
    refine HL.out.mono ?_
    rintro e w1 ⟨rfl, hb1⟩
    have hld := (HM.out.below hb1).load (f * 256 + 4 * (p % 64)) (by omega) (by omega)
    rw [show ((f * 256 + 4 * (p % 64) : Nat) : Int) = (f : Int) * 256 + 4 * ((p : Int) % 64) by omega] at hld
    have HLD := Lib.hid hld
    have HB := Lib.hid hb1
    clear hb1 hld
    go_wp2_with fail
    refine (at_ok (f : Int) (p : Int) (by omega) (by omega) w1).mono ?_
    rintro e w' ⟨rfl, rfl⟩
    go_wp2_with fail
    refine HLD.out.mono ?_
    rintro e w2 ⟨rfl, hb2⟩
    have HB2 := Lib.hid (HB.out.trans (Below.mono hb2 HB.out.size))
    clear hb2
    go_wp2
    go_ret
    exact ⟨by first | rfl | simp, HB2.out⟩
  | false =>
    have hd : wlk M F root p = 0 := by unfold wlk; rw [hl]; rfl
    rw [hl] at HL
    simp only [Bool.false_eq_true, if_false] at HL
    rw [hd]
    have HL := Lib.hid HL
    clear h hd hl
    go_enter Try.func42, Try.ntmps42
    go_wp2_with fail
    refine HF.out.mono ?_
    rintro e w' ⟨rfl, rfl⟩
    go_wp2_with fail
    refine HP.out.mono ?_
    rintro e w' ⟨rfl, rfl⟩
    go_wp2_with fail
    refine HL.out.mono ?_
    rintro e w1 ⟨rfl, hb1⟩
    have HB := Lib.hid hb1
    clear hb1
    go_wp2
    go_ret
    exact ⟨by first | rfl | simp, HB.out⟩
/-! A table -/
abbrev tabS (g root : Nat) : Array Value := #[.pointer (some ⟨g, 0, none⟩), .int .i64 (root : Int)]
theorem newt_nil (root : Int) (w : World) : Calls Try.prog 12 #[.pointer none, .int .i64 root] w fun e w' => e = .returned (.tuple #[.pointer none, .int .i64 1]) ∧ w = w' := by
  go_enter Try.func12, Try.ntmps12
  go_wp2
  go_ret2
  exact ⟨by first | rfl | simp, rfl⟩
theorem newt_no (h : MP w g b F M) (root : Int) (hr : ¬ (0 ≤ root ∧ root < F)) : Calls Try.prog 12 #[.pointer (some ⟨g, 0, none⟩), .int .i64 root] w fun e w' => e = .returned (.tuple #[.pointer none, .int .i64 10]) ∧ w = w' := by
  have HZ := Lib.hid (zero_no h root hr)
  clear h hr
  go_enter Try.func12, Try.ntmps12
  go_wp2_with fail
  refine HZ.out.mono ?_
  rintro e w' ⟨rfl, rfl⟩
  go_wp2
  go_ret2
  exact ⟨by first | rfl | simp, rfl⟩
theorem newt_ok (h : MP w g b F M) (root : Nat) (hr : root < F) : Calls Try.prog 12 #[.pointer (some ⟨g, 0, none⟩), .int .i64 (root : Int)] w fun e w' => ∃ t, e = .returned (.tuple #[.pointer (some ⟨t, 0, none⟩), .int .i64 0]) ∧ MP w' g b F (zf M (root * 256) 256) ∧ Blk w' t (tabS g root) ∧ w.heap.size ≤ t ∧ w.grownBy w' (some b) := by
  have HZ := Lib.hid (zero_ok h root hr)
  clear h hr
  go_enter Try.func12, Try.ntmps12
  go_wp2_with fail
  refine HZ.out.mono ?_
  rintro e w1 ⟨rfl, h1, h2⟩
  have hb : Below w1.heap.size w1 (w1.alloc (.cells (tabS g root) 74)) := (Below.refl _ _).alloc (Nat.le_refl _) _
  have H1 := Lib.hid (And.intro (h1.below hb) (And.intro (only_below h2 hb) h2.size))
  clear h1 h2 hb
  go_wp2
  go_ret2
  exact ⟨w1.heap.size, by first | rfl | simp, H1.out.1, Blk.of_heap (heap_at (by simp)), H1.out.2.2, H1.out.2.1⟩
end
end Go.Proofs.Ytdpbfmookhgilaa
