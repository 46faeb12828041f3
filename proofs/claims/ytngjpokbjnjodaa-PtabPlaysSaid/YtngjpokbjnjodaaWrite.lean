import Derived.Test.YtngjpokbjnjodaaLeaves
import Derived.Laws.CopyRow
import Derived.Deep.QuietTactic
import Derived.BigQuiet
/- Write, Frame. -/
namespace Go.Proofs.Ytngjpokbjnjodaa
open Go.RowKit Go.BigFrame
set_option linter.unusedVariables false
set_option linter.unusedSimpArgs false
attribute [local go_sem] szIs_lit row_at row_past row_alloc nf_alloc row_set nf_set row_cell nf_cell row_drew nf_drew row_drewN nf_drewN cell_setRow frozen_setRow nlt1 nlt2 nlt3 nlt4 nne1 nne2 nne3 nen1 nen2 nen3
attribute [local go_sem] by_get by_set
theorem byT : ElT Try.prog 53 5 1 1 (.int .u8 0) := ⟨by kernel_rfl, by kernel_rfl, rfl, by simp [Value.cells, Value.oneCell'], by decide⟩
/-- 256 cells from o on are x. -/
def filM (M : Nat → Int) (o : Nat) (x : Int) : Nat → Int := fun j => if o ≤ j ∧ j < o + 256 then x else M j
theorem filM_byte {M : Nat → Int} (h : ∀ i, isByte (M i)) (o : Nat) (x : Int) (hx : isByte x) : ∀ i, isByte (filM M o x i) := fun i => by
  unfold filM; split
  · exact hx
  · exact h i
def fv (x : Int) : List Value := List.replicate 256 (Value.int .u8 x)
theorem fv_row (M : Nat → Int) (n o : Nat) (x : Int) (ho : o + 256 ≤ n) : ((bytes M n).toList.take o ++ fv x ++ (bytes M n).toList.drop (o + (fv x).length)).toArray = bytes (filM M o x) n := by
  apply Array.toList_inj.1
  apply List.ext_getElem?
  intro i
  have hl : (fv x).length = 256 := List.length_replicate
  have e : ∀ M, (bytes M n).toList = (List.range n).map fun i => Value.int .u8 (M i) := fun M => rfl
  have htl : ((bytes M n).toList.take o).length = o := by rw [e]; simp; omega
  rw [hl]
  show (_ : List Value)[i]? = (bytes (filM M o x) n).toList[i]?
  rw [e (filM M o x)]
  simp only [List.append_assoc]
  rw [List.getElem?_append, htl]
  by_cases h1 : i < o
  · rw [if_pos h1, List.getElem?_take, if_pos h1, e]
    have : i < n := by omega
    simp [filM, this]; intro h; omega
  · rw [if_neg h1, List.getElem?_append, hl]
    by_cases h2 : i - o < 256
    · rw [if_pos h2]
      have hin : i < n := by omega
      have hf : filM M o x i = x := by unfold filM; rw [if_pos (by omega)]
      unfold fv
      rw [List.getElem?_replicate, if_pos h2, List.getElem?_map, List.getElem?_range hin, Option.map_some, hf]
    · rw [if_neg h2, List.getElem?_drop, e, show o + 256 + (i - o - 256) = i by omega]
      by_cases h3 : i < n
      · simp [filM, h3]; intro h h'; omega
      · simp [h3]
theorem copy_fill {w : World} {b n o : Nat} {M : Nat → Int} (h : Blk w b (bytes M n)) (ho : o + 256 ≤ n) (ty : TypeId) (ad : Addr) (sc : Nat) (x : Int) (hs : ∀ j, j < 256 → w.cell? (ad.add j) = some (.int .u8 x)) :
    ∃ w', (Builtin.copy_ #[53, 53] ty #[.slice (some ⟨b, o, none⟩) 256 256, .slice (some ad) 256 sc]).run Try.prog w = .ok (.int .i64 256) w' ∧ Blk w' b (bytes (filM M o x) n) ∧ w.grownBy w' (some b) := by
  obtain ⟨t, hg⟩ := nf_iff h.2
  rw [h.1] at hg
  have hl : (fv x).length = 256 := List.length_replicate
  have hr := run_copy_row (P := Try.prog) w 53 53 ty 5 b o 256 256 ad 256 sc (bytes M n) t (fv x) byT.ht (by kernel_rfl) hg (by rw [hl]; rfl) (fun j v hv => by
    unfold fv at hv
    rw [List.getElem?_replicate] at hv
    split at hv
    · injection hv with hv; subst hv; exact hs j (by assumption)
    · cases hv) (by rw [hl, by_size]; exact ho) (fun v hv => by rw [(List.mem_replicate.1 hv).2]; rfl)
  rw [fv_row M n o x ho, hl] at hr
  refine ⟨_, hr, ?_, ?_⟩
  · exact ⟨by rw [row_set h.2]; simp, by rw [nf_set]; exact h.2⟩
  · exact ⟨rfl, rfl, rfl, by simp, fun k hk hne => setRow_other w b k _ (by simpa using hne)⟩
section
variable {w w' : World} {g b F : Nat} {M : Nat → Int}
set_option maxRecDepth 20000 in
theorem write_ok (h : MP w g b F M) (k : Nat) (hk : k < F) (ad : Addr) (c : Nat) (x : Int) (hx : isByte x) (hs : ∀ j, j < 256 → w.cell? (ad.add j) = some (.int .u8 x)) : Calls Try.prog 26 #[.pointer (some ⟨g, 0, none⟩), .int .i64 (256 * (k : Int)), .slice (some ad) 256 c] w fun e w' => (∃ v, e = .returned v) ∧ MP w' g b F (filM M (k * 256) x) ∧ w.grownBy w' (some b) := by
  have hsp := span_ok g b (F * 256) (k * 256) 256 M w h.hg h.hb h.hn (by omega) (by omega)
  rw [show ((k * 256 : Nat) : Int) = 256 * (k : Int) by omega] at hsp
  have HSP := Lib.hid hsp
  obtain ⟨w2, q1, q2, q3⟩ := copy_fill h.hb (show k * 256 + 256 ≤ F * 256 by omega) 3 ad c x hs
  have HQ := Lib.hid (And.intro (h.put q2 q3 (filM_byte h.by_ _ _ hx)) q3)
  clear h hsp q2 q3 hs
  go_enter Try.func26, Try.ntmps26
  go_wp2_with fail
  refine HSP.out.mono ?_
  rintro r w' ⟨rfl, rfl⟩
  go_wp2
  go_ret
  exact ⟨⟨_, rfl⟩, HQ.out⟩
theorem bs53e (w : World) : (Instr.buildSlice 53 0 #[]).run Try.prog w = .ok (.slice (some ⟨w.heap.size, 0, none⟩) 0 0) (w.alloc (.cells #[] 5)) := by
  simp [go_sem]
theorem eql53_some (a : Addr) (n c : Nat) (w : World) : (binOp .eql 53 (.slice (some a) n c) (.slice none 0 0)).run Try.prog w = .ok (.bool false) w := by kernel_rfl
def pv (M : Nat → Int) (o : Nat) : List Value := (List.range 256).map fun i => Value.int .u8 (M (o + i))
theorem pv_len (M : Nat → Int) (o : Nat) : (pv M o).length = 256 := by simp [pv]
set_option maxHeartbeats 1000000 in
set_option maxRecDepth 20000 in
theorem clone_pv (h : MP w g b F M) (k : Nat) (hk : k < F) : Calls Try.prog 52 #[.slice (some ⟨b, k * 256, none⟩) 256 256] w fun e w' => (∃ x c, e = .returned (.slice (some ⟨x, 0, none⟩) 256 c) ∧ Rw w' 5 1 (some ⟨x, 0, none⟩) 256 c (pv M (k * 256)) ∧ w.heap.size ≤ x) ∧ Below w.heap.size w w' := by
  have hB1 : Below w.heap.size w (w.alloc (.cells #[] 5)) := (Below.refl _ _).alloc (Nat.le_refl _) _
  have hm := h.below hB1
  have hq := fun w => eql53_some ⟨b, k * 256, none⟩ 256 256 w
  obtain ⟨A2, c2, w2, e1, e2, e3, e4⟩ := rw_append (P := Try.prog) byT 53 (Rw.fresh w 5 #[] 0 0 (Nat.le_refl _) (by unfold maxLen; omega) rfl) (some ⟨b, k * 256, none⟩) 256 256 (pv M (k * 256)) (by rw [pv_len]) (Rd.of_cells (fun j u hu => by
    have hj : j < 256 := by have := (List.getElem?_eq_some_iff.1 hu).1; rwa [pv_len] at this
    unfold pv at hu
    rw [List.getElem?_map, List.getElem?_range hj] at hu
    simp at hu
    subst hu
    exact (hm.hb.all.2.2.1 _).trans (by_get _ _ _ (by omega))) (fun u hu => by
    unfold pv at hu; obtain ⟨i, _, rfl⟩ := List.mem_map.1 hu; rfl)) (by intro e; cases e) (by unfold maxLen; omega) (by omega)
  simp only [Nat.zero_add] at e1 e2
  have hbs := bs53e w
  have HE1 := Lib.hid e1
  have HE := Lib.hid (And.intro e2 (And.intro e3 e4))
  have HB := Lib.hid hB1
  clear e1 e2 e3 e4 hB1 hm h
  go_enter Try.func52, Try.ntmps52
  go_wp2_with (at_builtin; (refine wpList_run rfl (s := Builtin.append_ #[53, 53] 53 #[.slice (some ⟨w.heap.size, 0, none⟩) 0 0, .slice (some ⟨b, k * 256, none⟩) 256 256]) (by kernel_rfl) HE1.out ?_))
  go_ret
  obtain ⟨x2, x3, x4⟩ := HE.out
  have x2 : Rw w2 5 1 A2 256 c2 (pv M (k * 256)) := by simpa using x2
  obtain ⟨bb, rfl⟩ := x2.some_ (by omega)
  refine ⟨⟨bb, c2, by first | rfl | simp, x2, ?_⟩, HB.out.trans (x3.below (B := w.heap.size) (fun k hk q => ?_) HB.out.size)⟩
  · rcases x4 with e | e
    · simp [blkOf] at e; omega
    · simp [blkOf] at e; have := HB.out.size; omega
  · simp [blkOf] at q; omega
set_option maxRecDepth 20000 in
theorem frame_cl (h : MP w g b F M) (k : Nat) (hk : k < F) : Calls Try.prog 27 #[.pointer (some ⟨g, 0, none⟩), .int .i64 (k : Int)] w fun e w' => (∃ x c, e = .returned (.tuple #[.slice (some ⟨x, 0, none⟩) 256 c, .int .i64 0]) ∧ Rw w' 5 1 (some ⟨x, 0, none⟩) 256 c (pv M (k * 256)) ∧ w.heap.size ≤ x) ∧ Below w.heap.size w w' := by
  have HF := Lib.hid (framei_ok h k hk)
  have HC := Lib.hid (clone_pv h k hk)
  clear h
  go_enter Try.func27, Try.ntmps27
  go_wp2_with fail
  refine HF.out.mono ?_
  rintro r w' ⟨rfl, rfl⟩
  go_wp2_with fail
  refine HC.out.mono ?_
  rintro r w' ⟨⟨x, c, rfl, h1, h2⟩, h3⟩
  have HX := Lib.hid (And.intro h1 (And.intro h2 h3))
  clear h1 h2 h3
  go_wp2
  go_ret2
  exact ⟨⟨x, c, by first | rfl | simp, HX.out.1, HX.out.2.1⟩, HX.out.2.2⟩
end
end Go.Proofs.Ytngjpokbjnjodaa
