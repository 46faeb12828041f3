import Derived.Test.YtdpbfmookhgilaaTab5
import Derived.Test.YtdpbfmookhgilaaHpRow
import Derived.Laws.CopyRow
import Derived.Deep.QuietTactic
import Derived.BigQuiet
/- Write, Store8, Load8. -/
namespace Go.Proofs.Ytdpbfmookhgilaa
open Go.RowKit Go.BigFrame
set_option linter.unusedVariables false
set_option linter.unusedSimpArgs false
attribute [local go_sem] szIs_lit row_at row_past row_alloc nf_alloc row_set nf_set row_cell nf_cell row_drew nf_drew row_drewN nf_drewN cell_setRow frozen_setRow nlt1 nlt2 nlt3 nlt4 nne1 nne2 nne3 nen1 nen2 nen3
attribute [local go_sem] by_get by_set
theorem byT : ElT Try.prog 45 5 1 1 (.int .u8 0) := ⟨by kernel_rfl, by kernel_rfl, rfl, by simp [Value.cells, Value.oneCell'], by decide⟩
/-- Bytes xs from o on. -/
def putB (M : Nat → Int) (o : Nat) (xs : List Int) : Nat → Int := fun j => if o ≤ j ∧ j < o + xs.length then xs.getD (j - o) 0 else M j
theorem putB_byte {M : Nat → Int} (h : ∀ i, isByte (M i)) (o : Nat) (xs : List Int) (hx : ∀ x ∈ xs, isByte x) : ∀ i, isByte (putB M o xs i) := fun i => by
  unfold putB; split
  · rename_i h1
    have hl : i - o < xs.length := by omega
    rw [List.getD_eq_getElem?_getD, List.getElem?_eq_getElem hl]
    exact hx _ (List.getElem_mem hl)
  · exact h i
def b8 (xs : List Int) : List Value := xs.map fun x => Value.int .u8 x
theorem b8_row (M : Nat → Int) (n o : Nat) (xs : List Int) (ho : o + xs.length ≤ n) : ((bytes M n).toList.take o ++ b8 xs ++ (bytes M n).toList.drop (o + (b8 xs).length)).toArray = bytes (putB M o xs) n := by
  apply Array.toList_inj.1
  apply List.ext_getElem?
  intro i
  have hl : (b8 xs).length = xs.length := by simp [b8]
  have e : ∀ M, (bytes M n).toList = (List.range n).map fun i => Value.int .u8 (M i) := fun M => rfl
  have htl : ((bytes M n).toList.take o).length = o := by rw [e]; simp; omega
  rw [hl]
  show (_ : List Value)[i]? = (bytes (putB M o xs) n).toList[i]?
  rw [e (putB M o xs)]
  simp only [List.append_assoc]
  rw [List.getElem?_append, htl]
  by_cases h1 : i < o
  · rw [if_pos h1, List.getElem?_take, if_pos h1, e]
    have : i < n := by omega
    simp [putB, this]; intro h; omega
  · rw [if_neg h1, List.getElem?_append, hl]
    by_cases h2 : i - o < xs.length
    · rw [if_pos h2]
      have hin : i < n := by omega
      have hf : putB M o xs i = xs[i - o] := by
        unfold putB; rw [if_pos (by omega), List.getD_eq_getElem?_getD, List.getElem?_eq_getElem h2]; rfl
      unfold b8
      rw [List.getElem?_map, List.getElem?_eq_getElem h2, List.getElem?_map, List.getElem?_range hin, Option.map_some, Option.map_some, hf]
    · rw [if_neg h2, List.getElem?_drop, e, show o + xs.length + (i - o - xs.length) = i by omega]
      by_cases h3 : i < n
      · simp [putB, h3]; intro h h'; omega
      · simp [h3]
theorem copy_put {w : World} {b n o m : Nat} {M : Nat → Int} (h : Blk w b (bytes M n)) (xs : List Int) (hm : xs.length = m) (ho : o + m ≤ n) (ty : TypeId) (ad : Addr) (sc : Nat) (hs : ∀ j v, xs[j]? = some v → w.cell? (ad.add j) = some (.int .u8 v)) :
    ∃ w', (Builtin.copy_ #[45, 45] ty #[.slice (some ⟨b, o, none⟩) m m, .slice (some ad) m sc]).run Try.prog w = .ok (.int .i64 (m : Int)) w' ∧ Blk w' b (bytes (putB M o xs) n) ∧ w.grownBy w' (some b) := by
  obtain ⟨t, hg⟩ := nf_iff h.2
  rw [h.1] at hg
  have hl : (b8 xs).length = m := by simp [b8, hm]
  have hr := run_copy_row (P := Try.prog) w 45 45 ty 5 b o m m ad m sc (bytes M n) t (b8 xs) byT.ht (by kernel_rfl) hg (by rw [hl]; exact (Nat.min_self m).symm) (fun j v hv => by
    unfold b8 at hv
    rw [List.getElem?_map] at hv
    cases hx : xs[j]? with
    | none => rw [hx] at hv; cases hv
    | some y => rw [hx] at hv; injection hv with hv; subst hv; exact hs j y hx) (by rw [hl, by_size]; exact ho) (fun v hv => by
    unfold b8 at hv
    obtain ⟨y, _, rfl⟩ := List.mem_map.1 hv; rfl)
  rw [b8_row M n o xs (by omega), hl] at hr
  refine ⟨_, hr, ?_, ?_⟩
  · exact ⟨by rw [row_set h.2]; simp, by rw [nf_set]; exact h.2⟩
  · exact ⟨rfl, rfl, rfl, by simp, fun k hk hne => setRow_other w b k _ (by simpa using hne)⟩
section
variable {w w' : World} {g b F : Nat} {M : Nat → Int}
set_option maxRecDepth 20000 in
theorem write_xs (h : MP w g b F M) (a m : Nat) (xs : List Int) (hm : xs.length = m) (hm1 : 1 ≤ m) (ha : a + m ≤ F * 256) (ad : Addr) (c : Nat) (hx : ∀ x ∈ xs, isByte x) (hs : ∀ j v, xs[j]? = some v → w.cell? (ad.add j) = some (.int .u8 v)) : Calls Try.prog 19 #[.pointer (some ⟨g, 0, none⟩), .int .i64 (a : Int), .slice (some ad) m c] w fun e w' => e = .returned (.int .i64 0) ∧ MP w' g b F (putB M a xs) ∧ w.grownBy w' (some b) := by
  have HSP := Lib.hid (span_ok g b (F * 256) a m M w h.hg h.hb h.hn (by omega) ha)
  obtain ⟨w2, q1, q2, q3⟩ := copy_put h.hb xs hm ha 3 ad c hs
  have HQ := Lib.hid (And.intro (h.put q2 q3 (putB_byte h.by_ _ _ hx)) q3)
  clear h q2 q3 hs
  go_enter Try.func19, Try.ntmps19
  go_wp2_with fail
  refine HSP.out.mono ?_
  rintro r w' ⟨rfl, rfl⟩
  go_wp2
  go_ret
  exact ⟨by first | rfl | simp, HQ.out⟩
theorem bs45 (x : Int) (w : World) : (Instr.buildSlice 45 1 #[(0, .int .u8 x)]).run Try.prog w = .ok (.slice (some ⟨w.heap.size, 0, none⟩) 1 1) (w.alloc (.cells #[.int .u8 x] 5)) := by simp [go_sem]
theorem store8_ok (h : MP w g b F M) (a : Nat) (ha : a < F * 256) (x : Int) (hx : isByte x) : Calls Try.prog 14 #[.pointer (some ⟨g, 0, none⟩), .int .i64 (a : Int), .int .u8 x] w fun e w' => e = .returned (.int .i64 0) ∧ MP w' g b F (putB M a [x]) ∧ w.grownBy w' (some b) := by
  have hB : Below w.heap.size w (w.alloc (.cells #[.int .u8 x] 5)) := (Below.refl _ _).alloc (Nat.le_refl _) _
  have HW := Lib.hid (write_xs (h.below hB) a 1 [x] rfl (by decide) (by omega) ⟨w.heap.size, 0, none⟩ 1 (by simpa using hx) (fun j v hv => by
    cases j with
    | zero => simp at hv; subst hv; simp [go_sem]
    | succ j => simp at hv))
  have hbs := bs45 x
  clear h
  go_enter Try.func14, Try.ntmps14
  go_wp2_with fail
  refine HW.out.mono ?_
  rintro r w' ⟨rfl, q1, q2⟩
  go_wp2
  go_ret
  exact ⟨by first | rfl | simp, q1, below_only_r hB q2⟩
theorem load8_ok (h : MP w g b F M) (a : Nat) (ha : a < F * 256) : Calls Try.prog 9 #[.pointer (some ⟨g, 0, none⟩), .int .i64 (a : Int)] w fun e w' => e = .returned (.tuple #[.int .u8 (M a), .int .i64 0]) ∧ w = w' := by
  have Hs := Lib.hid (span_ok g b (F * 256) a 1 M w h.hg h.hb h.hn (by decide) (by omega))
  obtain ⟨mr, mn, mc, mf⟩ := h.hb.all
  clear h
  go_enter Try.func9, Try.ntmps9
  go_wp2_with fail
  refine (Hs.out).mono ?_; rintro e w' ⟨rfl, rfl⟩
  go_wp2
  go_ret2
  exact ⟨by first | rfl | simp, rfl⟩
theorem TB.far {M' : Nat → Int} {root : Nat} {L : Nat → Option Nat} {E : Nat → Int} (h : TB M F root L E) (hM : ∀ i, 4096 ≤ i → M' i = M i) (hr : 16 ≤ root) (hL : ∀ k f, k < 4 → L k = some f → 16 ≤ f) : TB M' F root L E := by
  have e : ∀ a, 4096 ≤ a → le32 M' a = le32 M a := fun a ha => by unfold le32; rw [hM a ha, hM (a + 1) (by omega), hM (a + 2) (by omega), hM (a + 3) (by omega)]
  refine ⟨fun k hk hl => ?_, fun k hk f hf => ?_, h.inj, fun p hp f hf => ?_, h.no⟩
  · rw [e _ (by omega)]; exact h.nn k hk hl
  · rw [e _ (by omega)]; exact h.sm k hk f hf
  · have := hL (p / 64) f (by omega) hf
    rw [e _ (by omega)]; exact h.ent p hp f hf
end
end Go.Proofs.Ytdpbfmookhgilaa
