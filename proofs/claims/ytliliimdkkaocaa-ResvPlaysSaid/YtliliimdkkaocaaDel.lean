import Derived.Test.YtliliimdkkaocaaAdmit
import Derived.Laws.OwnMore
import Derived.Laws.IdiomCopy
/- slices.Delete of one seat. -/
namespace Go.Proofs.Ytliliimdkkaocaa
open Go.RowKit
set_option linter.unusedVariables false
set_option linter.unusedSimpArgs false
attribute [local go_sem] szIs_lit row_at row_past row_alloc nf_alloc row_set nf_set row_cell nf_cell row_drew nf_drew row_drewN nf_drewN cell_setRow frozen_setRow nlt1 nlt2 nlt3 nlt4 nne1 nne2 nne3 nen1 nen2 nen3

theorem ty36 : Try.prog.underlying 36 = some (.slice 39) := by kernel_rfl
theorem e36 : Try.prog.elem 36 = 39 := by kernel_rfl
theorem i39 : (Try.prog.info? 39).map (fun i => (i.zero, i.size, i.bytes)) = some (some (.agg #[.int .i64 0, .int .i64 0, .int .i64 0, .bool false]), 4, 32) := by kernel_rfl
theorem sz39 (w : World) : (sizeOf (Try.prog.elem 36)).run Try.prog w = .ok 4 w := by kernel_rfl
theorem zero39 (w : World) : (zeroValue 39).run Try.prog w = .ok (.agg #[.int .i64 0, .int .i64 0, .int .i64 0, .bool false]) w := by kernel_rfl
def zcs : List Value := [.int .i64 0, .int .i64 0, .int .i64 0, .bool false]
theorem run_clear1 (w : World) (b o c : Nat) (ty : TypeId) (hc : ∀ j, j < 4 → (w.cell? ⟨b, o + j, none⟩).isSome = true) (hf : ∀ j, j < 4 → w.frozen? ⟨b, o + j, none⟩ = false) :
    (Builtin.clear_ #[36] ty #[.slice (some ⟨b, o, none⟩) 1 c]).run Try.prog w = .ok (.tuple #[]) (w.setCells b o zcs) := by
  have hst := run_storeCells_cells (P := Try.prog) b o zcs 0 w (by simpa [zcs] using hc) (by simpa [zcs] using hf) (by intro v hv'; simp [zcs] at hv'; rcases hv' with rfl | rfl <;> rfl)
  simp only [Nat.add_zero] at hst
  have hz : (Builtin.zeroCells #[.int .i64 0, .int .i64 0, .int .i64 0, .bool false] 1).toList = zcs := by simp [Builtin.zeroCells, zcs, Array.range, List.range_succ]
  simp [Builtin.clear_, run_underlying ty36, zero39, Value.cells, hz, hst]
theorem SeatsAt.row {w : World} {base b c : Nat} {L : List Seat} (h : SeatsAt w base (some ⟨b, 0, none⟩) c L) : base ≤ b ∧ ∃ cur, w.heap[b]? = some (.cells cur 39 (0, 0)) ∧ L.length ≤ c ∧ c ≤ maxLen ∧ cur.size = c * 4 ∧ cur.toList.take (L.length * 4) = flat L := by
  rcases h.2 with ⟨hv, _⟩ | ⟨g, cap, cur, hv, hb, hgg, h1, h2, h3, h4⟩
  · simp at hv
  · simp only [Value.slice.injEq, Option.some.injEq, Addr.mk.injEq, and_true, true_and] at hv
    obtain ⟨rfl, rfl⟩ := hv
    exact ⟨hb, cur, hgg, h1, h2, h3, h4⟩
theorem SeatsAt.of_row {w : World} {base b c : Nat} {L : List Seat} {cur : Array Value} (hb : base ≤ b) (hg : w.heap[b]? = some (.cells cur 39 (0, 0))) (h1 : L.length ≤ c) (h2 : c ≤ maxLen) (h3 : cur.size = c * 4) (h4 : cur.toList.take (L.length * 4) = flat L) : SeatsAt w base (some ⟨b, 0, none⟩) c L :=
  ⟨flat_len L, .inr ⟨b, c, cur, rfl, hb, hg, h1, h2, h3, h4⟩⟩
/-- What stands ahead of a place. -/
theorem SeatsAt.pre {w : World} {base b c : Nat} {L : List Seat} (h : SeatsAt w base (some ⟨b, 0, none⟩) c L) (i : Nat) (hi : i ≤ L.length) : SeatsAt w base (some ⟨b, 0, none⟩) c (L.take i) := by
  obtain ⟨hb, cur, hg, h1, h2, h3, h4⟩ := h.row
  refine SeatsAt.of_row hb hg (by simp; omega) h2 h3 ?_
  rw [List.length_take, Nat.min_eq_left hi, ← flat_take, ← h4, List.take_take, Nat.min_eq_left (by omega)]
/-- Cells behind the row may change. -/
theorem SeatsAt.past {base b c : Nat} {L : List Seat} : ∀ (vs : List Value) (w : World) (o : Nat), SeatsAt w base (some ⟨b, 0, none⟩) c L → L.length * 4 ≤ o → SeatsAt (w.setCells b o vs) base (some ⟨b, 0, none⟩) c L ∧ w.grownBy (w.setCells b o vs) (some b)
  | [], w, o, h, ho => ⟨h, rfl, rfl, rfl, Nat.le_refl _, fun _ _ _ => rfl⟩
  | v :: r, w, o, h, ho => by
    have h1 : SeatsAt (w.setCell ⟨b, o, none⟩ v) base (some ⟨b, 0, none⟩) c L := by
      obtain ⟨hb, cur, hg, h1, h2, h3, h4⟩ := h.row
      have hs : (w.setCell ⟨b, o, none⟩ v).heap[b]? = some (.cells (cur.setIfInBounds o v) 39 (0, 0)) := by
        simp [World.setCell, Array.getElem?_modify, hg]
      refine SeatsAt.of_row hb hs h1 h2 (by simpa using h3) ?_
      rw [← h4]
      simp only [Array.toList_setIfInBounds]
      rw [List.take_set_of_le ho]
    obtain ⟨q1, q2⟩ := SeatsAt.past r (w.setCell ⟨b, o, none⟩ v) (o + 1) h1 (by omega)
    refine ⟨q1, q2.os, q2.tape, q2.output, ?_, fun k hk hne => ?_⟩
    · have := q2.size
      rw [show w.setCells b o (v :: r) = (w.setCell ⟨b, o, none⟩ v).setCells b (o + 1) r from rfl]
      simpa using this
    · rw [show w.setCells b o (v :: r) = (w.setCell ⟨b, o, none⟩ v).setCells b (o + 1) r from rfl, q2.block k (by simpa using hk) hne]
      exact heap_setCell_other w ⟨b, o, none⟩ k v (fun e => hne (by rw [e]))
theorem del_app {w : World} {base b c : Nat} {L : List Seat} (h : SeatsAt w base (some ⟨b, 0, none⟩) c L) (i m : Nat) (hN : L.length = i + 1 + m) (ty : TypeId) (c2 : Nat) (A2 : Option Addr) (hA : 0 < m → A2 = some ⟨b, (i + 1) * 4, none⟩) (hA2 : A2.isSome = true) :
    ∃ w', (Builtin.append_ #[36, 36] ty #[.slice (some ⟨b, 0, none⟩) i c, .slice A2 m c2]).run Try.prog w = .ok (.slice (some ⟨b, 0, none⟩) (i + m) c) w' ∧ SeatsAt w' base (some ⟨b, 0, none⟩) c (L.eraseIdx i) ∧ w.grownBy w' (some b) ∧ ∀ j, w'.frozen? ⟨b, j, none⟩ = false := by
  obtain ⟨I, hI, hI2⟩ : ∃ I, Try.prog.info? 39 = some I ∧ I.size = 4 := by
    have := i39
    cases hq : Try.prog.info? 39 with
    | none => simp [hq] at this
    | some I => exact ⟨I, rfl, by simpa [hq] using (by simpa [hq] using this : _ ∧ I.size = 4 ∧ _).2.1⟩
  obtain ⟨hb, cur, hg, h1, h2, h3, h4⟩ := h.row
  have hp := h.pre i (by omega)
  have hp2 : w.ownsRow base 39 4 (.slice (some ⟨b, 0, none⟩) i c) i (flat (L.take i)) := by
    have := hp; unfold SeatsAt at this; rwa [List.length_take, Nat.min_eq_left (by omega)] at this
  obtain ⟨a, rfl⟩ := Option.isSome_iff_exists.1 hA2
  have hlen : (L.drop (i + 1)).length = m := by simp; omega
  obtain ⟨w', e1, e2, e3⟩ := run_append_fits (P := Try.prog) (w := w) base 36 ty 39 I 4 ty36 hI hI2 b i c (flat (L.take i)) hp2 a m c2 (flat (L.drop (i + 1))) (by rw [flat_len, hlen]) (fun j u hu => by
      have hj : j < m * 4 := by have := (List.getElem?_eq_some_iff.1 hu).1; rwa [flat_len, hlen] at this
      have ha := hA (by omega)
      injection ha with ha
      subst ha
      have : (⟨b, (i + 1) * 4, none⟩ : Addr).add j = ⟨b, (i + 1) * 4 + j, none⟩ := by unfold Addr.add; split <;> simp_all
      rw [this, World.ownsRow.cellAt h ((i + 1) * 4 + j) (by omega), ← hu, ← flat_drop, List.getElem?_drop]) (fun u hu => by
      unfold flat at hu
      obtain ⟨s, _, hs⟩ := List.mem_flatMap.1 hu
      simp [Seat.cs] at hs
      rcases hs with rfl | rfl | rfl | rfl <;> rfl) (by omega)
  have hS : SeatsAt w' base (some ⟨b, 0, none⟩) c (L.eraseIdx i) := by
    unfold SeatsAt
    rw [List.eraseIdx_eq_take_drop_succ, flat_app, List.length_append, List.length_take, hlen, Nat.min_eq_left (by omega)]
    exact e2
  refine ⟨w', e1, hS, e3, fun j => ?_⟩
  obtain ⟨_, cur, hg, _⟩ := hS.row
  exact frozen_of_row w' b j cur 39 hg
theorem cut36h (A : Addr) (len cap i : Nat) (hi : i ≤ cap) (w : World) : (Instr.slice 36 (.slice (some A) len cap) none (some (.int .i64 (i : Int))) none).run Try.prog w = .ok (.slice (some A) i cap) w := by
  have := run_slice_h (P := Try.prog) w 36 (some A) len cap (e36 ▸ ty36) .i64 (i : Int) (by omega) (by omega)
  rw [this, sz39 w]
  simp [sliced, Result.andThen]
  intro _
  unfold Addr.add; simp
theorem cut36l (b len cap k : Nat) (hk : k ≤ len) : ∃ A', (∀ w : World, (Instr.slice 36 (.slice (some ⟨b, 0, none⟩) len cap) (some (.int .i64 (k : Int))) none none).run Try.prog w = .ok (.slice A' (len - k) (cap - k)) w) ∧ (len < cap ∨ k < len → len ≤ cap → A' = some ⟨b, k * 4, none⟩) ∧ A'.isSome = true := by
  have hadd : (⟨b, 0, none⟩ : Addr).add (k * 4) = ⟨b, k * 4, none⟩ := by unfold Addr.add; split <;> simp_all
  refine ⟨if cap = k then some ⟨b, 0, none⟩ else some ⟨b, k * 4, none⟩, fun w => ?_, fun h h2 => by rw [if_neg (by omega)], by split <;> rfl⟩
  have := run_slice_l (P := Try.prog) w 36 (some ⟨b, 0, none⟩) len cap (e36 ▸ ty36) .i64 (k : Int) (by omega) (by omega)
  rw [this, sz39 w]
  simp [sliced, Result.andThen, hadd]
end Go.Proofs.Ytliliimdkkaocaa
