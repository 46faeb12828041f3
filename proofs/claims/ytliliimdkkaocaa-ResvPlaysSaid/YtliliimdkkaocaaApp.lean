import Derived.Test.YtliliimdkkaocaaDelW
import Derived.Test.YtliliimdkkaocaaMoves
/- A row of seats grows; the gate's row is another. -/
namespace Go.Proofs.Ytliliimdkkaocaa
open Go.RowKit
set_option linter.unusedVariables false
set_option linter.unusedSimpArgs false
attribute [local go_sem] szIs_lit row_at row_past row_alloc nf_alloc row_set nf_set row_cell nf_cell row_drew nf_drew row_drewN nf_drewN cell_setRow frozen_setRow nlt1 nlt2 nlt3 nlt4 nne1 nne2 nne3 nen1 nen2 nen3

theorem flat_one : ∀ (L : List Seat) (u : Value), u ∈ flat L → u.oneCell' = true := fun L u hu => by
  unfold flat at hu
  obtain ⟨s, _, hs⟩ := List.mem_flatMap.1 hu
  simp [Seat.cs] at hs
  rcases hs with rfl | rfl | rfl | rfl <;> rfl
theorem app_seats {w : World} {base c : Nat} {A : Option Addr} {L : List Seat} (h : SeatsAt w base A c L) (ty : TypeId) (a : Addr) (T : List Seat) (c' : Nat) (hr : ∀ j u, (flat T)[j]? = some u → w.cell? (a.add j) = some u) (hlen : L.length + T.length ≤ 1000) (hb : base ≤ w.heap.size) :
    ∃ A2 c2 w', (Builtin.append_ #[36, 36] ty #[.slice A L.length c, .slice (some a) T.length c']).run Try.prog w = .ok (.slice A2 (L ++ T).length c2) w' ∧ SeatsAt w' base A2 c2 (L ++ T) ∧ w.grownBy w' (inB A) ∧ (inB A2 = inB A ∨ inB A2 = some w.heap.size) := by
  obtain ⟨i0, hi0, hz0, hz1, hz2⟩ := info_parts i39
  obtain ⟨v', w', hrun, h2, h3, h4, h5⟩ := run_append_own_at (P := Try.prog) w base 36 ty 39 i0 (.agg #[.int .i64 0, .int .i64 0, .int .i64 0, .bool false]) 4 32 ty36 hi0 hz0 hz1 hz2 (by simp [Value.cells]) (by omega) _ L.length (flat L) h a T.length c' (flat T) (flat_len T) hr (flat_one T) (by unfold maxLen; omega) (by omega) hb
  obtain ⟨A2, c2, rfl⟩ : ∃ A2 c2, v' = .slice A2 (L.length + T.length) c2 := by
    rcases h2.2 with ⟨hv, h0⟩ | ⟨g, cap, cur, hv, _⟩
    · exact ⟨none, 0, by rw [hv, h0]⟩
    · exact ⟨_, _, hv⟩
  simp only [own_blk] at h3 h5
  refine ⟨A2, c2, w', by rw [List.length_append]; exact hrun, ?_, h3, h5⟩
  unfold SeatsAt
  rw [List.length_append, flat_app]
  exact h2
theorem app_none {w : World} {base c : Nat} {A : Option Addr} {L : List Seat} (h : SeatsAt w base A c L) (ty : TypeId) (c' : Nat) :
    (Builtin.append_ #[36, 36] ty #[.slice A L.length c, .slice none 0 c']).run Try.prog w = .ok (.slice A L.length c) w := by
  obtain ⟨i0, hi0, hz0, hz1, hz2⟩ := info_parts i39
  rcases h.2 with ⟨hv, h0⟩ | ⟨g, cap, cur, hv, _, _, hnc, _⟩
  · injection hv with h1 h2 h3
    rw [h1, h2, h3]
    simp [Builtin.append_, run_underlying ty36, sizeOf, typeInfo, hi0, Builtin.lenOf, Builtin.firstCells]
  · injection hv with h1 h2 h3
    subst h1 h3
    simp [Builtin.append_, run_underlying ty36, sizeOf, typeInfo, hi0, Builtin.lenOf, Builtin.firstCells, hnc, storeCells]
/-- The gate gets another row. -/
theorem GateA.regate {w w2 : World} {base g c c2 : Nat} {A A2 : Option Addr} {size live : Int} {L L2 : List Seat} (h : GateA w base g A c size live L) (hg : w.grownBy w2 (inB A)) (h2 : SeatsAt w2 base A2 c2 L2) (hA : inB A2 = inB A ∨ ∃ k, inB A2 = some k ∧ w.heap.size ≤ k) :
    GateA (w2.setCell ⟨g, 2, none⟩ (.slice A2 L2.length c2)) base g A2 c2 size live L2 ∧ FrG w (w2.setCell ⟨g, 2, none⟩ (.slice A2 L2.length c2)) g A A2 := by
  have hgA : inB A2 ≠ some g := by
    rcases hA with e | ⟨k, e, hk⟩
    · rw [e]; exact h.ag
    · rw [e]; intro e2; injection e2 with e2; have := h.blk.lt; omega
  have hb2 : w2.heap[g]? = w.heap[g]? := hg.block g h.blk.lt (fun e => h.ag e.symm)
  have hB2 : Blk w2 g #[.int .i64 size, .int .i64 live, .slice A L.length c] := ⟨(row_heap hb2).trans h.blk.1, (nf_heap hb2).trans h.blk.2⟩
  have hst : ∀ k, k ≠ g → (w2.setCell ⟨g, 2, none⟩ (.slice A2 L2.length c2)).heap[k]? = w2.heap[k]? := fun k hk => heap_setCell_other w2 ⟨g, 2, none⟩ k _ hk
  refine ⟨⟨by simpa using hB2.put 2 (.slice A2 L2.length c2), h2.heap fun k hk => hst k (fun e => hgA (by rw [hk, e])), h.base, hgA⟩, ⟨hg.os, hg.tape, hg.output, by simpa using hg.size, fun k hk hf => ?_, fun k hk => ?_⟩⟩
  · exact (hst k (fun e => hf (.inl e))).trans (hg.block k hk (fun e => hf (.inr e.symm)))
  · rcases hA with e | ⟨k2, e, hk2⟩
    · exact .inl (by rw [← e]; exact hk)
    · rw [e] at hk; injection hk with hk; exact .inr (by omega)
theorem GateA.live {w : World} {base g c : Nat} {A : Option Addr} {size live : Int} {L : List Seat} (h : GateA w base g A c size live L) (l2 : Int) :
    GateA (w.setCell ⟨g, 1, none⟩ (.int .i64 l2)) base g A c size l2 L ∧ FrG w (w.setCell ⟨g, 1, none⟩ (.int .i64 l2)) g A A := by
  have hst : ∀ k, k ≠ g → (w.setCell ⟨g, 1, none⟩ (.int .i64 l2)).heap[k]? = w.heap[k]? := fun k hk => heap_setCell_other w ⟨g, 1, none⟩ k _ hk
  exact ⟨⟨by simpa using h.blk.put 1 (.int .i64 l2), h.seats.heap fun k hk => hst k (fun e => h.ag (by rw [hk, e])), h.base, h.ag⟩, ⟨rfl, rfl, rfl, by simp, fun k hk hf => hst k (fun e => hf (.inl e)), fun k hk => .inl hk⟩⟩
theorem Own.lower {w : World} {base base' e n c : Nat} {A : Option Addr} {V : Nat → Value} (h : Own w base e A n c V) (hb : base' ≤ base) : Own w base' e A n c V := by
  refine ⟨h.1, ?_⟩
  rcases h.2 with hn | ⟨g, cap, cur, hv, hbb, rest⟩
  · exact .inl hn
  · exact .inr ⟨g, cap, cur, hv, by omega, rest⟩
end Go.Proofs.Ytliliimdkkaocaa
