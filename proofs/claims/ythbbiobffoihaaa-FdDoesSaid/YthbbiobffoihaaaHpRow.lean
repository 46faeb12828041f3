import Derived.Test.YthbbiobffoihaaaHp
import Derived.OwnWalk
import Derived.Laws.OwnMore
import Derived.Laws.IdiomCopy
import Derived.Laws.MakeOwn
import Derived.Maps.AppendAt
/- Rows: slices of the call's own, from their first cell on (Rw). -/
namespace Go.Proofs.Ythbbiobffoihaaa
open Go.RowKit
set_option linter.unusedVariables false
set_option linter.unusedSimpArgs false

/-- t: a slice's type; e: its elements', of s cells and by_ bytes, whose zero is z. -/
structure ElT (P : Program) (t e : TypeId) (s by_ : Nat) (z : Value) : Prop where
  ht : P.underlying t = some (.slice e)
  hi : (P.info? e).map (fun i => (i.zero, i.size, i.bytes)) = some (some z, s, by_)
  hz : z.cells.size = s
  h1 : z.cells.all (·.oneCell') = true
  hs : 0 < s
def blkOf (A : Option Addr) : Option Nat := A.map (·.block)
theorem blkOf_own (A : Option Addr) (n c : Nat) : (Value.slice A n c).ownBlock = blkOf A := by cases A <;> rfl
/-- The slice (A, n, c) is nil, or begins at a block's first cell, and its cells are vs. -/
def Rw (w : World) (e : TypeId) (s : Nat) (A : Option Addr) (n c : Nat) (vs : List Value) : Prop := w.ownsRow 0 e s (.slice A n c) n vs
section
variable {w w' : World} {e : TypeId} {s n c : Nat} {A : Option Addr} {vs : List Value}
theorem Rw.nil (w : World) (e : TypeId) (s : Nat) : Rw w e s none 0 0 [] := World.ownsRow_nil w 0 e s
theorem Rw.len (h : Rw w e s A n c vs) : vs.length = n * s := h.1
theorem Rw.lt (h : Rw w e s A n c vs) : ∀ k, blkOf A = some k → k < w.heap.size := fun k hk => (World.ownsRow.lt h k (by rw [blkOf_own]; exact hk)).2
theorem Rw.heap (h : Rw w e s A n c vs) (hk : ∀ k, blkOf A = some k → w'.heap[k]? = w.heap[k]?) : Rw w' e s A n c vs := by
  refine ⟨h.1, ?_⟩
  rcases h.2 with hn | ⟨g, cap, cur, hv, hb, hgg, rest⟩
  · exact .inl hn
  · refine .inr ⟨g, cap, cur, hv, hb, ?_, rest⟩
    injection hv with hv _ _
    rw [hk g (by rw [hv]; rfl)]; exact hgg
theorem Rw.ch {F : Nat → Prop} (h : Rw w e s A n c vs) (hc : Ch F w w') (hF : ∀ k, blkOf A = some k → ¬ F k) : Rw w' e s A n c vs := h.heap fun k hk => hc.block k (h.lt k hk) (hF k hk)
theorem Rw.below (h : Rw w e s A n c vs) (hb : Below w.heap.size w w') : Rw w' e s A n c vs := h.heap fun k hk => hb.block k (h.lt k hk)
theorem Rw.drew (h : Rw w e s A n c vs) : Rw w.drew e s A n c vs := h
theorem Rw.drewN (h : Rw w e s A n c vs) (k : Nat) : Rw (w.drewN k) e s A n c vs := h
theorem Rw.le (h : Rw w e s A n c vs) : n ≤ c ∧ c ≤ maxLen := by
  rcases h.2 with ⟨hv, h0⟩ | ⟨g, cap, cur, hv, hb, hgg, h1, h2, _⟩
  · injection hv with _ h3 h4
    subst h3 h4
    exact ⟨Nat.le_refl _, by unfold maxLen; omega⟩
  · injection hv with _ _ h4
    subst h4
    exact ⟨h1, h2⟩
theorem Rw.addr (h : Rw w e s A n c vs) : (A = none ∧ n = 0 ∧ c = 0) ∨ ∃ b, A = some ⟨b, 0, none⟩ := by
  rcases h.2 with ⟨hv, h0⟩ | ⟨g, cap, cur, hv, _⟩
  · injection hv with h1 h2 h3; exact .inl ⟨h1, h2, h3⟩
  · injection hv with h1; exact .inr ⟨g, h1⟩
theorem Rw.some_ (h : Rw w e s A n c vs) (hn : 0 < n) : ∃ b, A = some ⟨b, 0, none⟩ := by
  rcases h.addr with ⟨_, h0, _⟩ | h1
  · omega
  · exact h1
end
section
variable {w w' : World} {e : TypeId} {s n c b : Nat} {vs : List Value}
theorem Rw.row (h : Rw w e s (some ⟨b, 0, none⟩) n c vs) : ∃ cur, w.heap[b]? = some (.cells cur e (0, 0)) ∧ n ≤ c ∧ c ≤ maxLen ∧ cur.size = c * s ∧ cur.toList.take (n * s) = vs := by
  rcases h.2 with ⟨hv, _⟩ | ⟨g, cap, cur, hv, hb, hgg, h1, h2, h3, h4⟩
  · simp at hv
  · simp only [Value.slice.injEq, Option.some.injEq, Addr.mk.injEq, and_true, true_and] at hv
    obtain ⟨rfl, rfl⟩ := hv
    exact ⟨cur, hgg, h1, h2, h3, h4⟩
theorem Rw.of_row {cur : Array Value} (hg : w.heap[b]? = some (.cells cur e (0, 0))) (h1 : n ≤ c) (h2 : c ≤ maxLen) (h3 : cur.size = c * s) (h4 : cur.toList.take (n * s) = vs) : Rw w e s (some ⟨b, 0, none⟩) n c vs :=
  ⟨by rw [← h4, List.length_take, Array.length_toList, h3, Nat.min_eq_left (Nat.mul_le_mul_right s h1)], .inr ⟨b, c, cur, rfl, Nat.zero_le _, hg, h1, h2, h3, h4⟩⟩
theorem Rw.cell (h : Rw w e s (some ⟨b, 0, none⟩) n c vs) (j : Nat) (hj : j < n * s) : w.cell? ⟨b, j, none⟩ = vs[j]? := World.ownsRow.cellAt h j hj
theorem Rw.frozen (h : Rw w e s (some ⟨b, 0, none⟩) n c vs) (j : Nat) : w.frozen? ⟨b, j, none⟩ = false := World.ownsRow.frozenAt h j
theorem Rw.blt (h : Rw w e s (some ⟨b, 0, none⟩) n c vs) : b < w.heap.size := h.lt b rfl
theorem Rw.put (h : Rw w e s (some ⟨b, 0, none⟩) n c vs) (j : Nat) (u : Value) : Rw (w.setCell ⟨b, j, none⟩ u) e s (some ⟨b, 0, none⟩) n c (vs.set j u) := (World.ownsRow.stored h j u).1
/-- The first m of them. -/
theorem Rw.take (h : Rw w e s (some ⟨b, 0, none⟩) n c vs) (m : Nat) (hm : m ≤ n) : Rw w e s (some ⟨b, 0, none⟩) m c (vs.take (m * s)) := by
  obtain ⟨cur, hg, h1, h2, h3, h4⟩ := h.row
  exact Rw.of_row hg (by omega) h2 h3 (by rw [← h4, List.take_take, Nat.min_eq_left (Nat.mul_le_mul_right s hm)])
/-- Cells behind the row may change. -/
theorem Rw.past : ∀ (us : List Value) (w : World) (o : Nat), Rw w e s (some ⟨b, 0, none⟩) n c vs → n * s ≤ o → Rw (w.setCells b o us) e s (some ⟨b, 0, none⟩) n c vs ∧ Ch (· = b) w (w.setCells b o us) ∧ (w.setCells b o us).heap.size = w.heap.size
  | [], w, o, h, ho => ⟨h, Ch.refl _ _, rfl⟩
  | v :: r, w, o, h, ho => by
    have h1 : Rw (w.setCell ⟨b, o, none⟩ v) e s (some ⟨b, 0, none⟩) n c vs := by
      have := h.put o v
      rwa [List.set_eq_of_length_le (by rw [h.len]; exact ho)] at this
    obtain ⟨q1, q2, q3⟩ := Rw.past r (w.setCell ⟨b, o, none⟩ v) (o + 1) h1 (by omega)
    refine ⟨q1, ((Ch.refl (· = b) w).cell ⟨b, o, none⟩ v (fun _ => rfl)).trans q2 (fun k _ q => q), ?_⟩
    show ((w.setCell ⟨b, o, none⟩ v).setCells b (o + 1) r).heap.size = _
    rw [q3]; simp
theorem Rw.fresh (w : World) (e : TypeId) (cur : Array Value) (n c : Nat) (hn : n ≤ c) (hc : c ≤ maxLen) (hs : cur.size = c * s) : Rw (w.alloc (.cells cur e)) e s (some ⟨w.heap.size, 0, none⟩) n c (cur.toList.take (n * s)) :=
  Rw.of_row (heap_alloc_new w _) hn hc hs rfl
end
/-- What can be read: cells us, wherever they lie. -/
def Rd (w : World) (A : Option Addr) (us : List Value) : Prop := (us ≠ [] → ∃ ad, A = some ad ∧ ∀ (j : Nat) u, us[j]? = some u → w.cell? (ad.add j) = some u) ∧ ∀ u ∈ us, u.oneCell' = true
theorem add_plain (b off j : Nat) : (⟨b, off, none⟩ : Addr).add j = ⟨b, off + j, none⟩ := by unfold Addr.add; split <;> simp_all
theorem Rd.nil (w : World) (A : Option Addr) : Rd w A [] := ⟨fun h => absurd rfl h, by simp⟩
theorem Rd.of_cells {w : World} {b off : Nat} {us : List Value} (h : ∀ (j : Nat) u, us[j]? = some u → w.cell? ⟨b, off + j, none⟩ = some u) (h1 : ∀ u ∈ us, u.oneCell' = true) : Rd w (some ⟨b, off, none⟩) us :=
  ⟨fun _ => ⟨_, rfl, fun j u hu => by rw [add_plain]; exact h j u hu⟩, h1⟩
theorem Rw.rd {w : World} {e : TypeId} {s n c : Nat} {A : Option Addr} {vs : List Value} (h : Rw w e s A n c vs) (h1 : ∀ u ∈ vs, u.oneCell' = true) : Rd w A vs := by
  refine ⟨fun hne => ?_, h1⟩
  have hl := h.len
  rcases h.addr with ⟨_, h0, _⟩ | ⟨b, rfl⟩
  · rw [h0] at hl; simp at hl; exact absurd hl hne
  · refine ⟨_, rfl, fun j u hu => ?_⟩
    have hj := (List.getElem?_eq_some_iff.1 hu).1
    rw [add_plain, Nat.zero_add, h.cell j (by omega)]; exact hu
section
variable {P : Program} {t e : TypeId} {s by_ : Nat} {z : Value} {w : World}
theorem ElT.info (T : ElT P t e s by_ z) : ∃ i, P.info? e = some i ∧ i.zero = some z ∧ i.size = s ∧ i.bytes = by_ := by
  obtain ⟨i0, hi0, hz0, hz1, hz2⟩ := info_parts T.hi
  exact ⟨i0, hi0, hz0, hz1, hz2⟩
/-- append: elements us behind a row. -/
theorem rw_append (T : ElT P t e s by_ z) (ty : TypeId) {A : Option Addr} {n c : Nat} {vs : List Value} (h : Rw w e s A n c vs) (A' : Option Addr) (m c' : Nat) (us : List Value) (hu : us.length = m * s) (hr : Rd w A' us) (hc' : A' = none → c' = 0) (hlen : n + m ≤ maxLen) (hby : (n + m) * by_ ≤ 140737488355328) :
    ∃ A2 c2 w', (Builtin.append_ #[t, t] ty #[.slice A n c, .slice A' m c']).run P w = .ok (.slice A2 (n + m) c2) w' ∧ Rw w' e s A2 (n + m) c2 (vs ++ us) ∧ Ch (fun k => blkOf A = some k) w w' ∧ (blkOf A2 = blkOf A ∨ blkOf A2 = some w.heap.size) := by
  obtain ⟨i0, hi0, hz0, hz1, hz2⟩ := T.info
  by_cases hA : A' = none ∧ us = []
  · obtain ⟨rfl, rfl⟩ := hA
    have hm : m = 0 := by
      have h9 : 0 = m * s := hu
      rcases Nat.mul_eq_zero.1 h9.symm with h | h
      · exact h
      · have := T.hs; omega
    subst hm
    obtain rfl := hc' rfl
    refine ⟨A, c, w, ?_, by simpa using h, Ch.refl _ _, .inl rfl⟩
    rcases h.2 with ⟨hv, h0⟩ | ⟨g, cap, cur, hv, _, _, hnc, _⟩
    · injection hv with h1 h2 h3
      rw [h1, h2, h3]
      simp [Builtin.append_, run_underlying T.ht, sizeOf, typeInfo, hi0, Builtin.lenOf, Builtin.firstCells]
    · injection hv with h1 h2 h3
      subst h1 h3
      simp [Builtin.append_, run_underlying T.ht, sizeOf, typeInfo, hi0, Builtin.lenOf, Builtin.firstCells, hnc, storeCells]
  · obtain ⟨ad, rfl⟩ : ∃ ad, A' = some ad := by
      cases A' with
      | some ad => exact ⟨ad, rfl⟩
      | none =>
        have hne : us ≠ [] := fun e => hA ⟨rfl, e⟩
        obtain ⟨ad, h9, _⟩ := hr.1 hne
        cases h9
    have hcell : ∀ j u, us[j]? = some u → w.cell? (ad.add j) = some u := fun j u hju => by
      have hne : us ≠ [] := fun e => by rw [e] at hju; cases hju
      obtain ⟨ad', h9, h10⟩ := hr.1 hne
      injection h9 with h9; subst h9
      exact h10 j u hju
    obtain ⟨v', w', hrun, h2, h3, h4, h5⟩ := run_append_own_at (P := P) w 0 t ty e i0 z s by_ T.ht hi0 hz0 hz1 hz2 T.hz T.hs _ n vs h ad m c' us hu hcell hr.2 hlen hby (Nat.zero_le _)
    obtain ⟨A2, c2, rfl⟩ : ∃ A2 c2, v' = .slice A2 (n + m) c2 := by
      rcases h2.2 with ⟨hv, h0⟩ | ⟨g, cap, cur, hv, _⟩
      · exact ⟨none, 0, by rw [hv, h0]⟩
      · exact ⟨_, _, hv⟩
    simp only [blkOf_own] at h3 h5
    exact ⟨A2, c2, w', hrun, h2, Ch.of_grown h3 (fun k _ hk => hk), h5⟩
/-- append within what there is room for: a row's rest is moved to the front. -/
theorem rw_fits (T : ElT P t e s by_ z) (ty : TypeId) {b n c : Nat} {vs : List Value} (h : Rw w e s (some ⟨b, 0, none⟩) n c vs) (ad : Addr) (m c' : Nat) (us : List Value) (hu : us.length = m * s) (hcell : ∀ (j : Nat) u, us[j]? = some u → w.cell? (ad.add j) = some u) (h1 : ∀ u ∈ us, u.oneCell' = true) (hroom : n + m ≤ c) :
    ∃ w', (Builtin.append_ #[t, t] ty #[.slice (some ⟨b, 0, none⟩) n c, .slice (some ad) m c']).run P w = .ok (.slice (some ⟨b, 0, none⟩) (n + m) c) w' ∧ Rw w' e s (some ⟨b, 0, none⟩) (n + m) c (vs ++ us) ∧ Ch (· = b) w w' := by
  obtain ⟨i0, hi0, hz0, hz1, hz2⟩ := T.info
  obtain ⟨w', e1, e2, e3⟩ := run_append_fits (P := P) (w := w) 0 t ty e i0 s T.ht hi0 hz1 b n c vs h ad m c' us hu hcell h1 hroom
  exact ⟨w', e1, e2, Ch.of_grown e3 (fun k _ hk => by injection hk with hk; exact hk.symm)⟩
/-- clear of what stands behind the first m. -/
theorem rw_clear (T : ElT P t e s by_ z) (ty : TypeId) {b m k c c' : Nat} {vs : List Value} (h : Rw w e s (some ⟨b, 0, none⟩) m c vs) (hk : m + k ≤ c) (zr : ∀ w, (zeroValue e).run P w = .ok z w) (A : Option Addr) (hA : 0 < k → A = some ⟨b, m * s, none⟩) :
    ∃ w', (Builtin.clear_ #[t] ty #[.slice A k c']).run P w = .ok (.tuple #[]) w' ∧ Rw w' e s (some ⟨b, 0, none⟩) m c vs ∧ Ch (· = b) w w' ∧ w'.heap.size = w.heap.size := by
  rcases Nat.eq_zero_or_pos k with rfl | hk0
  · refine ⟨w, ?_, h, Ch.refl _ _, rfl⟩
    cases A <;> simp [Builtin.clear_, run_underlying T.ht]
  · obtain rfl := hA hk0
    obtain ⟨cur, hg, q1, q2, q3, q4⟩ := h.row
    let zs := (Builtin.zeroCells z.cells k).toList
    have hzs : zs.length = k * s := by simp [zs, Builtin.zeroCells, T.hz, Nat.mul_comm]
    have hz1 : ∀ v ∈ zs, v.oneCell' = true := fun v hv => by
      have h9 := T.h1
      rw [Array.all_eq_true_iff_forall_mem] at h9
      have : ∀ v ∈ zs, v ∈ z.cells := by
        intro v hv
        have hv2 : v ∈ (Builtin.zeroCells z.cells k).toList := hv
        simp only [Builtin.zeroCells, Array.toList_map, List.mem_map] at hv2
        obtain ⟨i, _, rfl⟩ := hv2
        have hlt : i % z.cells.size < z.cells.size := Nat.mod_lt _ (by rw [T.hz]; exact T.hs)
        rw [getElem!_pos z.cells _ hlt]
        exact Array.getElem_mem hlt
      exact h9 v (this v hv)
    have hsum : m * s + k * s ≤ c * s := by rw [← Nat.add_mul]; exact Nat.mul_le_mul_right s hk
    have hst := run_storeCells_cells (P := P) b (m * s) zs 0 w (fun j hj => by
      rw [Nat.add_zero, cell_of_row w b _ cur e _ hg]
      simp; omega) (fun j _ => h.frozen _) hz1
    obtain ⟨p1, p2, p3⟩ := Rw.past zs w (m * s) h (Nat.le_refl _)
    refine ⟨_, ?_, p1, p2, p3⟩
    obtain ⟨k', rfl⟩ : ∃ k', k = k' + 1 := ⟨k - 1, by omega⟩
    simp only [Nat.add_zero] at hst
    have hst' : (storeCells ⟨b, m * s, none⟩ (Builtin.zeroCells z.cells (k' + 1)).toList).run P w = .ok () (w.setCells b (m * s) zs) := hst
    simp [Builtin.clear_, run_underlying T.ht, zr, hst']
/-- A store to one cell. -/
theorem store_cell {P : Program} (ty : TypeId) (a : Addr) (v u : Value) (w : World) (hs : (sizeOf ty).run P w = .ok 1 w) (h1 : v.oneCell' = true) (hc : w.cell? a = some u) (hf : w.frozen? a = false) : (Instr.storeAt ty (.pointer (some a)) v).run P w = .ok () (w.setCell a v) := by
  have hst := run_store P w a v .plain h1
  cases v <;> simp [Value.oneCell'] at h1 <;> simp [go_sem, hc, hf, hs, hst, stored]
/-- make of n elements of one cell. -/
theorem make_one {P : Program} {t e : TypeId} {by_ : Nat} {z : Value} (T : ElT P t e 1 by_ z) (hz : z.cells = #[z]) (n : Nat) (hb : by_ * n ≤ 281474976710656) (h63 : n ≤ 9223372036854775807) (w : World) :
    (Instr.makeSlice t (.int .i64 (n : Int)) (.int .i64 (n : Int))).run P w = .ok (.slice (some ⟨w.heap.size, 0, none⟩) n n) (w.alloc (.cells (madeCells #[z] n) e)) ∧ Rw (w.alloc (.cells (madeCells #[z] n) e)) e 1 (some ⟨w.heap.size, 0, none⟩) n n (List.replicate n z) := by
  obtain ⟨i0, hi0, hz0, hz1, hz2⟩ := info_parts T.hi
  have hb' : (i0.bytes : Int) * (n : Int) ≤ 281474976710656 := by
    rw [hz2]
    have h : ((by_ * n : Nat) : Int) ≤ 281474976710656 := by omega
    rwa [Int.natCast_mul] at h
  have hr := run_make (P := P) w t e i0 z T.ht hi0 hz0 .i64 .i64 (n : Int) (n : Int) (by omega) (by omega) hb' (by omega)
  rw [hz1, hz] at hr
  simp only [Int.toNat_natCast, Nat.mul_one] at hr
  have hl : (madeCells #[z] n).toList = List.replicate n z := by
    apply List.ext_getElem?
    intro j
    by_cases hj : j < n
    · simp [madeCells, hj, Nat.mod_one]
    · simp [madeCells, hj]
  refine ⟨hr, Rw.of_row (heap_alloc_new w _) (Nat.le_refl _) (by unfold maxLen; omega) (by have := congrArg List.length hl; simpa using this) (by rw [hl]; simp)⟩
/-! Slicing -/
theorem ElT.elem (T : ElT P t e s by_ z) : P.elem t = e := by simp [Program.elem, T.ht]
theorem ElT.size (T : ElT P t e s by_ z) (w : World) : (sizeOf e).run P w = .ok s w := by
  obtain ⟨i0, hi0, hz0, hz1, hz2⟩ := T.info
  simp [sizeOf, typeInfo, hi0, hz1]
theorem cut_h (T : ElT P t e s by_ z) (A : Option Addr) (len cap i : Nat) (hi : i ≤ cap) (hc : cap ≤ maxLen) (w : World) : (Instr.slice t (.slice A len cap) none (some (.int .i64 (i : Int))) none).run P w = .ok (.slice A i cap) w := by
  unfold maxLen at hc
  have := run_slice_h (P := P) w t A len cap (by rw [T.elem]; exact T.ht) .i64 (i : Int) (by omega) (by omega)
  rw [this, T.elem, T.size w]
  have h0 : (⟨0, 0, none⟩ : Addr) = ⟨0, 0, none⟩ := rfl
  cases A with
  | none => simp [sliced, Result.andThen]
  | some a =>
    simp [sliced, Result.andThen]
    intro _
    unfold Addr.add; simp
/-- s[k:]: the address is known where something is left. -/
theorem cut_l (T : ElT P t e s by_ z) (b len cap k : Nat) (hk : k ≤ len) (hl : len ≤ cap) (hc : cap ≤ maxLen) : ∃ A', (∀ w : World, (Instr.slice t (.slice (some ⟨b, 0, none⟩) len cap) (some (.int .i64 (k : Int))) none none).run P w = .ok (.slice A' (len - k) (cap - k)) w) ∧ (0 < cap - k → A' = some ⟨b, k * s, none⟩) ∧ A'.isSome = true := by
  unfold maxLen at hc
  have hadd : (⟨b, 0, none⟩ : Addr).add (k * s) = ⟨b, k * s, none⟩ := by rw [add_plain]; simp
  refine ⟨if cap = k then some ⟨b, 0, none⟩ else some ⟨b, k * s, none⟩, fun w => ?_, fun h => by rw [if_neg (by omega)], by split <;> rfl⟩
  have := run_slice_l (P := P) w t (some ⟨b, 0, none⟩) len cap (by rw [T.elem]; exact T.ht) .i64 (k : Int) (by omega) (by omega)
  rw [this, T.elem, T.size w]
  simp [sliced, Result.andThen, hadd]
/-- s[k:h]. -/
theorem cut_lh (T : ElT P t e s by_ z) (b len cap k h : Nat) (hk : k ≤ h) (hh : h ≤ cap) (hc : cap ≤ maxLen) : ∃ A', (∀ w : World, (Instr.slice t (.slice (some ⟨b, 0, none⟩) len cap) (some (.int .i64 (k : Int))) (some (.int .i64 (h : Int))) none).run P w = .ok (.slice A' (h - k) (cap - k)) w) ∧ (0 < cap - k → A' = some ⟨b, k * s, none⟩) ∧ A'.isSome = true := by
  unfold maxLen at hc
  have hadd : (⟨b, 0, none⟩ : Addr).add (k * s) = ⟨b, k * s, none⟩ := by rw [add_plain]; simp
  refine ⟨if cap = k then some ⟨b, 0, none⟩ else some ⟨b, k * s, none⟩, fun w => ?_, fun h => by rw [if_neg (by omega)], by split <;> rfl⟩
  have := run_slice_lh (P := P) w t (some ⟨b, 0, none⟩) len cap (by rw [T.elem]; exact T.ht) .i64 .i64 (k : Int) (h : Int) (by omega) (by omega) (by omega)
  rw [this, T.elem, T.size w]
  simp [sliced, Result.andThen, hadd]
end
end Go.Proofs.Ythbbiobffoihaaa
