import Derived.Test.YtmifomppnmhmpaaArgs
import Derived.Maps.AppendAt
/- Rows of the call's own. -/
namespace Go.Proofs.Ytmifomppnmhmpaa
open Go.RowKit
set_option linter.unusedVariables false
/-! Rows of the call's own, and append onto them -/
def vals (V : Nat → Value) (n : Nat) : List Value := (List.range n).map V
def catV (V : Nat → Value) (n : Nat) (U : Nat → Value) : Nat → Value := fun i => if i < n then V i else U (i - n)
theorem vals_cat (V U : Nat → Value) (n m : Nat) : vals V n ++ vals U m = vals (catV V n U) (n + m) := by
  apply List.ext_getElem?
  intro i
  by_cases h : i < n
  · rw [List.getElem?_append_left (by simp [vals, h])]
    simp [vals, catV, h, show i < n + m by omega]
  · rw [List.getElem?_append_right (by simp [vals]; omega)]
    by_cases h2 : i < n + m
    · simp [vals, catV, h, h2, show i - n < m by omega]
    · rw [List.getElem?_eq_none (by simp [vals]; omega), List.getElem?_eq_none (by simp [vals]; omega)]
/-- A slice of type e's one-cell elements that is nil or of the call's own, in blocks from base on. -/
def Own (w : World) (base : Nat) (e : TypeId) (A : Option Addr) (n c : Nat) (V : Nat → Value) : Prop := w.ownsRow base e 1 (.slice A n c) n (vals V n)
def inB (A : Option Addr) : Option Nat := A.map (·.block)
theorem own_blk (A : Option Addr) (n c : Nat) : (Value.slice A n c).ownBlock = inB A := by cases A <;> rfl
theorem Own.nil (w : World) (base : Nat) (e : TypeId) (V : Nat → Value) : Own w base e none 0 0 V := by
  unfold Own vals
  exact World.ownsRow_nil w base e 1
theorem Own.ext {w : World} {base : Nat} {e : TypeId} {A : Option Addr} {n c : Nat} {V U : Nat → Value} (h : Own w base e A n c V) (he : ∀ i, i < n → V i = U i) : Own w base e A n c U := by
  unfold Own at h ⊢
  have : vals V n = vals U n := List.map_congr_left fun i hi => he i (List.mem_range.1 hi)
  rwa [← this]
theorem Own.lt {w : World} {base : Nat} {e : TypeId} {A : Option Addr} {n c : Nat} {V : Nat → Value} (h : Own w base e A n c V) : ∀ k, inB A = some k → base ≤ k ∧ k < w.heap.size := fun k hk => World.ownsRow.lt h k (by rw [own_blk]; exact hk)
theorem Own.kept {w w' : World} {base : Nat} {e : TypeId} {A : Option Addr} {n c : Nat} {V : Nat → Value} {row : Option Nat} (h : Own w base e A n c V) (hg : w.grownBy w' row) (hne : ∀ k, inB A = some k → row ≠ some k) : Own w' base e A n c V := by
  refine World.ownsRow.kept h hg ?_
  rw [own_blk]
  cases hA : inB A with
  | none => exact .inl rfl
  | some k => exact .inr (fun e => hne k hA e.symm)
theorem Own.heap {w w' : World} {base : Nat} {e : TypeId} {A : Option Addr} {n c : Nat} {V : Nat → Value} (h : Own w base e A n c V) (hk : ∀ k, inB A = some k → w'.heap[k]? = w.heap[k]?) : Own w' base e A n c V := by
  refine ⟨h.1, ?_⟩
  rcases h.2 with hn | ⟨g, cap, cur, hv, hb, hgg, rest⟩
  · exact .inl hn
  · refine .inr ⟨g, cap, cur, hv, hb, ?_, rest⟩
    injection hv with hv _ _
    rw [hk g (by rw [hv]; rfl)]; exact hgg
theorem Own.cells {w : World} {base : Nat} {e : TypeId} {A : Option Addr} {n c : Nat} {V : Nat → Value} (h : Own w base e A n c V) (hn : 0 < n) : ∃ g, A = some ⟨g, 0, none⟩ ∧ ∀ i, i < n → w.cell? ((⟨g, 0, none⟩ : Addr).add i) = some (V i) := by
  rcases h.2 with ⟨hv, h0⟩ | ⟨g, cap, cur, hv, hb, hgg, rest⟩
  · omega
  · have hA : A = some ⟨g, 0, none⟩ := by injection hv
    subst hA
    exact ⟨g, rfl, fun i hi => World.ownsRow.cells h (g := g) rfl i (V i) (by simp [vals, hi])⟩
theorem Own.le {w : World} {base : Nat} {e : TypeId} {A : Option Addr} {n c : Nat} {V : Nat → Value} (h : Own w base e A n c V) : n ≤ c ∧ c ≤ maxLen := by
  rcases h.2 with ⟨hv, h0⟩ | ⟨g, cap, cur, hv, hb, hgg, h1, h2, _⟩
  · injection hv with _ h3 h4
    subst h3 h4
    exact ⟨Nat.le_refl _, by unfold maxLen; omega⟩
  · injection hv with _ _ h4
    subst h4
    exact ⟨h1, h2⟩
/-- What can be read: one cell each, wherever it lies. -/
def RdV (w : World) (A : Option Addr) (m : Nat) (U : Nat → Value) : Prop := 0 < m → ∃ ad, A = some ad ∧ ∀ i, i < m → w.cell? (ad.add i) = some (U i) ∧ (U i).oneCell' = true
section
variable {w : World}
theorem app_any (t e ty : TypeId) (z : Value) (by_ : Nat) (ht : Try.prog.underlying t = some (.slice e)) (hi : (Try.prog.info? e).map (fun i => (i.zero, i.size, i.bytes)) = some (some z, 1, by_)) (hz : z.cells.size = 1)
    (base : Nat) (A : Option Addr) (n c : Nat) (V : Nat → Value) (hown : Own w base e A n c V) (A' : Option Addr) (m c' : Nat) (U : Nat → Value) (hr : RdV w A' m U) (hlen : n + m ≤ maxLen) (hby : (n + m) * by_ ≤ 140737488355328) (hb : base ≤ w.heap.size) :
    ∃ A2 c2 w', (Builtin.append_ #[t, t] ty #[.slice A n c, .slice A' m c']).run Try.prog w = .ok (.slice A2 (n + m) c2) w' ∧ Own w' base e A2 (n + m) c2 (catV V n U) ∧ w.grownBy w' (inB A) ∧ (inB A2 = inB A ∨ inB A2 = some w.heap.size) := by
  obtain ⟨i0, hi0, hz0, hz1, hz2⟩ := info_parts hi
  rcases Nat.eq_zero_or_pos m with rfl | hm
  · cases A' with
    | none =>
      refine ⟨A, c, w, ?_, hown.ext fun i hi => by unfold catV; rw [if_pos hi], ⟨rfl, rfl, rfl, Nat.le_refl _, fun _ _ _ => rfl⟩, .inl rfl⟩
      rcases hown.2 with ⟨hv, h0⟩ | ⟨g, cap, cur, hv, _, _, hnc, _⟩
      · injection hv with h1 h2 h3
        subst h1 h2 h3
        simp [Builtin.append_, run_underlying ht, sizeOf, typeInfo, hi0, Builtin.lenOf, Builtin.firstCells]
      · injection hv with h1 h2 h3
        subst h1 h3
        simp [Builtin.append_, run_underlying ht, sizeOf, typeInfo, hi0, Builtin.lenOf, Builtin.firstCells, hnc, storeCells]
    | some ad =>
      obtain ⟨v', w', hrun, h2, h3, _, h5⟩ := run_append_own_at (P := Try.prog) w base t ty e i0 z 1 by_ ht hi0 hz0 hz1 hz2 hz (by omega) _ n (vals V n) hown ad 0 c' [] rfl (by simp) (by simp) hlen hby hb
      obtain ⟨A2, c2, rfl⟩ : ∃ A2 c2, v' = .slice A2 (n + 0) c2 := by
        rcases h2.2 with ⟨hv, h0⟩ | ⟨g, cap, cur, hv, _⟩
        · exact ⟨none, 0, by rw [hv, h0]⟩
        · exact ⟨_, _, hv⟩
      simp only [own_blk] at h3 h5
      refine ⟨A2, c2, w', hrun, ?_, h3, h5⟩
      have h2' : w'.ownsRow base e 1 (.slice A2 (n + 0) c2) (n + 0) (vals V (n + 0)) := by simpa using h2
      exact Own.ext (V := V) h2' fun i hi => by unfold catV; rw [if_pos (by omega)]
  · obtain ⟨ad, rfl, hc⟩ := hr hm
    obtain ⟨v', w', hrun, h2, h3, _, h5⟩ := run_append_own_at (P := Try.prog) w base t ty e i0 z 1 by_ ht hi0 hz0 hz1 hz2 hz (by omega) _ n (vals V n) hown ad m c' (vals U m) (by simp [vals])
      (fun j u hu => by
        have hj : j < m := by have := (List.getElem?_eq_some_iff.1 hu).1; simpa [vals] using this
        rw [(hc j hj).1]; simpa [vals, hj] using hu)
      (fun u hu => by
        simp only [vals, List.mem_map, List.mem_range] at hu
        obtain ⟨j, hj, rfl⟩ := hu
        exact (hc j hj).2) hlen hby hb
    obtain ⟨A2, c2, rfl⟩ : ∃ A2 c2, v' = .slice A2 (n + m) c2 := by
      rcases h2.2 with ⟨hv, h0⟩ | ⟨g, cap, cur, hv, _⟩
      · omega
      · exact ⟨_, _, hv⟩
    simp only [own_blk] at h3 h5
    rw [vals_cat] at h2
    exact ⟨A2, c2, w', hrun, h2, h3, h5⟩
variable {ops : Array Oper} {rest : List Oper} {o : Oper} {a : Act} {Q : Exit → Act → World → Prop}
theorem wpList_app (hgd : o.guard = none) (s x : Operand) (t e : TypeId) (ho : o.op = .call { callee := .builtin .append, args := #[s, x], argTypes := #[t, t] }) (z : Value) (by_ : Nat) (ht : Try.prog.underlying t = some (.slice e)) (hi : (Try.prog.info? e).map (fun i => (i.zero, i.size, i.bytes)) = some (some z, 1, by_)) (hz : z.cells.size = 1)
    (base : Nat) (A : Option Addr) (n c : Nat) (hs : a.eval s = .slice A n c) (A' : Option Addr) (m c' : Nat) (hx : a.eval x = .slice A' m c') (V : Nat → Value) (hown : Own w base e A n c V) (U : Nat → Value) (hr : RdV w A' m U) (hlen : n + m ≤ maxLen) (hby : (n + m) * by_ ≤ 140737488355328) (hb : base ≤ w.heap.size)
    (h : ∀ A2 c2 w', Own w' base e A2 (n + m) c2 (catV V n U) → w.grownBy w' (inB A) → (inB A2 = inB A ∨ inB A2 = some w.heap.size) → wpList Try.prog ops Q rest (a.put o.dst (.slice A2 (n + m) c2)) w') : wpList Try.prog ops Q (o :: rest) a w := by
  refine wpList_plain hgd fun K hK => ?_
  obtain ⟨A2, c2, w', hrun, h1, h2, h3⟩ := app_any t e o.type z by_ ht hi hz base A n c V hown A' m c' U hr hlen hby hb
  unfold Oper.wp
  simp [execOp, ho, resolve, invoke, builtin, hs, hx, hrun, Result.andThen]
  exact hK _ _ (h A2 c2 w' h1 h2 h3)
theorem step_app {K : Act → World → Prop} {E : Prop} (hgd : o.guard = none) (s x : Operand) (t e : TypeId) (ho : o.op = .call { callee := .builtin .append, args := #[s, x], argTypes := #[t, t] }) (z : Value) (by_ : Nat) (ht : Try.prog.underlying t = some (.slice e)) (hi : (Try.prog.info? e).map (fun i => (i.zero, i.size, i.bytes)) = some (some z, 1, by_)) (hz : z.cells.size = 1)
    (base : Nat) (A : Option Addr) (n c : Nat) (hs : a.eval s = .slice A n c) (A' : Option Addr) (m c' : Nat) (hx : a.eval x = .slice A' m c') (V : Nat → Value) (hown : Own w base e A n c V) (U : Nat → Value) (hr : RdV w A' m U) (hlen : n + m ≤ maxLen) (hby : (n + m) * by_ ≤ 140737488355328) (hb : base ≤ w.heap.size)
    (h : ∀ A2 c2 w', Own w' base e A2 (n + m) c2 (catV V n U) → w.grownBy w' (inB A) → (inB A2 = inB A ∨ inB A2 = some w.heap.size) → K (a.put o.dst (.slice A2 (n + m) c2)) w') :
    if Region.wanted o (yielded ops a.tmps) = true then Oper.wp Try.prog o a w K Q else E := by
  have hw : Region.wanted o (yielded ops a.tmps) = true := by simp [Region.wanted, hgd]
  rw [if_pos hw]
  obtain ⟨A2, c2, w', hrun, h1, h2, h3⟩ := app_any t e o.type z by_ ht hi hz base A n c V hown A' m c' U hr hlen hby hb
  unfold Oper.wp
  simp [execOp, ho, resolve, invoke, builtin, hs, hx, hrun, Result.andThen]
  exact h A2 c2 w' h1 h2 h3
end
end Go.Proofs.Ytmifomppnmhmpaa
