import Derived.Test.YtmifomppnmhmpaaTurn
import Derived.Laws.CopyOwn
/- copy into a block that is known whole: a law at the call, and one step of a region that draws. -/
namespace Go.Proofs.Ytmifomppnmhmpaa
open Go.RowKit
set_option linter.unusedVariables false
/-- c' is c with cnt cells laid over it from off on. -/
def Laid (c c' : Array Value) (off cnt : Nat) (V : Nat → Value) : Prop := c'.size = c.size ∧ ∀ j, j < c.size → c'[j]? = if off ≤ j ∧ j < off + cnt then some (V (j - off)) else c[j]?
theorem Laid.eq {c c' : Array Value} {off cnt : Nat} {V : Nat → Value} (h : Laid c c' off cnt V) (hf : off + cnt ≤ c.size) :
    (c.toList.take off ++ ((List.range cnt).map V ++ c.toList.drop (off + cnt))).toArray = c' := by
  apply Array.ext_getElem?
  intro j
  by_cases hj : j < c.size
  · rw [h.2 j hj]
    simp only [List.getElem?_toArray]
    by_cases h1 : j < off
    · rw [if_neg (by omega), List.getElem?_append_left (by simp; omega), List.getElem?_take, if_pos h1]; simp
    · rw [List.getElem?_append_right (by simp; omega)]
      have e : (c.toList.take off).length = off := by simp; omega
      rw [e]
      by_cases h2 : j < off + cnt
      · rw [if_pos ⟨by omega, h2⟩, List.getElem?_append_left (by simp; omega)]
        simp [show j - off < cnt by omega]
      · rw [if_neg (by omega), List.getElem?_append_right (by simp; omega)]
        simp only [List.length_map, List.length_range, List.getElem?_drop]
        rw [show off + cnt + (j - off - cnt) = j by omega]; simp
  · rw [Array.getElem?_eq_none (by simp; omega), Array.getElem?_eq_none (by rw [h.1]; omega)]
theorem Laid.zero {c c' : Array Value} {off : Nat} {V : Nat → Value} (h : Laid c c' off 0 V) : c' = c := by
  apply Array.ext_getElem?
  intro j
  by_cases hj : j < c.size
  · rw [h.2 j hj, if_neg (by omega)]
  · rw [Array.getElem?_eq_none (by rw [h.1]; omega), Array.getElem?_eq_none (by omega)]
theorem blk_setRow {w : World} {g : Nat} {c c' : Array Value} (h : Blk w g c) : Blk (w.setRow g c') g c' ∧ w.grownBy (w.setRow g c') (some g) ∧ (w.setRow g c').heap.size = w.heap.size :=
  ⟨⟨by rw [row_set h.2, if_pos rfl], by rw [nf_set]; exact h.2⟩, ⟨rfl, rfl, rfl, by simp [World.setRow], fun k hk hne => setRow_other w g k c' (fun e => hne (by rw [e]))⟩, by simp [World.setRow]⟩
section
variable {P : Program} {w : World} {ops : Array Oper} {rest : List Oper} {o : Oper} {a : Act} {Q : Exit → Act → World → Prop}
theorem copy_blk (dT sT ty elem : TypeId) (hu : P.underlying dT = some (.slice elem)) (hsz : (P.info? elem).map (·.size) = some 1)
    (dp sp : Option Addr) (dLen dCap sLen sCap : Nat) (g off cnt : Nat) (c c' : Array Value) (V : Nat → Value) (hb : Blk w g c) (hn : cnt = Nat.min sLen dLen)
    (hpos : 0 < cnt → dp = some ⟨g, off, none⟩ ∧ ∃ ad, sp = some ad ∧ ∀ j, j < cnt → w.cell? (ad.add j) = some (V j) ∧ (V j).oneCell' = true)
    (hfit : off + cnt ≤ c.size) (hl : Laid c c' off cnt V) :
    ∃ w', (Builtin.copy_ #[dT, sT] ty #[.slice dp dLen dCap, .slice sp sLen sCap]).run P w = .ok (goInt cnt) w' ∧ Blk w' g c' ∧ w.grownBy w' (some g) ∧ w'.heap.size = w.heap.size := by
  by_cases h0 : cnt = 0
  · subst h0
    rw [hl.zero]
    exact ⟨w, run_copy_none w dT sT ty elem dp sp dLen dCap sLen sCap hu hsz hn.symm, hb, only_refl w g, rfl⟩
  · obtain ⟨rfl, ad, rfl, hs⟩ := hpos (by omega)
    obtain ⟨t, ht⟩ := nf_iff hb.2
    rw [hb.1] at ht
    have hlen : ((List.range cnt).map V).length = cnt := by simp
    have := run_copy_row (P := P) w dT sT ty elem g off dLen dCap ad sLen sCap c t ((List.range cnt).map V) hu hsz ht (by rw [hlen, hn])
      (fun j v hv => by
        have hj : j < cnt := by have := (List.getElem?_eq_some_iff.1 hv).1; simpa using this
        rw [(hs j hj).1]
        simpa [hj] using hv) (by rw [hlen]; exact hfit)
      (fun v hv => by
        simp only [List.mem_map, List.mem_range] at hv
        obtain ⟨j, hj, rfl⟩ := hv
        exact (hs j hj).2)
    rw [hlen] at this
    have e := hl.eq hfit
    rw [← List.append_assoc] at e
    rw [e] at this
    exact ⟨_, this, blk_setRow hb⟩
theorem wpList_copy_blk (hgd : o.guard = none) (d s : Operand) (dT sT : TypeId)
    (ho : o.op = .call { callee := .builtin .copy, args := #[d, s], argTypes := #[dT, sT] }) (elem : TypeId) (hu : P.underlying dT = some (.slice elem)) (hsz : (P.info? elem).map (·.size) = some 1)
    (dp sp : Option Addr) (dLen dCap sLen sCap : Nat) (hd : a.eval d = .slice dp dLen dCap) (hs : a.eval s = .slice sp sLen sCap)
    (g off cnt : Nat) (c c' : Array Value) (V : Nat → Value) (hb : Blk w g c) (hn : cnt = Nat.min sLen dLen)
    (hpos : 0 < cnt → dp = some ⟨g, off, none⟩ ∧ ∃ ad, sp = some ad ∧ ∀ j, j < cnt → w.cell? (ad.add j) = some (V j) ∧ (V j).oneCell' = true)
    (hfit : off + cnt ≤ c.size) (hl : Laid c c' off cnt V)
    (h : ∀ w', Blk w' g c' → w.grownBy w' (some g) → w'.heap.size = w.heap.size → wpList P ops Q rest (a.put o.dst (goInt cnt)) w') : wpList P ops Q (o :: rest) a w := by
  refine wpList_plain hgd fun K hK => ?_
  obtain ⟨w', hrun, h1, h2, h3⟩ := copy_blk (w := w) dT sT o.type elem hu hsz dp sp dLen dCap sLen sCap g off cnt c c' V hb hn hpos hfit hl
  unfold Oper.wp
  simp [execOp, ho, resolve, invoke, builtin, hd, hs, hrun, Result.andThen]
  exact hK _ _ (h w' h1 h2 h3)
theorem step_copy_blk {K : Act → World → Prop} {E : Prop} (hgd : o.guard = none) (d s : Operand) (dT sT : TypeId)
    (ho : o.op = .call { callee := .builtin .copy, args := #[d, s], argTypes := #[dT, sT] }) (elem : TypeId) (hu : P.underlying dT = some (.slice elem)) (hsz : (P.info? elem).map (·.size) = some 1)
    (dp sp : Option Addr) (dLen dCap sLen sCap : Nat) (hd : a.eval d = .slice dp dLen dCap) (hs : a.eval s = .slice sp sLen sCap)
    (g off cnt : Nat) (c c' : Array Value) (V : Nat → Value) (hb : Blk w g c) (hn : cnt = Nat.min sLen dLen)
    (hpos : 0 < cnt → dp = some ⟨g, off, none⟩ ∧ ∃ ad, sp = some ad ∧ ∀ j, j < cnt → w.cell? (ad.add j) = some (V j) ∧ (V j).oneCell' = true)
    (hfit : off + cnt ≤ c.size) (hl : Laid c c' off cnt V)
    (h : ∀ w', Blk w' g c' → w.grownBy w' (some g) → w'.heap.size = w.heap.size → K (a.put o.dst (goInt cnt)) w') :
    if Region.wanted o (yielded ops a.tmps) = true then Oper.wp P o a w K Q else E := by
  have hw : Region.wanted o (yielded ops a.tmps) = true := by simp [Region.wanted, hgd]
  rw [if_pos hw]
  obtain ⟨w', hrun, h1, h2, h3⟩ := copy_blk (w := w) dT sT o.type elem hu hsz dp sp dLen dCap sLen sCap g off cnt c c' V hb hn hpos hfit hl
  unfold Oper.wp
  simp [execOp, ho, resolve, invoke, builtin, hd, hs, hrun, Result.andThen]
  exact h w' h1 h2 h3
end
end Go.Proofs.Ytmifomppnmhmpaa
