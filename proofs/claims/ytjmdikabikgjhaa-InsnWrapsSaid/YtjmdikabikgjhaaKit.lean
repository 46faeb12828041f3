import Derived.Test.YtjmdikabikgjhaaCpu
import Derived.Laws.AppendOwn
import Derived.Laws.OwnMore
import Derived.OwnWalk
import Derived.Deep.Slices
import Derived.Deep.Fields
import Derived.ChangeSame
import Derived.ChangeSlices
import Derived.SizedLaws
import Derived.Maps.AppendAt
import Derived.MapKept
/- Arguments. -/
namespace Go.Proofs.Ytjmdikabikgjhaa
open Go.RowKit
set_option linter.unusedVariables false
set_option linter.unusedSimpArgs false
theorem block_of_add (a : Addr) (n : Nat) : (a.add n).block = a.block := by unfold Addr.add; split <;> rfl
theorem add_of_add (a : Addr) (i j : Nat) : (a.add i).add j = a.add (i + j) := by
  unfold Addr.add
  by_cases hi : i = 0 <;> by_cases hj : j = 0 <;> simp [hi, hj, Nat.add_assoc]
/-! Arguments: slices of whole numbers, slices of structs -/
theorem cell_lt {w : World} {a : Addr} {v : Value} (h : w.cell? a = some v) : a.block < w.heap.size := by
  rcases Nat.lt_or_ge a.block w.heap.size with h1 | h1
  · exact h1
  · unfold World.cell? at h; rw [Array.getElem?_eq_none h1] at h; cases h
theorem plain_add (b off j : Nat) : (⟨b, off, none⟩ : Addr).add j = ⟨b, off + j, none⟩ := by unfold Addr.add; split <;> simp_all
theorem weight_all {H : Type} {P : Program} {e : TypeId} {d : DataW H} {n : Nat} : ∀ {l : List (DataW H)}, d ∈ l → n ∈ d.weights P e → n ∈ DataW.weightsAll P e l
  | x :: l, hd, hn => by
    rw [DataW.weightsAll, List.mem_append]
    rcases List.mem_cons.1 hd with rfl | hd
    · exact .inl hn
    · exact .inr (weight_all hd hn)
/-- A slice of structs whose fields take one cell each: every field of every element is read, and bears no more weight than the whole. -/
theorem open_recs {H : Type} {enc : TypeId × Value → H} {P : Program} {w : World} {base : Nat} {spare : Nat → Bool} {held : Bool} {t e : TypeId} {fs : Array Field} {fuel : Nat} {cs : List Value} {x : DataW H × List MemPlace}
    (ht : P.underlying t = some (.slice e)) (he : P.underlying e = some (.struct fs)) (ho : Deep.oneCellFields P fs = true) (hC : P.cellsOf e = fs.size) (h : DataW.trod enc P w base spare held fuel t cs = some x) :
    (cs = [.slice none 0 0] ∧ x = (.nil, [])) ∨ ∃ (ad : Addr) (len cap : Nat), cs = [.slice (some ad) len cap] ∧ len ≤ cap ∧ cap ≤ maxLen ∧ (∃ el sp : List (DataW H), x.1 = .slice el sp ∧ el.length = len) ∧
      ∀ i, i < len → ∀ (j : Nat) (f : Field), fs[j]? = some f → ∃ (v : Value) (y : DataW H × List MemPlace) (n : Nat), w.cell? (ad.add (i * fs.size + j)) = some v ∧ DataW.trod enc P w base spare held n f.type [v] = some y ∧ ∀ k ∈ y.1.weights P f.type, k ∈ x.1.weights P t := by
  rcases Deep.open_slice ht h with h0 | ⟨ad, len, cap, m, n, D, Pl, rfl, hb, hl, hm, hmm, rfl, hi⟩
  · exact .inl h0
  · refine .inr ⟨ad, len, cap, rfl, hl, hm, ⟨_, _, rfl, by simp⟩, fun i hil j f hf => ?_⟩
    have hlm : len ≤ m := by rw [hmm]; split <;> omega
    obtain ⟨c, hc, hr⟩ := hi i (by omega)
    rw [hC] at hc
    obtain ⟨ys, n', _, hy, hcl, hyl, hg⟩ := DataW.trod_struct he hr
    obtain ⟨_, hlen, hat⟩ := World.cells?_some hc
    obtain ⟨o1, o2⟩ := Deep.hone_of ho j f hf
    have hj : j < fs.size := (Array.getElem?_eq_some_iff.1 hf).1
    have h1 := hg j f hf
    rw [o1, o2, List.drop_eq_getElem_cons (by omega)] at h1
    have hys : ys[j]? = some (ys[j]'(by omega)) := List.getElem?_eq_getElem (by omega)
    rw [hys] at h1
    refine ⟨_, _, n', ?_, h1, fun k hk => ?_⟩
    · rw [← add_of_add, hat j hj]
      exact List.getElem?_eq_getElem (by omega)
    · have hD : D i = .agg (ys.map (·.1)) := by injection hy
      have h2 : k ∈ (D i).weights P e := by
        rw [hD]
        simp only [DataW.weights, he]
        exact DataW.weights_mem_each (j := j) (by simp [hf]) (by simp [hys]) k hk
      simp only [DataW.weights, ht]
      exact List.mem_cons_of_mem _ (List.mem_append_left _ (weight_all (List.mem_map.2 ⟨i, List.mem_range.2 hil, rfl⟩) h2))
def IsRow (k : IntKind) (w : World) (a : Option Addr) (len cap : Nat) (zs : List Int) : Prop :=
  (a = none ∧ len = 0 ∧ cap = 0 ∧ zs = []) ∨ ∃ ad, a = some ad ∧ len ≤ cap ∧ cap ≤ maxLen ∧ zs.length = cap ∧ (∀ i, i < zs.length → w.cell? (ad.add i) = some (.int k (zs.getD i 0))) ∧ ∀ n ∈ zs, (Lit.int k n).wf = true
/-- Whole numbers that can be read, in blocks below B: a slice's values are the function's. -/
def Nums (k : IntKind) (w : World) (B : Nat) (a : Option Addr) (len cap : Nat) (Y : Nat → Int) : Prop :=
  len ≤ cap ∧ cap ≤ maxLen ∧ (∀ i, (Lit.int k (Y i)).wf = true) ∧ (0 < len → ∃ ad, a = some ad ∧ ad.block < B ∧ ∀ i, i < len → w.cell? (ad.add i) = some (.int k (Y i)))
theorem Nums.of_row {k : IntKind} {w : World} {a : Option Addr} {len cap : Nat} {zs : List Int} (h0 : (Lit.int k 0).wf = true) (h : IsRow k w a len cap zs) : Nums k w w.heap.size a len cap (fun i => zs.getD i 0) := by
  rcases h with ⟨rfl, rfl, rfl, rfl⟩ | ⟨ad, rfl, hl, hm, hz, hc, hw⟩
  · exact ⟨Nat.le_refl _, by unfold maxLen; omega, fun i => by simpa using h0, fun h => absurd h (by omega)⟩
  · refine ⟨hl, hm, fun i => ?_, fun h => ⟨ad, rfl, ?_, fun i hi => hc i (by omega)⟩⟩
    · show (Lit.int k (zs.getD i 0)).wf = true
      rw [List.getD_eq_getElem?_getD]
      by_cases hi : i < zs.length
      · rw [List.getElem?_eq_getElem hi]; exact hw _ (List.getElem_mem hi)
      · rw [List.getElem?_eq_none (by omega)]; exact h0
    · have := cell_lt (hc 0 (by omega))
      rwa [block_of_add] at this
theorem Nums.below {k : IntKind} {w w' : World} {B len cap : Nat} {a : Option Addr} {Y : Nat → Int} (h : Nums k w B a len cap Y) (hb : Below B w w') : Nums k w' B a len cap Y :=
  ⟨h.1, h.2.1, h.2.2.1, fun hn => by
    obtain ⟨ad, e, c, b⟩ := h.2.2.2 hn
    exact ⟨ad, e, c, fun i hi => (hb.cell (by rw [block_of_add]; exact c)).trans (b i hi)⟩⟩
theorem nums_of_trod {H : Type} {enc : TypeId × Value → H} {w : World} {base : Nat} {spare : Nat → Bool} {held : Bool} {t e : TypeId} {k : IntKind} {fuel : Nat} {v : Value} {x : DataW H × List MemPlace}
    (ht : Try.prog.underlying t = some (.slice e)) (he : Try.prog.underlying e = some (.int k)) (hc : Try.prog.cellsOf e = 1) (h0 : (Lit.int k 0).wf = true) (h : DataW.trod enc Try.prog w base spare held fuel t [v] = some x) :
    ∃ a len cap Y, v = .slice a len cap ∧ Nums k w w.heap.size a len cap Y ∧ (0 < len → ∃ n ∈ x.1.weights Try.prog t, len * Try.prog.bytesOf e ≤ n) := by
  rcases ChangeShapes.open_ints ht he hc h with ⟨hcs, _⟩ | ⟨ad, l, c, zs, hcs, hb, hl, hm, hz, hx, hcell, hwz⟩
  · injection hcs with hcs _
    exact ⟨none, 0, 0, fun _ => 0, hcs, ⟨Nat.le_refl _, by unfold maxLen; omega, fun _ => h0, fun h => absurd h (by omega)⟩, fun h => absurd h (by omega)⟩
  · injection hcs with hcs _
    have hzl : l ≤ zs.length := by rw [hz]; split <;> omega
    refine ⟨some ad, l, c, fun i => zs.getD i 0, hcs, ⟨hl, hm, fun i => ?_, fun h => ⟨ad, rfl, ?_, fun i hi => hcell i (by omega)⟩⟩, fun h => ⟨zs.length * Try.prog.bytesOf e, ?_, Nat.mul_le_mul_right _ hzl⟩⟩
    · show (Lit.int k (zs.getD i 0)).wf = true
      rw [List.getD_eq_getElem?_getD]
      by_cases hi : i < zs.length
      · rw [List.getElem?_eq_getElem hi]; exact hwz _ (List.getElem_mem hi)
      · rw [List.getElem?_eq_none (by omega)]; exact h0
    · have := cell_lt (hcell 0 (by omega))
      rwa [block_of_add] at this
    · rw [hx]
      simp only [DataW.weights, ht]
      refine List.mem_cons.2 (.inl (congrArg (· * _) ?_))
      simp [ChangeShapes.lits]
      omega
theorem nums_arg {H : Type} {enc : TypeId × Value → H} {w : World} {base : Nat} {spare : Nat → Bool} {held : Bool} {t e : TypeId} {k : IntKind} {len cap by_ : Nat} {a : Option Addr} {d : DataW H} {p : List MemPlace}
    (ht : Try.prog.underlying t = some (.slice e)) (he : Try.prog.underlying e = some (.int k)) (hc : Try.prog.cellsOf e = 1) (h0 : (Lit.int k 0).wf = true) (hb : Try.prog.bytesOf e = by_) (h : DataW.Trod enc Try.prog w base spare held t (.slice a len cap) d p)
    (hsz : ∀ n ∈ d.weights Try.prog t, n ≤ reachBytes) : ∃ Y, Nums k w w.heap.size a len cap Y ∧ len * by_ ≤ reachBytes := by
  obtain ⟨fuel, hf⟩ := h
  obtain ⟨a', l', c', Y, hv, hn, hw⟩ := nums_of_trod (x := (d, p)) ht he hc h0 (show DataW.trod enc Try.prog w base spare held fuel t [.slice a len cap] = some (d, p) from hf)
  injection hv with h1 h2 h3
  subst h1 h2 h3
  refine ⟨Y, hn, ?_⟩
  rcases Nat.eq_zero_or_pos len with e | e
  · subst e; simp
  · obtain ⟨n, hm, hle⟩ := hw e
    rw [hb] at hle
    exact Nat.le_trans hle (hsz n hm)
end Go.Proofs.Ytjmdikabikgjhaa
