import Derived.Test.YthbbiobffoihaaaBase
import Derived.Laws.AppendOwn
import Derived.Laws.OwnMore
import Derived.OwnWalk
import Derived.Deep.Slices
import Derived.Deep.Fields
import Derived.ChangeSame
import Derived.ChangeSlices
import Derived.SizedLaws
import Derived.Maps.AppendAt
import Derived.MapKept
/- Arguments. -/
namespace Go.Proofs.Ythbbiobffoihaaa
open Go.RowKit
set_option linter.unusedVariables false
set_option linter.unusedSimpArgs false
theorem block_of_add (a : Addr) (n : Nat) : (a.add n).block = a.block := by unfold Addr.add; split <;> rfl
theorem add_of_add (a : Addr) (i j : Nat) : (a.add i).add j = a.add (i + j) := by
  unfold Addr.add
  by_cases hi : i = 0 <;> by_cases hj : j = 0 <;> simp [hi, hj, Nat.add_assoc]
/-! Arguments: slices of whole numbers, slices of structs -/
theorem cell_lt {w : World} {a : Addr} {v : Value} (h : w.cell? a = some v) : a.block < w.heap.size := by
  rcases Nat.lt_or_ge a.block w.heap.size with h1 | h1
  · exact h1
  · unfold World.cell? at h; rw [Array.getElem?_eq_none h1] at h; cases h
theorem plain_add (b off j : Nat) : (⟨b, off, none⟩ : Addr).add j = ⟨b, off + j, none⟩ := by unfold Addr.add; split <;> simp_all
theorem weight_all {H : Type} {P : Program} {e : TypeId} {d : DataW H} {n : Nat} : ∀ {l : List (DataW H)}, d ∈ l → n ∈ d.weights P e → n ∈ DataW.weightsAll P e l
  | x :: l, hd, hn => by
    rw [DataW.weightsAll, List.mem_append]
    rcases List.mem_cons.1 hd with rfl | hd
    · exact .inl hn
    · exact .inr (weight_all hd hn)
/-- A slice of structs whose fields take one cell each: every field of every element is read, and bears no more weight than the whole. -/
theorem open_recs {H : Type} {enc : TypeId × Value → H} {P : Program} {w : World} {base : Nat} {spare : Nat → Bool} {held : Bool} {t e : TypeId} {fs : Array Field} {fuel : Nat} {cs : List Value} {x : DataW H × List MemPlace}
    (ht : P.underlying t = some (.slice e)) (he : P.underlying e = some (.struct fs)) (ho : Deep.oneCellFields P fs = true) (hC : P.cellsOf e = fs.size) (h : DataW.trod enc P w base spare held fuel t cs = some x) :
    (cs = [.slice none 0 0] ∧ x = (.nil, [])) ∨ ∃ (ad : Addr) (len cap : Nat), cs = [.slice (some ad) len cap] ∧ len ≤ cap ∧ cap ≤ maxLen ∧ (∃ el sp : List (DataW H), x.1 = .slice el sp ∧ el.length = len) ∧
      ∀ i, i < len → ∀ (j : Nat) (f : Field), fs[j]? = some f → ∃ (v : Value) (y : DataW H × List MemPlace) (n : Nat), w.cell? (ad.add (i * fs.size + j)) = some v ∧ DataW.trod enc P w base spare held n f.type [v] = some y ∧ ∀ k ∈ y.1.weights P f.type, k ∈ x.1.weights P t := by
  rcases Deep.open_slice ht h with h0 | ⟨ad, len, cap, m, n, D, Pl, rfl, hb, hl, hm, hmm, rfl, hi⟩
  · exact .inl h0
  · refine .inr ⟨ad, len, cap, rfl, hl, hm, ⟨_, _, rfl, by simp⟩, fun i hil j f hf => ?_⟩
    have hlm : len ≤ m := by rw [hmm]; split <;> omega
    obtain ⟨c, hc, hr⟩ := hi i (by omega)
    rw [hC] at hc
    obtain ⟨ys, n', _, hy, hcl, hyl, hg⟩ := DataW.trod_struct he hr
    obtain ⟨_, hlen, hat⟩ := World.cells?_some hc
    obtain ⟨o1, o2⟩ := Deep.hone_of ho j f hf
    have hj : j < fs.size := (Array.getElem?_eq_some_iff.1 hf).1
    have h1 := hg j f hf
    rw [o1, o2, List.drop_eq_getElem_cons (by omega)] at h1
    have hys : ys[j]? = some (ys[j]'(by omega)) := List.getElem?_eq_getElem (by omega)
    rw [hys] at h1
    refine ⟨_, _, n', ?_, h1, fun k hk => ?_⟩
    · rw [← add_of_add, hat j hj]
      exact List.getElem?_eq_getElem (by omega)
    · have hD : D i = .agg (ys.map (·.1)) := by injection hy
      have h2 : k ∈ (D i).weights P e := by
        rw [hD]
        simp only [DataW.weights, he]
        exact DataW.weights_mem_each (j := j) (by simp [hf]) (by simp [hys]) k hk
      simp only [DataW.weights, ht]
      exact List.mem_cons_of_mem _ (List.mem_append_left _ (weight_all (List.mem_map.2 ⟨i, List.mem_range.2 hil, rfl⟩) h2))
def IsRow (k : IntKind) (w : World) (a : Option Addr) (len cap : Nat) (zs : List Int) : Prop :=
  (a = none ∧ len = 0 ∧ cap = 0 ∧ zs = []) ∨ ∃ ad, a = some ad ∧ len ≤ cap ∧ cap ≤ maxLen ∧ zs.length = cap ∧ (∀ i, i < zs.length → w.cell? (ad.add i) = some (.int k (zs.getD i 0))) ∧ ∀ n ∈ zs, (Lit.int k n).wf = true
/-- Whole numbers that can be read, in blocks below B: a slice's values are the function's. -/
def Nums (k : IntKind) (w : World) (B : Nat) (a : Option Addr) (len cap : Nat) (Y : Nat → Int) : Prop :=
  len ≤ cap ∧ cap ≤ maxLen ∧ (∀ i, (Lit.int k (Y i)).wf = true) ∧ (0 < len → ∃ ad, a = some ad ∧ ad.block < B ∧ ∀ i, i < len → w.cell? (ad.add i) = some (.int k (Y i)))
theorem Nums.of_row {k : IntKind} {w : World} {a : Option Addr} {len cap : Nat} {zs : List Int} (h0 : (Lit.int k 0).wf = true) (h : IsRow k w a len cap zs) : Nums k w w.heap.size a len cap (fun i => zs.getD i 0) := by
  rcases h with ⟨rfl, rfl, rfl, rfl⟩ | ⟨ad, rfl, hl, hm, hz, hc, hw⟩
  · exact ⟨Nat.le_refl _, by unfold maxLen; omega, fun i => by simpa using h0, fun h => absurd h (by omega)⟩
  · refine ⟨hl, hm, fun i => ?_, fun h => ⟨ad, rfl, ?_, fun i hi => hc i (by omega)⟩⟩
    · show (Lit.int k (zs.getD i 0)).wf = true
      rw [List.getD_eq_getElem?_getD]
      by_cases hi : i < zs.length
      · rw [List.getElem?_eq_getElem hi]; exact hw _ (List.getElem_mem hi)
      · rw [List.getElem?_eq_none (by omega)]; exact h0
    · have := cell_lt (hc 0 (by omega))
      rwa [block_of_add] at this
theorem Nums.below {k : IntKind} {w w' : World} {B len cap : Nat} {a : Option Addr} {Y : Nat → Int} (h : Nums k w B a len cap Y) (hb : Below B w w') : Nums k w' B a len cap Y :=
  ⟨h.1, h.2.1, h.2.2.1, fun hn => by
    obtain ⟨ad, e, c, b⟩ := h.2.2.2 hn
    exact ⟨ad, e, c, fun i hi => (hb.cell (by rw [block_of_add]; exact c)).trans (b i hi)⟩⟩
theorem nums_of_trod {H : Type} {enc : TypeId × Value → H} {w : World} {base : Nat} {spare : Nat → Bool} {held : Bool} {t e : TypeId} {k : IntKind} {fuel : Nat} {v : Value} {x : DataW H × List MemPlace}
    (ht : Try.prog.underlying t = some (.slice e)) (he : Try.prog.underlying e = some (.int k)) (hc : Try.prog.cellsOf e = 1) (h0 : (Lit.int k 0).wf = true) (h : DataW.trod enc Try.prog w base spare held fuel t [v] = some x) :
    ∃ a len cap Y, v = .slice a len cap ∧ Nums k w w.heap.size a len cap Y ∧ (0 < len → ∃ n ∈ x.1.weights Try.prog t, len * Try.prog.bytesOf e ≤ n) := by
  rcases ChangeShapes.open_ints ht he hc h with ⟨hcs, _⟩ | ⟨ad, l, c, zs, hcs, hb, hl, hm, hz, hx, hcell, hwz⟩
  · injection hcs with hcs _
    exact ⟨none, 0, 0, fun _ => 0, hcs, ⟨Nat.le_refl _, by unfold maxLen; omega, fun _ => h0, fun h => absurd h (by omega)⟩, fun h => absurd h (by omega)⟩
  · injection hcs with hcs _
    have hzl : l ≤ zs.length := by rw [hz]; split <;> omega
    refine ⟨some ad, l, c, fun i => zs.getD i 0, hcs, ⟨hl, hm, fun i => ?_, fun h => ⟨ad, rfl, ?_, fun i hi => hcell i (by omega)⟩⟩, fun h => ⟨zs.length * Try.prog.bytesOf e, ?_, Nat.mul_le_mul_right _ hzl⟩⟩
    · show (Lit.int k (zs.getD i 0)).wf = true
      rw [List.getD_eq_getElem?_getD]
      by_cases hi : i < zs.length
      · rw [List.getElem?_eq_getElem hi]; exact hwz _ (List.getElem_mem hi)
      · rw [List.getElem?_eq_none (by omega)]; exact h0
    · have := cell_lt (hcell 0 (by omega))
      rwa [block_of_add] at this
    · rw [hx]
      simp only [DataW.weights, ht]
      refine List.mem_cons.2 (.inl (congrArg (· * _) ?_))
      simp [ChangeShapes.lits]
      omega
theorem nums_arg {H : Type} {enc : TypeId × Value → H} {w : World} {base : Nat} {spare : Nat → Bool} {held : Bool} {t e : TypeId} {k : IntKind} {len cap by_ : Nat} {a : Option Addr} {d : DataW H} {p : List MemPlace}
    (ht : Try.prog.underlying t = some (.slice e)) (he : Try.prog.underlying e = some (.int k)) (hc : Try.prog.cellsOf e = 1) (h0 : (Lit.int k 0).wf = true) (hb : Try.prog.bytesOf e = by_) (h : DataW.Trod enc Try.prog w base spare held t (.slice a len cap) d p)
    (hsz : ∀ n ∈ d.weights Try.prog t, n ≤ reachBytes) : ∃ Y, Nums k w w.heap.size a len cap Y ∧ len * by_ ≤ reachBytes := by
  obtain ⟨fuel, hf⟩ := h
  obtain ⟨a', l', c', Y, hv, hn, hw⟩ := nums_of_trod (x := (d, p)) ht he hc h0 (show DataW.trod enc Try.prog w base spare held fuel t [.slice a len cap] = some (d, p) from hf)
  injection hv with h1 h2 h3
  subst h1 h2 h3
  refine ⟨Y, hn, ?_⟩
  rcases Nat.eq_zero_or_pos len with e | e
  · subst e; simp
  · obtain ⟨n, hm, hle⟩ := hw e
    rw [hb] at hle
    exact Nat.le_trans hle (hsz n hm)
structure OpV where
  (x0 : Int)
  (x1 : Int)
  (x2 : Int)
  (x3 : Int)
  (x4 : Int)
deriving Inhabited
/-- Element i of the slice that begins at ad reads as o. -/
def IsOp (w : World) (B : Nat) (b off : Nat) (i : Nat) (o : OpV) : Prop := w.cell? ⟨b, off + i * 5, none⟩ = some (.int .i64 o.x0) ∧ (Lit.int .i64 o.x0).wf = true ∧ w.cell? ⟨b, off + i * 5 + 1, none⟩ = some (.int .i64 o.x1) ∧ (Lit.int .i64 o.x1).wf = true ∧ w.cell? ⟨b, off + i * 5 + 2, none⟩ = some (.int .i64 o.x2) ∧ (Lit.int .i64 o.x2).wf = true ∧ w.cell? ⟨b, off + i * 5 + 3, none⟩ = some (.int .i64 o.x3) ∧ (Lit.int .i64 o.x3).wf = true ∧ w.cell? ⟨b, off + i * 5 + 4, none⟩ = some (.int .i64 o.x4) ∧ (Lit.int .i64 o.x4).wf = true
theorem IsOp.below {w w' : World} {B i b off : Nat} {o : OpV} (h : IsOp w B b off i o) (hB : b < B) (hb : Below B w w') : IsOp w' B b off i o := by
  unfold IsOp at h ⊢
  exact ⟨(hb.cell hB).trans h.1, h.2.1, (hb.cell hB).trans h.2.2.1, h.2.2.2.1, (hb.cell hB).trans h.2.2.2.2.1, h.2.2.2.2.2.1, (hb.cell hB).trans h.2.2.2.2.2.2.1, h.2.2.2.2.2.2.2.1, (hb.cell hB).trans h.2.2.2.2.2.2.2.2.1, h.2.2.2.2.2.2.2.2.2⟩
def AreOp (w : World) (B : Nat) (a : Option Addr) (len cap : Nat) (o : Nat → OpV) : Prop :=
  len ≤ cap ∧ cap ≤ maxLen ∧ len * 40 ≤ reachBytes ∧ (0 < len → ∃ b off, a = some ⟨b, off, none⟩ ∧ b < B ∧ ∀ i, i < len → IsOp w B b off i (o i))
theorem AreOp.below {w w' : World} {B len cap : Nat} {a : Option Addr} {o : Nat → OpV} (h : AreOp w B a len cap o) (hb : Below B w w') : AreOp w' B a len cap o :=
  ⟨h.1, h.2.1, h.2.2.1, fun hn => by
    obtain ⟨b, off, e, c, h⟩ := h.2.2.2 hn
    exact ⟨b, off, e, c, fun i hi => (h i hi).below c hb⟩⟩
noncomputable def opFs : Array Field := match Try.prog.underlying 26 with | some (.struct fs) => fs | _ => #[]
noncomputable def opF (j : Nat) : Field := opFs.getD j default
theorem ops_of {H : Type} {enc : TypeId × Value → H} {w : World} {base : Nat} {spare : Nat → Bool} {held : Bool} {fuel len cap : Nat} {a : Option Addr} {x : DataW H × List MemPlace}
    (h : DataW.trod enc Try.prog w base spare held fuel 22 [.slice a len cap] = some x) (hsz : ∀ n ∈ x.1.weights Try.prog 22, n ≤ reachBytes) : ∃ o, AreOp w w.heap.size a len cap o ∧ (0 < len → ∃ el sp : List (DataW H), x.1 = .slice el sp ∧ el.length = len) := by
  have ht : Try.prog.underlying 22 = some (.slice 26) := by kernel_rfl
  have hk : opFs.size = 5 := by kernel_rfl
  rcases open_recs ht (fs := opFs) (by kernel_rfl) (by kernel_rfl) (by kernel_rfl) h with ⟨hcs, _⟩ | ⟨ad, l, c, hcs, hl, hm, ⟨el, sp, hx, hel⟩, hat⟩
  · simp at hcs
    obtain ⟨rfl, rfl, rfl⟩ := hcs
    exact ⟨fun _ => default, ⟨Nat.le_refl _, by unfold maxLen; omega, by simp, fun h => absurd h (by omega)⟩, fun h => absurd h (by omega)⟩
  · simp at hcs
    obtain ⟨rfl, rfl, rfl⟩ := hcs
    rw [hk] at hat
    have hb : Try.prog.bytesOf 26 = 40 := by kernel_rfl
    have hlw : len * 40 ≤ reachBytes := by
      refine Nat.le_trans ?_ (hsz ((el.length + sp.length) * Try.prog.bytesOf 26) (by rw [hx]; simp [DataW.weights, ht]))
      rw [hb]; exact Nat.mul_le_mul_right _ (by omega)
    rcases Nat.eq_zero_or_pos len with h0 | h0
    · exact ⟨fun _ => default, ⟨hl, hm, hlw, fun h => absurd h (by omega)⟩, fun h => absurd h (by omega)⟩
    · have hsp : ad.spot = none := by
        obtain ⟨v, y, n, hv, _⟩ := hat 0 h0 0 (opF 0) (by kernel_rfl)
        have e : ad.add (0 * 5 + 0) = ad := rfl
        rw [e] at hv
        cases hs : ad.spot with
        | none => rfl
        | some _ => unfold World.cell? at hv; simp [hs] at hv; split at hv <;> cases hv
      obtain ⟨b, off, sp⟩ := ad
      simp only at hsp
      subst hsp
      have hadd : ∀ i j, (⟨b, off, none⟩ : Addr).add (i * 5 + j) = ⟨b, off + i * 5 + j, none⟩ := by
        intro i j
        rw [plain_add]
        exact congrArg (Addr.mk b · none) (by omega)
      have one : ∀ i, i < len → ∃ o, IsOp w w.heap.size b off i o := by
        intro i hi
        obtain ⟨v0, q0, n0, e0, t0, g0⟩ := hat i hi 0 (opF 0) (by kernel_rfl)
        obtain ⟨v1, q1, n1, e1, t1, g1⟩ := hat i hi 1 (opF 1) (by kernel_rfl)
        obtain ⟨v2, q2, n2, e2, t2, g2⟩ := hat i hi 2 (opF 2) (by kernel_rfl)
        obtain ⟨v3, q3, n3, e3, t3, g3⟩ := hat i hi 3 (opF 3) (by kernel_rfl)
        obtain ⟨v4, q4, n4, e4, t4, g4⟩ := hat i hi 4 (opF 4) (by kernel_rfl)
        obtain ⟨z0, b0, _, r0⟩ := DataW.trod_int (k := .i64) (by kernel_rfl) t0
        injection b0 with b0 _
        subst b0
        obtain ⟨z1, b1, _, r1⟩ := DataW.trod_int (k := .i64) (by kernel_rfl) t1
        injection b1 with b1 _
        subst b1
        obtain ⟨z2, b2, _, r2⟩ := DataW.trod_int (k := .i64) (by kernel_rfl) t2
        injection b2 with b2 _
        subst b2
        obtain ⟨z3, b3, _, r3⟩ := DataW.trod_int (k := .i64) (by kernel_rfl) t3
        injection b3 with b3 _
        subst b3
        obtain ⟨z4, b4, _, r4⟩ := DataW.trod_int (k := .i64) (by kernel_rfl) t4
        injection b4 with b4 _
        subst b4
        exact ⟨⟨z0, z1, z2, z3, z4⟩, (by have := e0; rw [hadd] at this; exact this), r0, (by have := e1; rw [hadd] at this; exact this), r1, (by have := e2; rw [hadd] at this; exact this), r2, (by have := e3; rw [hadd] at this; exact this), r3, (by have := e4; rw [hadd] at this; exact this), r4⟩
      have hall : ∀ i, ∃ o, i < len → IsOp w w.heap.size b off i o := by
        intro i
        by_cases hi : i < len
        · exact (one i hi).imp fun o h _ => h
        · exact ⟨default, fun h => absurd h hi⟩
      obtain ⟨o, ho⟩ := Classical.skolem.1 hall
      exact ⟨o, ⟨hl, hm, hlw, fun h => ⟨b, off, rfl, cell_lt (ho 0 h).1, ho⟩⟩, fun _ => ⟨el, sp, hx, hel⟩⟩
theorem ops_arg {H : Type} {enc : TypeId × Value → H} {w : World} {base : Nat} {spare : Nat → Bool} {held : Bool} {len cap : Nat} {a : Option Addr} {d : DataW H} {p : List MemPlace}
    (h : DataW.Trod enc Try.prog w base spare held 22 (.slice a len cap) d p) (hsz : ∀ n ∈ d.weights Try.prog 22, n ≤ reachBytes) : ∃ o, AreOp w w.heap.size a len cap o ∧ (0 < len → ∃ el sp : List (DataW H), d = .slice el sp ∧ el.length = len) := by
  obtain ⟨fuel, hf⟩ := h
  exact ops_of (x := (d, p)) hf hsz
end Go.Proofs.Ythbbiobffoihaaa
