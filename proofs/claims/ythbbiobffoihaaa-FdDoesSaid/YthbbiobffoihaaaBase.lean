import Derived.Test.YthbbiobffoihaaaProg
import Derived.WalkKit
import Derived.WalkLawsBesides
import Derived.WalkSpells
import Derived.Laws.Rows
import Derived.Laws.Tables
import Derived.KernelRfl
import Derived.Lib.Hide
/- Blocks by their cells (row) and whether they may be written (nf); the walk's rules for them; what a call leaves as it was; results that are structs in memory. -/
namespace Go.Proofs.Ythbbiobffoihaaa
open Go.RowKit

/-! What lies in a block -/
theorem heap_at {w : World} {o : Obj} {g : Nat} (h : g = w.heap.size) : (w.alloc o).heap[g]? = some o := by subst h; exact heap_alloc_new w o
theorem heap_past {w : World} {o : Obj} {g : Nat} (h : g < w.heap.size) : (w.alloc o).heap[g]? = w.heap[g]? := Below.heap_alloc w o g h
theorem row_at {w : World} {c cs : Array Value} {t : TypeId} {g : Nat} (h : g = w.heap.size) : (w.alloc (.cells c t)).setRow g cs = w.alloc (.cells cs t) := by
  subst h
  simp only [World.setRow, World.alloc]
  congr 1
  apply Array.ext_getElem?
  intro j
  simp only [Array.getElem?_modify, Array.getElem?_push]
  by_cases e : w.heap.size = j
  · subst e; simp
  · simp [e, Ne.symm e]
theorem row_past {w : World} {o : Obj} {cs : Array Value} {g : Nat} (h : g < w.heap.size) : (w.alloc o).setRow g cs = (w.setRow g cs).alloc o := by
  simp only [World.setRow, World.alloc]
  congr 1
  apply Array.ext_getElem?
  intro j
  have hne : g ≠ w.heap.size := by omega
  simp only [Array.getElem?_modify, Array.getElem?_push, Array.size_modify]
  by_cases e : g = j
  · subst e; simp [hne]
  · simp [e]

/-- A whole row, by its number: what the walk reads and writes at once. -/
def row (w : World) (g : Nat) : Array Value := match w.heap[g]? with | some (.cells c _ _) => c | _ => #[]
/-- So many cells: a word of its own, that the walk may not take the size for a rule. -/
def szIs (c : Array Value) (n : Nat) : Bool := decide (c.size = n)
theorem szIs_lit (l : List Value) (n : Nat) : szIs l.toArray n = decide (l.length = n) := by simp [szIs]
/-- A row that may be written lies there. -/
def nf (w : World) (g : Nat) : Bool := match w.heap[g]? with | some (.cells _ _ f) => decide (f = (0, 0)) | _ => false

theorem nf_iff {w : World} {g : Nat} (h : nf w g = true) : ∃ t, w.heap[g]? = some (.cells (row w g) t (0, 0)) := by
  unfold nf at h; unfold row
  split at h
  · rename_i c t f e
    simp only [decide_eq_true_eq] at h
    subst h
    exact ⟨t, by simp [e]⟩
  · cases h
theorem of_heap {w : World} {g : Nat} {c : Array Value} {t : TypeId} (h : w.heap[g]? = some (.cells c t (0, 0))) : row w g = c ∧ nf w g = true := by
  simp [row, nf, h]
theorem row_heap {w w1 : World} {g : Nat} (h : w1.heap[g]? = w.heap[g]?) : row w1 g = row w g := by simp [row, h]
theorem nf_heap {w w1 : World} {g : Nat} (h : w1.heap[g]? = w.heap[g]?) : nf w1 g = nf w g := by simp [nf, h]
theorem heap_none {w : World} {g : Nat} (h : w.heap.size ≤ g) : w.heap[g]? = none := Array.getElem?_eq_none h
section
variable {w : World} {g : Nat}
theorem row_alloc {c : Array Value} {t : TypeId} : row (w.alloc (.cells c t)) g = if g = w.heap.size then c else row w g := by
  by_cases h : g = w.heap.size
  · rw [if_pos h]; exact (of_heap (heap_at h)).1
  · rw [if_neg h]; refine row_heap ?_; simp only [World.alloc, Array.getElem?_push, if_neg h]
theorem nf_alloc {c : Array Value} {t : TypeId} : nf (w.alloc (.cells c t)) g = if g = w.heap.size then true else nf w g := by
  by_cases h : g = w.heap.size
  · rw [if_pos h]; exact (of_heap (heap_at h)).2
  · rw [if_neg h]; refine nf_heap ?_; simp only [World.alloc, Array.getElem?_push, if_neg h]
theorem row_set {cs : Array Value} {g' : Nat} (h : nf w g = true) : row (w.setRow g cs) g' = if g' = g then cs else row w g' := by
  by_cases e : g' = g
  · subst e; obtain ⟨t, e⟩ := nf_iff h
    rw [if_pos rfl]; exact (of_heap (setRow_heap w _ _ cs t _ e)).1
  · rw [if_neg e]; exact row_heap (setRow_other w g g' cs e)
theorem nf_set {cs : Array Value} {g' : Nat} : nf (w.setRow g cs) g' = nf w g' := by
  unfold nf
  simp only [World.setRow, Array.getElem?_modify]
  by_cases e : g = g'
  · subst e
    cases h : w.heap[g]? with
    | none => simp
    | some o => cases o <;> simp
  · simp [e]
theorem row_cell {i : Nat} {v : Value} {g' : Nat} : row (w.setCell ⟨g, i, none⟩ v) g' = if g' = g then (row w g).setIfInBounds i v else row w g' := by
  by_cases e : g' = g
  · subst e
    unfold row
    simp only [World.setCell, Array.getElem?_modify, if_true]
    cases h : w.heap[g']? with
    | none => simp
    | some o => cases o <;> simp
  · rw [if_neg e]; exact row_heap (heap_setCell_other w _ g' v e)
theorem nf_cell {a : Addr} {v : Value} : nf (w.setCell a v) g = nf w g := by
  unfold nf
  simp only [World.setCell, Array.getElem?_modify]
  by_cases e : a.block = g
  · subst e
    cases h : w.heap[a.block]? with
    | none => simp
    | some o => cases o <;> simp
  · simp [e]
theorem row_drew : row w.drew g = row w g := rfl
theorem nf_drew : nf w.drew g = nf w g := rfl
theorem row_drewN {k : Nat} : row (w.drewN k) g = row w g := rfl
theorem nf_drewN {k : Nat} : nf (w.drewN k) g = nf w g := rfl
theorem cell_row {i : Nat} (h : nf w g = true) : w.cell? ⟨g, i, none⟩ = (row w g)[i]? := by
  obtain ⟨t, e⟩ := nf_iff h
  exact cell_of_row w g i _ t _ e
theorem cell_setRow {cs : Array Value} {i g' : Nat} (h : nf w g = true) : (w.setRow g cs).cell? ⟨g', i, none⟩ = if g' = g then cs[i]? else w.cell? ⟨g', i, none⟩ := by
  by_cases e : g' = g
  · subst e; obtain ⟨t, e⟩ := nf_iff h
    rw [if_pos rfl]; exact cell_setRow_same w _ i _ cs t _ e
  · rw [if_neg e]; exact cell_setRow_other w g cs ⟨g', i, none⟩ e
theorem frozen_setRow {cs : Array Value} {a : Addr} : (w.setRow g cs).frozen? a = w.frozen? a := by
  simp only [World.setRow, World.frozen?, Array.getElem?_modify]
  by_cases hb : g = a.block
  · simp only [hb, if_true]
    cases hh : w.heap[a.block]? with
    | none => simp
    | some x => cases x <;> simp
  · simp [hb]
theorem frozen_row {i : Nat} (h : nf w g = true) : w.frozen? ⟨g, i, none⟩ = false := by
  obtain ⟨t, e⟩ := nf_iff h
  exact frozen_of_row w g i _ t e
/-- A whole struct is read: a rule for the walk. -/
theorem loadAt_row (ty : TypeId) (n : Nat) (hk : (match Try.prog.underlying ty with | some (.struct _) => true | _ => false) = true) (hi : (Try.prog.info? ty).map (·.size) = some n) (h : nf w g = true) (hs : szIs (row w g) n = true) :
    (Instr.loadAt ty (.pointer (some ⟨g, 0, none⟩))).run Try.prog w = .ok (.agg (row w g)) w := by
  obtain ⟨t, e⟩ := nf_iff h
  have hs := of_decide_eq_true hs
  cases hu : Try.prog.underlying ty with
  | none => simp [hu] at hk
  | some d =>
    cases d <;> simp [hu] at hk
    simp only [Instr.loadAt, Instr.sureAddr, Sem.run_bind, Sem.run_pure, Result.andThen_ok]
    exact run_loadVar_row w g t ty _ _ _ e hu rfl (by rw [hi, hs])
theorem storeAt_row (ty : TypeId) (n : Nat) (cs : Array Value) (hi : (Try.prog.info? ty).map (·.size) = some n) (hc : cs.size = n) (h1 : cs.all (·.oneCell') = true) (h : nf w g = true) (hs : szIs (row w g) n = true) :
    (Instr.storeAt ty (.pointer (some ⟨g, 0, none⟩)) (.agg cs)).run Try.prog w = .ok () (w.setRow g cs) := by
  obtain ⟨t, e⟩ := nf_iff h
  have hs := of_decide_eq_true hs
  simp only [Instr.storeAt, Instr.sureAddr, Sem.run_bind, Sem.run_pure, Result.andThen_ok]
  exact run_storeVar_row w g t ty _ cs e (by rw [hi, hc]) (by rw [hs, hc]) h1
end
theorem below_drewN {B : Nat} {a w : World} (h : Below B a w) (n : Nat) : Below B a (w.drewN n) := ⟨h.os, h.tape, h.output, h.size, h.block⟩
theorem below_row {B g : Nat} {w0 w : World} (hb : Below B w0 w) (hBg : B ≤ g) (cs : Array Value) : Below B w0 (w.setRow g cs) :=
  hb.trans ⟨rfl, rfl, rfl, by simp [World.setRow], fun k hk => setRow_other w g k cs (by omega)⟩
/-! Results that are structs in memory -/
theorem ret_c {fn : Func} {p : Tmp} {ty : TypeId} (h : fn.results = #[.cell p ty]) (n : Nat) (tmps : Array Value) (w : World) (g : Nat)
    (hp : tmps.getD p undef = .pointer (some ⟨g, 0, none⟩)) (hn : nf w g = true) (hs : szIs (row w g) n = true)
    (hk : (match Try.prog.underlying ty with | some (.struct _) => true | _ => false) = true) (hi : (Try.prog.info? ty).map (·.size) = some n) : (results fn tmps).run Try.prog w = .ok (.agg (row w g)) w := by
  obtain ⟨t, e⟩ := nf_iff hn
  cases hu : Try.prog.underlying ty with
  | none => simp [hu] at hk
  | some d =>
    cases d <;> simp [hu] at hk
    exact results_cell_row h tmps w g t _ (0, 0) _ hp e hu rfl (by rw [hi, of_decide_eq_true hs])
theorem ret_ct {fn : Func} {p u : Tmp} {ty : TypeId} (h : fn.results = #[.cell p ty, .tmp u]) (n : Nat) (tmps : Array Value) (w : World) (g : Nat)
    (hp : tmps.getD p undef = .pointer (some ⟨g, 0, none⟩)) (hn : nf w g = true) (hs : szIs (row w g) n = true)
    (hk : (match Try.prog.underlying ty with | some (.struct _) => true | _ => false) = true) (hi : (Try.prog.info? ty).map (·.size) = some n) : (results fn tmps).run Try.prog w = .ok (.tuple #[.agg (row w g), tmps.getD u undef]) w := by
  obtain ⟨t, e⟩ := nf_iff hn
  have hs := of_decide_eq_true hs
  have hp' : tmps[p]?.getD undef = .pointer (some ⟨g, 0, none⟩) := by simpa using hp
  cases hu : Try.prog.underlying ty with
  | none => simp [hu] at hk
  | some d =>
    cases d <;> simp [hu] at hk
    simp [results, h, hp', asAddr, run_loadVar_row w g t ty _ (0, 0) _ e hu rfl (by rw [hi, hs])]
theorem ret_cc {fn : Func} {p u : Tmp} {ty ty' : TypeId} (h : fn.results = #[.cell p ty, .cell u ty']) (n n' : Nat) (tmps : Array Value) (w : World) (g g' : Nat)
    (hp : tmps.getD p undef = .pointer (some ⟨g, 0, none⟩)) (hv : tmps.getD u undef = .pointer (some ⟨g', 0, none⟩)) (hn : nf w g = true) (hs : szIs (row w g) n = true) (hn' : nf w g' = true) (hs' : szIs (row w g') n' = true)
    (hk : (match Try.prog.underlying ty with | some (.struct _) => true | _ => false) = true) (hi : (Try.prog.info? ty).map (·.size) = some n)
    (hk' : (match Try.prog.underlying ty' with | some (.struct _) => true | _ => false) = true) (hi' : (Try.prog.info? ty').map (·.size) = some n') : (results fn tmps).run Try.prog w = .ok (.tuple #[.agg (row w g), .agg (row w g')]) w := by
  obtain ⟨t, e⟩ := nf_iff hn
  obtain ⟨t', e'⟩ := nf_iff hn'
  have hs := of_decide_eq_true hs
  have hs' := of_decide_eq_true hs'
  have hp1 : tmps[p]?.getD undef = .pointer (some ⟨g, 0, none⟩) := by simpa using hp
  have hv1 : tmps[u]?.getD undef = .pointer (some ⟨g', 0, none⟩) := by simpa using hv
  cases hu : Try.prog.underlying ty with
  | none => simp [hu] at hk
  | some d =>
    cases d <;> simp [hu] at hk
    cases hu' : Try.prog.underlying ty' with
    | none => simp [hu'] at hk'
    | some d' =>
      cases d' <;> simp [hu'] at hk'
      simp [results, h, hp1, hv1, asAddr, run_loadVar_row w g t ty _ (0, 0) _ e hu rfl (by rw [hi, hs]), run_loadVar_row w g' t' ty' _ (0, 0) _ e' hu' rfl (by rw [hi', hs'])]
/-! Numbers of blocks -/
theorem nlt1 (n : Nat) : (n < n + 1) = True := by simp
theorem nlt2 (n : Nat) : (n < n + 1 + 1) = True := by simp; omega
theorem nlt3 (n : Nat) : (n < n + 1 + 1 + 1) = True := by simp; omega
theorem nlt4 (n : Nat) : (n < n + 1 + 1 + 1 + 1) = True := by simp; omega
theorem nne1 (n : Nat) : (n = n + 1) = False := by simp
theorem nne2 (n : Nat) : (n = n + 1 + 1) = False := by simp; omega
theorem nne3 (n : Nat) : (n = n + 1 + 1 + 1) = False := by simp; omega
theorem nen1 (n : Nat) : (n + 1 = n) = False := by simp
theorem nen2 (n : Nat) : (n + 1 + 1 = n) = False := by simp; omega
theorem nen3 (n : Nat) : (n + 1 + 1 + 1 = n) = False := by simp; omega
/-- A block is known whole. -/
def Blk (w : World) (g : Nat) (c : Array Value) : Prop := row w g = c ∧ nf w g = true
theorem Blk.all {w : World} {g : Nat} {c : Array Value} (h : Blk w g c) :
    row w g = c ∧ nf w g = true ∧ (∀ o, w.cell? ⟨g, o, none⟩ = c[o]?) ∧ (∀ o, w.frozen? ⟨g, o, none⟩ = false) :=
  ⟨h.1, h.2, fun o => by rw [cell_row h.2, h.1], fun o => frozen_row h.2⟩
theorem Blk.below {w w1 : World} {B g : Nat} {c : Array Value} (h : Blk w g c) (hb : Below B w w1) (hg : g < B) : Blk w1 g c :=
  ⟨(row_heap (hb.block g hg)).trans h.1, (nf_heap (hb.block g hg)).trans h.2⟩
theorem below_lt {w w1 : World} {B g : Nat} (hb : Below B w w1) (hg : g < w.heap.size) : g < w1.heap.size ∧ g ≠ w1.heap.size := by
  have := hb.size; omega
theorem below_only {B b : Nat} {a w w' : World} (h : Below B a w) (hg : w.grownBy w' (some b)) (hb : B ≤ b) (hB : B ≤ w.heap.size) : Below B a w' :=
  h.grown hg hB (fun k e => by injection e with e; omega)
theorem Blk.only {w w1 : World} {b g : Nat} {c : Array Value} (h : Blk w g c) (hg : w.grownBy w1 (some b)) (hl : g < w.heap.size) (hne : g ≠ b) : Blk w1 g c := by
  have e := hg.block g hl (fun e => hne (by injection e))
  exact ⟨(row_heap e).trans h.1, (nf_heap e).trans h.2⟩
theorem Blk.put {w : World} {g : Nat} {c : Array Value} (h : Blk w g c) (i : Nat) (v : Value) : Blk (w.setCell ⟨g, i, none⟩ v) g (c.setIfInBounds i v) :=
  ⟨by rw [row_cell, if_pos rfl, h.1], by rw [nf_cell]; exact h.2⟩
theorem Blk.of_heap {w : World} {g : Nat} {c : Array Value} {t : TypeId} (h : w.heap[g]? = some (.cells c t (0, 0))) : Blk w g c := Go.Proofs.Ythbbiobffoihaaa.of_heap h
theorem only_refl (w : World) (b : Nat) : w.grownBy w (some b) := ⟨rfl, rfl, rfl, Nat.le_refl _, fun _ _ _ => rfl⟩
theorem only_cell {w w1 : World} {b : Nat} (h : w.grownBy w1 (some b)) (i : Nat) (v : Value) : w.grownBy (w1.setCell ⟨b, i, none⟩ v) (some b) :=
  ⟨h.os, h.tape, h.output, by simpa using h.size, fun k hk hne => (heap_setCell_other w1 ⟨b, i, none⟩ k v (fun e => hne (by rw [e]))).trans (h.block k hk hne)⟩
theorem only_trans {w w1 w2 : World} {b : Nat} (h : w.grownBy w1 (some b)) (h2 : w1.grownBy w2 (some b)) : w.grownBy w2 (some b) :=
  ⟨h2.os.trans h.os, h2.tape.trans h.tape, h2.output.trans h.output, Nat.le_trans h.size h2.size, fun k hk hne => (h2.block k (Nat.lt_of_lt_of_le hk h.size) hne).trans (h.block k hk hne)⟩
theorem only_below {w w1 w2 : World} {b : Nat} (h : w.grownBy w1 (some b)) (h2 : Below w1.heap.size w1 w2) : w.grownBy w2 (some b) :=
  ⟨h2.os.trans h.os, h2.tape.trans h.tape, h2.output.trans h.output, Nat.le_trans h.size h2.size, fun k hk hne => (h2.block k (Nat.lt_of_lt_of_le hk h.size)).trans (h.block k hk hne)⟩
theorem below_only_r {w w1 w2 : World} {b : Nat} (h : Below w.heap.size w w1) (h2 : w1.grownBy w2 (some b)) : w.grownBy w2 (some b) :=
  ⟨h2.os.trans h.os, h2.tape.trans h.tape, h2.output.trans h.output, Nat.le_trans h.size h2.size, fun k hk hne => (h2.block k (Nat.lt_of_lt_of_le hk h.size) hne).trans (h.block k hk)⟩
theorem Blk.lt {w : World} {g : Nat} {c : Array Value} (h : Blk w g c) : g < w.heap.size := by
  obtain ⟨t, e⟩ := nf_iff h.2
  exact (Array.getElem?_eq_some_iff.1 e).1
end Go.Proofs.Ythbbiobffoihaaa
