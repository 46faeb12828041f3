import Derived.Test.YtngjpokbjnjodaaStepP
import Derived.LoopN
/- What stands: what is kept while it is looked at. -/
namespace Go.Proofs.Ytngjpokbjnjodaa
open Go.RowKit Go.BigFrame
set_option linter.unusedVariables false
set_option linter.unusedSimpArgs false
attribute [local go_sem] szIs_lit row_at row_past row_alloc nf_alloc row_set nf_set row_cell nf_cell row_drew nf_drew row_drewN nf_drewN cell_setRow frozen_setRow nlt1 nlt2 nlt3 nlt4 nne1 nne2 nne3 nen1 nen2 nen3
attribute [local go_sem] by_get by_set
open Go.Shelf
/-- Pages, as cells. -/
def pgv (l : List (Int × Int)) : List Value := l.map fun e => Value.int .i64 e.1
theorem pgv_len (l : List (Int × Int)) : (pgv l).length = l.length := by simp [pgv]
theorem frL_lvL (L : Nat → Option Nat) : frL L 4 = (lvL L).map Prod.snd := by
  have e : List.range 4 = [0, 1, 2, 3] := rfl
  unfold frL
  rw [lvL_eq, e]
  cases h0 : L 0 <;> cases h1 : L 1 <;> cases h2 : L 2 <;> cases h3 : L 3 <;> simp [h0, h1, h2, h3]
structure SA (w u : World) (B bb g b t x F root bB sB rB : Nat) (L : Nat → Option Nat) (E : Nat → Int) (stop : Int) : Prop where
  j : J2 u B bb g b t x F root L E
  hb : Blk u bB #[.pointer (some ⟨bb, 0, none⟩)]
  hs : Blk u sB #[.int .i64 stop]
  hr : Blk u rB #[.bool false]
  bl : Below w.heap.size w u
  wr : w.heap.size ≤ rB
structure SV (w u : World) (B bb g b t x F root bB sB rB pB xa n : Nat) (PA : Option Addr) (pc : Nat) (L : Nat → Option Nat) (E : Nat → Int) (stop : Int) : Prop where
  a : SA w u B bb g b t x F root bB sB rB L E stop
  hp : Blk u pB #[.slice PA n pc]
  hq : Rw u 3 1 PA n pc (pgv (ents E 256))
  hn : n = (ents E 256).length
  hx : Blk u xa #[.pointer (some ⟨t, 0, none⟩)]
section
variable {w u u' : World} {B bb g b t x F root bB sB rB pB xa n pc : Nat} {PA : Option Addr} {L : Nat → Option Nat} {E : Nat → Int} {stop : Int}
theorem SA.below (h : SA w u B bb g b t x F root bB sB rB L E stop) (hb : Below u.heap.size u u') : SA w u' B bb g b t x F root bB sB rB L E stop :=
  ⟨h.j.below hb, h.hb.below hb h.hb.lt, h.hs.below hb h.hs.lt, h.hr.below hb h.hr.lt, h.bl.trans (Below.mono hb h.bl.size), h.wr⟩
theorem SV.below (h : SV w u B bb g b t x F root bB sB rB pB xa n PA pc L E stop) (hb : Below u.heap.size u u') : SV w u' B bb g b t x F root bB sB rB pB xa n PA pc L E stop :=
  ⟨h.a.below hb, h.hp.below hb h.hp.lt, h.hq.below hb, h.hn, h.hx.below hb h.hx.lt⟩
end
/-- What ranges over functions have left to be taken up, at a function's end. -/
def mk (D : Nat) : Deferred := { target := .collected D, args := #[] }
theorem leaves_all {fn : Func} {tmps : Array Value} {R : Ending → World → Prop} {n B : Nat} : ∀ (Ds : List Nat) (W : World), Ds.Nodup → (∀ D ∈ Ds, B ≤ D ∧ W.heap[D]? = some (.deferred (some []))) → B ≤ W.heap.size →
    (∀ W', Below B W W' → LeavesIn Fence.wide n Try.prog fn tmps R [] .returning W') → LeavesInM Fence.wide n Try.prog fn tmps R (Ds.map mk) .returning W
  | [], W, _, _, _, h => h W (Below.refl _ _)
  | D :: Ds, W, hn, hD, hB, h => by
    have h1 := hD D (by simp)
    have hb : Below B W (W.putObj D (.deferred none)) := (Below.refl B W).grown (grownBy_putObj' W D _) hB (fun k e => by cases e; exact h1.1)
    refine ⟨by simp, .inl ⟨_, _, rfl, run_takeDeferred h1.2, ?_⟩⟩
    refine leaves_all Ds _ (List.nodup_cons.1 hn).2 (fun k hk => ⟨(hD k (by simp [hk])).1, ?_⟩) (Nat.le_trans hB hb.size) (fun W' hW => h W' (hb.trans hW))
    have hne : k ≠ D := fun e => (List.nodup_cons.1 hn).1 (by rw [← e]; exact hk)
    exact (World.putObj_heap_other hne).trans (hD k (by simp [hk])).2
/-- Between two rounds of a range; and where it is left. -/
def IId (es : List (Int × Int)) (V : World) (pre : List (Int × Int)) (W : World) : Prop := (pre <+: es ∧ W.cell? ⟨V.heap.size, 0, none⟩ = some (.int .i64 (pre.length : Int)) ∧ W.frozen? ⟨V.heap.size, 0, none⟩ = false) ∧ Below V.heap.size V W
def IXd (es : List (Int × Int)) (V : World) (r : Nat) (stop : Int) (c : Code) (pre : List (Int × Int)) (W : World) : Prop := (c = .ret ∧ ¬ pre <+: es) ∨ (c = .exit 6 ∧ r = 0 ∧ pre <+: es ∧ (pre.length : Int) = stop ∧ W.cell? ⟨V.heap.size, 0, none⟩ = some (.int .i64 (pre.length : Int)) ∧ Below V.heap.size V W)
theorem rounds_two {P : Program} {c : Code} {Q : Exit → Act → World → Prop} {a : Act} {w : World} (TI : Act → World → Prop) (h2 : ∀ a' w', TI a' w' → Code.rounds P c Q 2 a' w') (h : (∀ a' w', TI a' w' → Code.rounds P c Q 2 a' w') → Code.rounds P c Q 3 a w) : Code.rounds P c Q 3 a w := h h2
theorem ents_pre (E : Nat → Int) : ∀ (j k : Nat), ents E j <+: ents E (j + k)
  | j, 0 => List.prefix_refl _
  | j, k + 1 => by
    refine (ents_pre E j k).trans ?_
    rw [show j + (k + 1) = (j + k) + 1 by omega]
    by_cases h : E (j + k) = 0
    · rw [ents_zero h]; exact List.prefix_refl _
    · rw [ents_some h]; exact List.prefix_append _ _
theorem ents_mem {E : Nat → Int} {j : Nat} {p e : Int} (h : (p, e) ∈ ents E j) : ∃ q : Nat, q < j ∧ p = q ∧ e = E q := by
  unfold ents at h
  obtain ⟨q, hq, h⟩ := List.mem_filterMap.1 h
  split at h
  · cases h
  · injection h with h; injection h with h1 h2; exact ⟨q, List.mem_range.1 hq, h1.symm, h2.symm⟩
theorem pre_snoc {α : Type} {pre es : List α} {x : α} (h : pre <+: es) (hx : es[pre.length]? = some x) : pre ++ [x] <+: es := by
  obtain ⟨t, rfl⟩ := h
  rw [List.getElem?_append_right (Nat.le_refl _), Nat.sub_self] at hx
  cases t with
  | nil => cases hx
  | cons a t => simp at hx; subst hx; exact ⟨t, by simp⟩
theorem pre_at {α : Type} {pre es : List α} {x : α} (h : pre ++ [x] <+: es) : es[pre.length]? = some x := by
  obtain ⟨t, rfl⟩ := h
  rw [List.append_assoc, List.getElem?_append_right (Nat.le_refl _), Nat.sub_self]; rfl
end Go.Proofs.Ytngjpokbjnjodaa
