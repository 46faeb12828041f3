import Derived.Test.YthbbiobffoihaaaLp
import Derived.StillTailTactics
/- The reference's open files, told by the program's: Is, Get, Move. -/
namespace Go.Proofs.Ythbbiobffoihaaa
open Go.RowKit Go.BigFrame
set_option linter.unusedVariables false
set_option linter.unusedSimpArgs false
attribute [local go_sem] szIs_lit row_at row_past row_alloc nf_alloc row_set nf_set row_cell nf_cell row_drew nf_drew row_drewN nf_drewN cell_setRow frozen_setRow nlt1 nlt2 nlt3 nlt4 nne1 nne2 nne3 nen1 nen2 nen3
set_option maxRecDepth 20000
def flAt (L : PL Fl) (i : Nat) : Fl := match PL.get L (i : Int) with | some q => q.2 | none => Fl.zero
/-- What the reference holds. -/
def Rof (L : PL Fl) : List Fl := (List.range 64).map (flAt L)
theorem Rof_len (L : PL Fl) : (Rof L).length = 64 := by simp [Rof]
theorem Rof_get (L : PL Fl) {i : Nat} (hi : i < 64) : (Rof L)[i]? = some (flAt L i) := by simp [Rof, hi]
theorem Rof_nil : Rof [] = R0 := by
  apply List.ext_getElem?
  intro i
  by_cases hi : i < 64
  · rw [Rof_get _ hi]; unfold R0; rw [List.getElem?_replicate, if_pos hi]; rfl
  · rw [List.getElem?_eq_none (by rw [Rof_len]; omega), List.getElem?_eq_none (by unfold R0; rw [List.length_replicate]; omega)]
/-- Two that differ at one place. -/
theorem Rof_set {L L' : PL Fl} {i : Nat} {f : Fl} (hi : i < 64) (h1 : flAt L' i = f) (h2 : ∀ j : Nat, j < 64 → j ≠ i → flAt L' j = flAt L j) : Rof L' = (Rof L).set i f := by
  apply List.ext_getElem?
  intro j
  rw [List.getElem?_set]
  by_cases hj : j < 64
  · rw [Rof_get _ hj]
    by_cases e : i = j
    · subst e; rw [if_pos rfl, if_pos (by rw [Rof_len]; exact hi), h1]
    · rw [if_neg e, Rof_get _ hj, h2 j hj (Ne.symm e)]
  · rw [List.getElem?_eq_none (by rw [Rof_len]; omega)]
    split
    · rename_i e; subst e; omega
    · rw [List.getElem?_eq_none (by rw [Rof_len]; omega)]
def Fl.at (f : Fl) : Nat → Int
  | 0 => f.kd
  | 1 => f.wh
  | 2 => f.at_
  | 3 => f.fg
  | _ => f.rf
theorem flat_get : ∀ (R : List Fl) (i k : Nat) (f : Fl), R[i]? = some f → k < 5 → (R.flatMap fun f => f.cells.toList)[i * 5 + k]? = some (.int .i64 (f.at k))
  | [], i, k, f, h, _ => by cases h
  | g :: R, 0, k, f, h, hk => by
    simp only [List.getElem?_cons_zero, Option.some.injEq] at h
    subst h
    rcases (show k = 0 ∨ k = 1 ∨ k = 2 ∨ k = 3 ∨ k = 4 by omega) with rfl | rfl | rfl | rfl | rfl <;> rfl
  | g :: R, i + 1, k, f, h, hk => by
    have ih := flat_get R i k f (by simpa using h) hk
    have e : (g :: R).flatMap (fun f => f.cells.toList) = g.cells.toList ++ R.flatMap (fun f => f.cells.toList) := by simp
    have hl : g.cells.toList.length = 5 := rfl
    rw [e, List.getElem?_append_right (by rw [hl]; omega), hl, show (i + 1) * 5 + k - 5 = i * 5 + k by omega]
    exact ih
theorem flat_set : ∀ (R : List Fl) (i k : Nat) (f f' : Fl) (v : Value), R[i]? = some f → k < 5 → f.cells.setIfInBounds k v = f'.cells → (R.flatMap fun f => f.cells.toList).set (i * 5 + k) v = (R.set i f').flatMap fun f => f.cells.toList
  | [], i, k, f, f', v, h, _, _ => by cases h
  | g :: R, 0, k, f, f', v, h, hk, hv => by
    simp only [List.getElem?_cons_zero, Option.some.injEq] at h
    subst h
    have hl : g.cells.toList.length = 5 := rfl
    simp only [List.flatMap_cons, List.set_cons_zero, Nat.zero_mul, Nat.zero_add]
    rw [List.set_append_left _ _ (by rw [hl]; exact hk), ← Array.toList_setIfInBounds, hv]
  | g :: R, i + 1, k, f, f', v, h, hk, hv => by
    have ih := flat_set R i k f f' v (by simpa using h) hk hv
    have hl : g.cells.toList.length = 5 := rfl
    simp only [List.flatMap_cons, List.set_cons_succ]
    rw [List.set_append_right _ _ (by rw [hl]; omega), hl, show (i + 1) * 5 + k - 5 = i * 5 + k by omega, ih]
/-- The reference's files at r say what L says. -/
structure RF (w : World) (r : Nat) (L : PL Fl) : Prop where
  blk : Blk w r (rcells (Rof L))
  ids : ∀ x ∈ PL.ks L, 0 ≤ x ∧ x < 64
  pos : ∀ x q, PL.get L x = some q → 1 ≤ q.2.rf ∧ q.2.rf ≤ 4611686018427387904
section
variable {w w' : World} {r : Nat} {L : PL Fl}
theorem RF.same (h : RF w r L) (e : w'.heap[r]? = w.heap[r]?) : RF w' r L := ⟨h.blk.same e, h.ids, h.pos⟩
theorem RF.ch {F : Nat → Prop} (h : RF w r L) (hc : Ch F w w') (hF : ¬ F r) : RF w' r L := ⟨h.blk.ch hc hF, h.ids, h.pos⟩
theorem RF.below (h : RF w r L) (hb : Below w.heap.size w w') : RF w' r L := h.same (hb.block r h.blk.lt)
theorem RF.alloc (h : RF w r L) (o : Obj) : RF (w.alloc o) r L := h.below ((Below.refl _ _).alloc (Nat.le_refl _) _)
theorem RF.drew (h : RF w r L) : RF w.drew r L := h.same rfl
theorem RF.cell (h : RF w r L) {i k : Nat} (hi : i < 64) (hk : k < 5) : w.cell? ⟨r, i * 5 + k, none⟩ = some (.int .i64 ((flAt L i).at k)) := by
  rw [h.blk.all.2.2.1 (i * 5 + k)]
  have := flat_get (Rof L) i k (flAt L i) (Rof_get L hi) hk
  simpa [rcells] using this
theorem RF.frz (h : RF w r L) (i : Nat) : w.frozen? ⟨r, i, none⟩ = false := h.blk.all.2.2.2 i
theorem flAt_some {L : PL Fl} {i b : Nat} {f : Fl} (h : PL.get L (i : Int) = some (b, f)) : flAt L i = f := by unfold flAt; rw [h]
theorem flAt_none {L : PL Fl} {i : Nat} (h : PL.get L (i : Int) = none) : flAt L i = Fl.zero := by unfold flAt; rw [h]
/-- A store that makes of it what another L says. -/
theorem RF.put (h : RF w r L) {L' : PL Fl} {i k : Nat} {v : Value} {f' : Fl} (hi : i < 64) (hk : k < 5) (hv : (flAt L i).cells.setIfInBounds k v = f'.cells) (hR : Rof L' = (Rof L).set i f') (hids : ∀ x ∈ PL.ks L', 0 ≤ x ∧ x < 64) (hpos : ∀ x q, PL.get L' x = some q → 1 ≤ q.2.rf ∧ q.2.rf ≤ 4611686018427387904) :
    RF (w.setCell ⟨r, i * 5 + k, none⟩ v) r L' := by
  refine ⟨?_, hids, hpos⟩
  have h1 := h.blk.put (i * 5 + k) v
  have h2 := flat_set (Rof L) i k (flAt L i) f' v (Rof_get L hi) hk hv
  have e : (rcells (Rof L)).setIfInBounds (i * 5 + k) v = rcells (Rof L') := by
    rw [hR]
    unfold rcells
    rw [← h2]; simp
  rwa [e] at h1
/-- Is a number one of an open file? -/
theorem RF.isIn (h : RF w r L) {x : Int} {q : Nat × Fl} (hg : PL.get L x = some q) : ∃ i : Nat, x = (i : Int) ∧ i < 64 := by
  have := h.ids x (PL.get_in hg)
  exact ⟨x.toNat, by omega, by omega⟩
theorem is_yes (h : RF w r L) {i b : Nat} {f : Fl} (hi : i < 64) (hg : PL.get L (i : Int) = some (b, f)) : Calls Try.prog 43 #[.pointer (some ⟨r, 0, none⟩), .int .i64 (i : Int)] w fun e w' => e = .returned (.bool true) ∧ w = w' := by
  have hc := h.cell (k := 4) hi (by omega)
  rw [flAt_some hg] at hc
  have hp := (h.pos _ _ hg).1
  have h2 : decide ((i : Int) ≥ 0) = true := by simp
  have h3 : decide ((i : Int) < 64) = true := by simp; omega
  have h4 : decide (f.rf > 0) = true := by simp; simp only at hp; omega
  simp only [Fl.at] at hc
  clear h hg hp
  go_enter Try.func43, Try.ntmps43
  go_wp2
  go_ret
  exact ⟨by first | rfl | simp, rfl⟩
theorem is_no (h : RF w r L) {x : Int} (hg : PL.get L x = none) : Calls Try.prog 43 #[.pointer (some ⟨r, 0, none⟩), .int .i64 x] w fun e w' => e = .returned (.bool false) ∧ w = w' := by
  by_cases h1 : x < 0
  · have h2 : decide (x ≥ 0) = false := by simp; omega
    clear h hg h1
    go_enter Try.func43, Try.ntmps43
    go_wp2
    go_ret
    exact ⟨by first | rfl | simp, rfl⟩
  · by_cases h2 : x < 64
    · obtain ⟨i, rfl⟩ : ∃ i : Nat, x = (i : Int) := ⟨x.toNat, by omega⟩
      have hi : i < 64 := by omega
      have hc := h.cell (k := 4) hi (by omega)
      rw [flAt_none hg] at hc
      have h3 : decide ((i : Int) ≥ 0) = true := by simp
      have h4 : decide ((i : Int) < 64) = true := by simp; omega
      simp only [Fl.at, Fl.zero] at hc
      clear h hg h1 h2
      go_enter Try.func43, Try.ntmps43
      go_wp2
      go_ret
      exact ⟨by first | rfl | simp, rfl⟩
    · have h3 : decide (x ≥ 0) = true := by simp; omega
      have h4 : decide (x < 64) = false := by simp; omega
      clear h hg h1 h2
      go_enter Try.func43, Try.ntmps43
      go_wp2
      go_ret
      exact ⟨by first | rfl | simp, rfl⟩
theorem rmove_no (h : RF w r L) {x : Int} (hg : PL.get L x = none) (a : Int) : Calls Try.prog 46 #[.pointer (some ⟨r, 0, none⟩), .int .i64 x, .int .i64 a] w fun e w' => e = .returned (.int .i64 221) ∧ w = w' := by
  have H := Lib.hid (is_no h hg)
  clear h hg
  go_enter Try.func46, Try.ntmps46
  go_wp2_with fail
  refine H.out.mono ?_
  rintro e w' ⟨rfl, rfl⟩
  go_wp2_with fail
  go_ret
  exact ⟨by first | rfl | simp, rfl⟩
theorem flAt_set (L : PL Fl) (i : Nat) (f : Fl) (h : (PL.get L (i : Int)).isSome = true) (j : Nat) : flAt (PL.set L (i : Int) f) j = if j = i then f else flAt L j := by
  unfold flAt
  rw [PL.get_set]
  by_cases hj : j = i
  · subst hj
    rw [if_pos rfl, if_pos rfl]
    cases hg : PL.get L (j : Int) with
    | none => rw [hg] at h; cases h
    | some q => rfl
  · rw [if_neg (by omega), if_neg hj]
theorem Rof_setL (L : PL Fl) {i : Nat} (hi : i < 64) (f : Fl) (h : (PL.get L (i : Int)).isSome = true) : Rof (PL.set L (i : Int) f) = (Rof L).set i f :=
  Rof_set hi (by rw [flAt_set L i f h, if_pos rfl]) (fun j _ hj => by rw [flAt_set L i f h, if_neg hj])
theorem RF.setL (h : RF w r L) {i b k : Nat} {f f' : Fl} {v : Value} (hi : i < 64) (hg : PL.get L (i : Int) = some (b, f)) (hk : k < 5) (hv : f.cells.setIfInBounds k v = f'.cells) (hr : 1 ≤ f'.rf ∧ f'.rf ≤ 4611686018427387904) : RF (w.setCell ⟨r, i * 5 + k, none⟩ v) r (PL.set L (i : Int) f') := by
  refine h.put hi hk (by rw [flAt_some hg]; exact hv) (Rof_setL L hi f' (by rw [hg]; rfl)) (by rw [PL.ks_set]; exact h.ids) (fun x q hq => ?_)
  rw [PL.get_set] at hq
  split at hq
  · rw [hg] at hq; injection hq with hq; subst hq; exact hr
  · exact h.pos x q hq
theorem rmove_neg (h : RF w r L) {i b : Nat} {f : Fl} (hi : i < 64) (hg : PL.get L (i : Int) = some (b, f)) (a : Int) (ha : a < 0) : Calls Try.prog 46 #[.pointer (some ⟨r, 0, none⟩), .int .i64 (i : Int), .int .i64 a] w fun e w' => e = .returned (.int .i64 1) ∧ w = w' := by
  have H := Lib.hid (is_yes h hi hg)
  clear h hg
  go_enter Try.func46, Try.ntmps46
  go_wp2_with fail
  refine H.out.mono ?_
  rintro e w' ⟨rfl, rfl⟩
  go_wp2_with fail
  go_ret
  exact ⟨by first | rfl | simp, rfl⟩
theorem rmove_yes (h : RF w r L) {i b : Nat} {f : Fl} (hi : i < 64) (hg : PL.get L (i : Int) = some (b, f)) (a : Int) (ha : 0 ≤ a) : Calls Try.prog 46 #[.pointer (some ⟨r, 0, none⟩), .int .i64 (i : Int), .int .i64 a] w fun e w' => e = .returned (.int .i64 0) ∧ RF w' r (PL.set L (i : Int) { f with at_ := a }) ∧ Ch (· = r) w w' := by
  have H := Lib.hid (is_yes h hi hg)
  have hc := h.cell (k := 2) hi (by omega)
  have hf := h.frz
  have HP := Lib.hid (And.intro (h.setL (k := 2) (v := .int .i64 a) (f' := { f with at_ := a }) hi hg (by omega) rfl (h.pos _ _ hg)) ((Ch.refl (· = r) w).cell ⟨r, i * 5 + 2, none⟩ (.int .i64 a) (fun _ => rfl)))
  clear h hg
  go_enter Try.func46, Try.ntmps46
  go_wp2_with fail
  refine H.out.mono ?_
  rintro e w' ⟨rfl, rfl⟩
  go_wp2_with fail
  go_ret
  exact ⟨by first | rfl | simp, HP.out⟩
end
end Go.Proofs.Ythbbiobffoihaaa
