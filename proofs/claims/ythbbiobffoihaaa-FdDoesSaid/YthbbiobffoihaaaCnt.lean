import Derived.Test.YthbbiobffoihaaaWld
/- counted. -/
namespace Go.Proofs.Ythbbiobffoihaaa
open Go.RowKit Go.BigFrame
set_option linter.unusedVariables false
set_option linter.unusedSimpArgs false
attribute [local go_sem] szIs_lit row_at row_past row_alloc nf_alloc row_set nf_set row_cell nf_cell row_drew nf_drew row_drewN nf_drewN cell_setRow frozen_setRow nlt1 nlt2 nlt3 nlt4 nne1 nne2 nne3 nen1 nen2 nen3
set_option maxRecDepth 20000
theorem ty74 : Try.prog.underlying 74 = some (.map 3 3) := by kernel_rfl
theorem zero3 (w : World) : (zeroValue 3).run Try.prog w = .ok (.int .i64 0) w := by kernel_rfl
/-- A map that counts: no key where there is nothing to count. -/
def KC (K : IM) (c : Int → Nat) : Prop := ∀ x, K.get x = if c x = 0 then none else some (.int .i64 (c x : Int))
theorem KC.nil : KC [] (fun _ => 0) := fun x => rfl
theorem KC.put {K : IM} {c : Int → Nat} (h : KC K c) (x : Int) : KC (K.put x (.int .i64 ((c x : Int) + 1))) (fun y => c y + if y = x then 1 else 0) := by
  intro y
  rw [IM.get_put]
  by_cases hy : y = x
  · subst hy; simp
  · simp only [if_neg hy, Nat.add_zero]; exact h y
theorem KC.congr {K : IM} {c d : Int → Nat} (h : KC K c) (e : ∀ x, c x = d x) : KC K d := by
  obtain rfl : c = d := funext e
  exact h
/-- How often x stands in what the first tables name. -/
def cn (ts : TS) (x : Int) : Nat := if x = -1 then 0 else cntT ts x
/-- .. and in the first of one's descriptors. -/
def cq (D : List Int) (q : Nat) (x : Int) : Nat := ((fdl D 16).take q).countP fun f => decide (D[f.toNat]? = some x)
theorem cq_all (D : List Int) (hD : D.length = 16) (x : Int) : cq D (fdl D 16).length x = if x = -1 then 0 else D.count x := by
  unfold cq
  rw [List.take_length]
  have key : ∀ j, j ≤ 16 → (fdl D j).countP (fun f => decide (D[f.toNat]? = some x)) = if x = -1 then 0 else (D.take j).count x := by
    intro j
    induction j with
    | zero => intro _; simp [fdl]
    | succ j ih =>
      intro hj
      have ih := ih (by omega)
      obtain ⟨y, hy⟩ : ∃ y, D[j]? = some y := ⟨_, List.getElem?_eq_getElem (by omega)⟩
      rw [fdl_succ, List.take_add_one, hy, List.count_append]
      simp only [Option.toList_some, List.count_singleton, beq_iff_eq, Option.some.injEq]
      by_cases h1 : y = -1
      · rw [if_pos h1, ih, h1]
        by_cases h2 : x = -1
        · simp [h2]
        · rw [if_neg h2, if_neg h2, if_neg (Ne.symm h2)]; rfl
      · rw [if_neg h1, List.countP_append, ih]
        simp only [List.countP_cons, List.countP_nil, Int.toNat_natCast, hy, Option.some.injEq, decide_eq_true_eq]
        by_cases h2 : x = -1
        · subst h2; simp [h1]
        · simp only [if_neg h2]
          by_cases h3 : y = x
          · simp [h3]
          · simp [h3]
  rw [key 16 (Nat.le_refl _), List.take_of_length_le (by omega)]
theorem cq_succ (D : List Int) {q : Nat} {f : Int} {x : Int} (hf : (fdl D 16)[q]? = some f) (hx : D[f.toNat]? = some x) (y : Int) : cq D (q + 1) y = cq D q y + if y = x then 1 else 0 := by
  unfold cq
  rw [List.take_add_one, hf, List.countP_append]
  simp only [Option.toList_some, List.countP_cons, List.countP_nil, hx, Option.some.injEq, decide_eq_true_eq, Nat.zero_add]
  congr 1
  by_cases h : y = x
  · subst h; simp
  · rw [if_neg h, if_neg (Ne.symm h)]
theorem cn_succ (ts : TS) {j t : Nat} {D : List Int} (hj : ts[j]? = some (t, D)) (x : Int) : cn (ts.take (j + 1)) x = cn (ts.take j) x + if x = -1 then 0 else D.count x := by
  unfold cn
  rw [List.take_add_one, hj]
  simp only [Option.toList_some]
  rw [cntT_app]
  by_cases h : x = -1
  · simp [h]
  · simp [h]
theorem KC.len {ts : TS} {L : PL Fl} {K : IM} (h : KC K (cn ts)) (hn : (K.map (·.1)).Nodup) (hk : (PL.ks L).Nodup) (hi : ∀ x ∈ PL.ks L, 0 ≤ x) (hc : CI ts L) : K.length = L.length := by
  have h1 : ∀ x, x ∈ K.map (·.1) ↔ x ∈ PL.ks L := by
    intro x
    have e1 := IM.get_none_iff K x
    have e2 := @PL.get_none _ L x
    rw [h x] at e1
    have hiff : cn ts x = 0 ↔ PL.get L x = none := by
      unfold cn
      by_cases hx : x = -1
      · rw [if_pos hx]
        refine ⟨fun _ => e2.2 fun q => ?_, fun _ => rfl⟩
        have := hi x q; omega
      · rw [if_neg hx]
        have := hc.eq x hx
        constructor
        · intro h0
          cases hg : PL.get L x with
          | none => rfl
          | some q =>
            have h2 := hc.pos x q hg
            unfold refs at this
            rw [hg] at this
            simp only at this
            omega
        · intro hg
          unfold refs at this
          rw [hg] at this
          simp only at this
          omega
    by_cases hc0 : cn ts x = 0
    · rw [if_pos hc0] at e1
      have a1 := e1.1 rfl
      have a2 := e2.1 (hiff.1 hc0)
      exact ⟨fun q => absurd q a1, fun q => absurd q a2⟩
    · rw [if_neg hc0] at e1
      have a1 : x ∈ K.map (·.1) := Classical.byContradiction fun q => by have := e1.2 q; cases this
      have a2 : x ∈ PL.ks L := Classical.byContradiction fun q => hc0 (hiff.2 (e2.2 q))
      exact ⟨fun _ => a2, fun _ => a1⟩
  have h2 := (List.perm_ext_iff_of_nodup hn hk).2 h1
  have := h2.length_eq
  simpa [PL.ks] using this
theorem KC.pos {K : IM} {c : Int → Nat} (h : KC K c) {x : Int} {v : Value} (hg : K.get x = some v) : v = .int .i64 (c x : Int) ∧ 0 < c x := by
  rw [h x] at hg
  split at hg
  · cases hg
  · injection hg with hg
    exact ⟨hg.symm, by omega⟩
theorem mem_fdl_get {D : List Int} (hD : D.length = 16) {q : Nat} {f : Int} (hf : (fdl D 16)[q]? = some f) : ∃ (i : Nat) (x : Int), f = (i : Int) ∧ D[i]? = some x ∧ x ≠ -1 := by
  obtain ⟨i, h1, h2, h3⟩ := mem_fdl.1 (List.mem_of_getElem? hf)
  obtain ⟨x, hx⟩ : ∃ x, D[i]? = some x := ⟨_, List.getElem?_eq_getElem (by omega)⟩
  exact ⟨i, x, h2, hx, fun e => h3 (by rw [hx, e])⟩
end Go.Proofs.Ythbbiobffoihaaa
