import Derived.Test.YtngjpokbjnjodaaRefT6
/- The reference table: what is kept while the leaves are laid anew. -/
namespace Go.Proofs.Ytngjpokbjnjodaa
open Go.RowKit Go.BigFrame
set_option linter.unusedVariables false
set_option linter.unusedSimpArgs false
attribute [local go_sem] szIs_lit row_at row_past row_alloc nf_alloc row_set nf_set row_cell nf_cell row_drew nf_drew row_drewN nf_drewN cell_setRow frozen_setRow nlt1 nlt2 nlt3 nlt4 nne1 nne2 nne3 nen1 nen2 nen3
attribute [local go_sem] by_get by_set
theorem bs95e (w : World) : (Instr.buildSlice 95 0 #[]).run Try.prog w = .ok (.slice (some ⟨w.heap.size, 0, none⟩) 0 0) (w.alloc (.cells #[] 100)) := by simp [go_sem]
theorem bs95 (a b : Int) (w : World) : (Instr.buildSlice 95 1 #[(0, .agg #[.int .i64 a, .int .i64 b])]).run Try.prog w = .ok (.slice (some ⟨w.heap.size, 0, none⟩) 1 1) (w.alloc (.cells #[.int .i64 a, .int .i64 b] 100)) := by simp [go_sem]
theorem Blk.heap {w w1 : World} {g : Nat} {c : Array Value} (h : Blk w g c) (e : w1.heap[g]? = w.heap[g]?) : Blk w1 g c := ⟨(row_heap e).trans h.1, (nf_heap e).trans h.2⟩
theorem size95 (w : World) : (sizeOf 95).run Try.prog w = .ok 1 w := by
  have h : (Try.prog.info? 95).map (·.size) = some 1 := by kernel_rfl
  cases hq : Try.prog.info? 95 with
  | none => simp [hq] at h
  | some i => simp [hq] at h; simp [sizeOf, typeInfo, hq, h]
structure KS (R : World) (x : Nat) (F root : Int) (E : Nat → Int) (sl0 : Value) (i n : Nat) (l : List (Nat × Nat)) (q s : Nat) (ρ : Nat → Value) (D : Nat → Bool) (u : World) : Prop where
  ch : Ch (· = x) R u
  row : Blk u x (rrow F root (if D 24 then ρ 21 else sl0) E)
  h1 : D 1 = true → D 8 = false → ∃ b, ρ 1 = .slice (some ⟨b, 0, none⟩) 0 0 ∧ R.heap.size ≤ b ∧ Rw u 100 2 (some ⟨b, 0, none⟩) 0 0 []
  h8 : D 8 = true → D 14 = false → ∃ A c, ρ 8 = .slice A i c ∧ (∀ k, blkOf A = some k → R.heap.size ≤ k) ∧ Rw u 100 2 A i c (lv (l.take i))
  h13 : D 13 = true → D 14 = false → ∃ y, ρ 13 = .slice (some ⟨y, 0, none⟩) 1 1 ∧ R.heap.size ≤ y ∧ u.cell? ⟨y, 0, none⟩ = some (.int .i64 (q : Int)) ∧ u.cell? ⟨y, 1, none⟩ = some (.int .i64 (s : Int))
  dis : D 1 = true → D 8 = false → D 13 = true → D 14 = false → ∀ b y, ρ 1 = .slice (some ⟨b, 0, none⟩) 0 0 → ρ 13 = .slice (some ⟨y, 0, none⟩) 1 1 → b ≠ y
  h14 : D 14 = true → D 21 = false → ∃ A c, ρ 14 = .slice A (i + 1) c ∧ (∀ k, blkOf A = some k → R.heap.size ≤ k) ∧ Rw u 100 2 A (i + 1) c (lv (l.take i ++ [(q, s)]))
  h21 : D 21 = true → ∃ A c, ρ 21 = .slice A (n + 1) c ∧ (∀ k, blkOf A = some k → R.heap.size ≤ k) ∧ Rw u 100 2 A (n + 1) c (lv (l.take i ++ [(q, s)] ++ l.drop i))
section
variable {R u : World} {x : Nat} {F root : Int} {E : Nat → Int} {sl0 : Value} {i n : Nat} {l : List (Nat × Nat)} {q s : Nat} {ρ : Nat → Value} {D : Nat → Bool}
theorem KS.start (h : Blk R x (rrow F root sl0 E)) : KS R x F root E sl0 i n l q s (fun _ => undef) (fun _ => false) R :=
  ⟨Ch.refl _ _, by simpa using h, by simp, by simp, by simp, by simp, by simp, by simp⟩
theorem KS.same (h : KS R x F root E sl0 i n l q s ρ D u) (k : Nat) (k5 : k = 5 ∨ k = 18) : KS R x F root E sl0 i n l q s ρ (upd D k) u := by
  have e : ∀ j, j ≠ 5 → j ≠ 18 → upd D k j = D j := fun j j1 j2 => by unfold upd; rcases k5 with rfl | rfl <;> simp [j1, j2]
  refine ⟨h.ch, ?_, ?_, ?_, ?_, ?_, ?_, ?_⟩
  · rw [e 24 (by decide) (by decide)]; exact h.row
  · rw [e 1 (by decide) (by decide), e 8 (by decide) (by decide)]; exact h.h1
  · rw [e 14 (by decide) (by decide), e 8 (by decide) (by decide)]; exact h.h8
  · rw [e 13 (by decide) (by decide), e 14 (by decide) (by decide)]; exact h.h13
  · rw [e 1 (by decide) (by decide), e 8 (by decide) (by decide), e 13 (by decide) (by decide), e 14 (by decide) (by decide)]; exact h.dis
  · rw [e 14 (by decide) (by decide), e 21 (by decide) (by decide)]; exact h.h14
  · rw [e 21 (by decide) (by decide)]; exact h.h21
theorem KS.al1 (h : KS R x F root E sl0 i n l q s ρ D u) (d8 : D 8 = false) (d14 : D 14 = false) (d21 : D 21 = false) (d24 : D 24 = false) :
    KS R x F root E sl0 i n l q s (setV ρ 1 (.slice (some ⟨u.heap.size, 0, none⟩) 0 0)) (upd D 1) (u.alloc (.cells #[] 100)) := by
  have hB : Below u.heap.size u (u.alloc (.cells #[] 100)) := (Below.refl _ _).alloc (Nat.le_refl _) _
  refine ⟨h.ch.alloc _, ?_, fun _ _ => ⟨_, by simp [setV], h.ch.size, ?_⟩, by simp [upd, d8], fun k _ => ?_, fun _ _ k _ b y e1 e2 => ?_, by simp [upd, d14], by simp [upd, d21]⟩
  · have := h.row.below hB h.row.lt
    simpa [upd, setV, d24] using this
  · have := Rw.fresh (s := 2) u 100 #[] 0 0 (Nat.le_refl _) (by unfold maxLen; omega) rfl
    simpa using this
  · obtain ⟨y, y1, y2, y3, y4⟩ := h.h13 (by simpa [upd] using k) d14
    exact ⟨y, by simpa [setV] using y1, y2, (hB.cell (p := ⟨y, 0, none⟩) (cell_lt y3)).trans y3, (hB.cell (p := ⟨y, 1, none⟩) (cell_lt y4)).trans y4⟩
  · obtain ⟨y', y1, y2, y3, y4⟩ := h.h13 (by simpa [upd] using k) d14
    have hy := cell_lt y3
    have e3 : (setV ρ 1 (.slice (some ⟨u.heap.size, 0, none⟩) 0 0)) 13 = ρ 13 := by simp [setV]
    rw [e3, y1] at e2
    have e4 : (setV ρ 1 (.slice (some ⟨u.heap.size, 0, none⟩) 0 0)) 1 = .slice (some ⟨u.heap.size, 0, none⟩) 0 0 := by simp [setV]
    rw [e4] at e1
    simp at e1 e2 hy
    omega
theorem KS.al13 (h : KS R x F root E sl0 i n l q s ρ D u) (d14 : D 14 = false) (d21 : D 21 = false) (d24 : D 24 = false) :
    KS R x F root E sl0 i n l q s (setV ρ 13 (.slice (some ⟨u.heap.size, 0, none⟩) 1 1)) (upd D 13) (u.alloc (.cells #[.int .i64 (q : Int), .int .i64 (s : Int)] 100)) := by
  have hB : Below u.heap.size u (u.alloc (.cells #[.int .i64 (q : Int), .int .i64 (s : Int)] 100)) := (Below.refl _ _).alloc (Nat.le_refl _) _
  refine ⟨h.ch.alloc _, ?_, fun k m => ?_, fun k m => ?_, fun _ _ => ⟨_, by simp [setV], h.ch.size, by simp [go_sem], by simp [go_sem]⟩, fun k m _ _ b y e1 e2 => ?_, by simp [upd, d14], by simp [upd, d21]⟩
  · have := h.row.below hB h.row.lt
    simpa [upd, setV, d24] using this
  · obtain ⟨b, b1, b2, b3⟩ := h.h1 (by simpa [upd] using k) (by simpa [upd] using m)
    exact ⟨b, by simpa [setV] using b1, b2, b3.below hB⟩
  · obtain ⟨A, c, b1, b2, b3⟩ := h.h8 (by simpa [upd] using k) (by simpa [upd] using m)
    exact ⟨A, c, by simpa [setV] using b1, b2, b3.below hB⟩
  · obtain ⟨b', b1, b2, b3⟩ := h.h1 (by simpa [upd] using k) (by simpa [upd] using m)
    have hy := b3.blt
    have e3 : (setV ρ 13 (.slice (some ⟨u.heap.size, 0, none⟩) 1 1)) 1 = ρ 1 := by simp [setV]
    rw [e3, b1] at e1
    have e4 : (setV ρ 13 (.slice (some ⟨u.heap.size, 0, none⟩) 1 1)) 13 = .slice (some ⟨u.heap.size, 0, none⟩) 1 1 := by simp [setV]
    rw [e4] at e2
    simp at e1 e2 hy
    omega
theorem KS.rd (h : KS R x F root E sl0 i n l q s ρ D u) {A : Option Addr} {us : List Value} (hr : Rd R A us) (hA : ∀ ad, A = some ad → ad.block < R.heap.size ∧ ad.block ≠ x) : Rd u A us :=
  Rd.same hr fun ad e => h.ch.block _ (hA ad e).1 (hA ad e).2
theorem KS.ap8 (h : KS R x F root E sl0 i n l q s ρ D u) (hx : x < R.heap.size) (d1 : D 1 = true) (d8 : D 8 = false) (d14 : D 14 = false) (d21 : D 21 = false) (d24 : D 24 = false) {A0 : Option Addr} {c0 : Nat} (hr : Rd R A0 (lv (l.take i))) (hA : ∀ ad, A0 = some ad → ad.block < R.heap.size ∧ ad.block ≠ x) (hc : A0 = none → c0 = 0) (hl : (l.take i).length = i) (hi : i ≤ 1000) (b : Nat) (hb : ρ 1 = .slice (some ⟨b, 0, none⟩) 0 0) :
    ∃ A c u', (Builtin.append_ #[95, 95] 95 #[.slice (some ⟨b, 0, none⟩) 0 0, .slice A0 i c0]).run Try.prog u = .ok (.slice A i c) u' ∧ KS R x F root E sl0 i n l q s (setV ρ 8 (.slice A i c)) (upd D 8) u' := by
  obtain ⟨b', b1, b2, b3⟩ := h.h1 d1 d8
  obtain rfl : b' = b := by rw [b1] at hb; simpa using hb
  obtain ⟨A2, c2, u', r1, r2, r3, r4⟩ := rw_append elT 95 b3 A0 i c0 (lv (l.take i)) (by rw [lv_len, hl]) (h.rd hr hA) hc (by unfold maxLen; omega) (by omega)
  rw [Nat.zero_add] at r1 r2
  refine ⟨A2, c2, u', r1, ⟨h.ch.trans r3 (fun k hk e => by simp [blkOf] at e; omega), ?_, by simp [upd], fun _ _ => ⟨A2, c2, by simp [setV], fun k hk => ?_, by simpa using r2⟩, fun k _ => ?_, by simp [upd], by simp [upd, d14], by simp [upd, d21]⟩⟩
  · have := h.row.heap (r3.block x h.row.lt (fun e => by simp [blkOf] at e; omega))
    simpa [upd, setV, d24] using this
  · rcases r4 with r4 | r4
    · rw [r4] at hk; simp [blkOf] at hk; omega
    · rw [r4] at hk; injection hk with hk; have := h.ch.size; omega
  · have k' : D 13 = true := by simpa [upd] using k
    obtain ⟨y, y1, y2, y3, y4⟩ := h.h13 k' d14
    have hne : b' ≠ y := h.dis d1 d8 k' d14 b' y b1 y1
    have hbl := r3.block y (cell_lt y3) (fun e => hne (by simpa [blkOf] using e))
    exact ⟨y, by simpa [setV] using y1, y2, (World.cell?_of_block (a := ⟨y, 0, none⟩) hbl).trans y3, (World.cell?_of_block (a := ⟨y, 1, none⟩) hbl).trans y4⟩
theorem KS.ap14 (h : KS R x F root E sl0 i n l q s ρ D u) (hx : x < R.heap.size) (d8 : D 8 = true) (d13 : D 13 = true) (d14 : D 14 = false) (d21 : D 21 = false) (d24 : D 24 = false) (hi : i ≤ 1000) {A : Option Addr} {c y : Nat} (hA : ρ 8 = .slice A i c) (hy : ρ 13 = .slice (some ⟨y, 0, none⟩) 1 1) :
    ∃ A2 c2 u', (Builtin.append_ #[95, 95] 95 #[.slice A i c, .slice (some ⟨y, 0, none⟩) 1 1]).run Try.prog u = .ok (.slice A2 (i + 1) c2) u' ∧ KS R x F root E sl0 i n l q s (setV ρ 14 (.slice A2 (i + 1) c2)) (upd D 14) u' := by
  obtain ⟨A', c', a1, a2, a3⟩ := h.h8 d8 d14
  obtain ⟨rfl, rfl⟩ : A' = A ∧ c' = c := by rw [a1] at hA; simpa using hA
  obtain ⟨y', y1, y2, y3, y4⟩ := h.h13 d13 d14
  obtain rfl : y' = y := by rw [y1] at hy; simpa using hy
  have hrd : Rd u (some ⟨y', 0, none⟩) (lv [(q, s)]) := by
    refine Rd.of_cells (fun j v hv => ?_) (lv_one _)
    match j, hv with
    | 0, hv => injection hv with hv; subst hv; simpa using y3
    | 1, hv => injection hv with hv; subst hv; simpa using y4
    | j + 2, hv => cases hv
  obtain ⟨A2, c2, u', r1, r2, r3, r4⟩ := rw_append elT 95 a3 (some ⟨y', 0, none⟩) 1 1 (lv [(q, s)]) rfl hrd (by simp) (by unfold maxLen; omega) (by omega)
  rw [← lv_app] at r2
  refine ⟨A2, c2, u', r1, ⟨h.ch.trans r3 (fun k hk e => by have := a2 k e; omega), ?_, ?_, by simp [upd], by simp [upd], by simp [upd], fun _ _ => ⟨A2, c2, by simp [setV], fun k hk => ?_, r2⟩, by simp [upd, d21]⟩⟩
  · have := h.row.heap (r3.block x h.row.lt (fun e => by have := a2 x e; omega))
    simpa [upd, setV, d24] using this
  · intro _ e; simp [upd, d8] at e
  · rcases r4 with r4 | r4
    · rw [r4] at hk; exact a2 k hk
    · rw [r4] at hk; injection hk with hk; have := h.ch.size; omega
theorem KS.ap21 (h : KS R x F root E sl0 i n l q s ρ D u) (hx : x < R.heap.size) (d14 : D 14 = true) (d8 : D 8 = true) (d21 : D 21 = false) (d24 : D 24 = false) (hi : n ≤ 1000) (hin : i ≤ n) (hl : l.length = n) {A0 : Option Addr} {c0 : Nat} (hr : Rd R A0 (lv (l.drop i))) (hA0 : ∀ ad, A0 = some ad → ad.block < R.heap.size ∧ ad.block ≠ x) (hc : A0 = none → c0 = 0) {A : Option Addr} {c : Nat} (hA : ρ 14 = .slice A (i + 1) c) :
    ∃ A2 c2 u', (Builtin.append_ #[95, 95] 95 #[.slice A (i + 1) c, .slice A0 (n - i) c0]).run Try.prog u = .ok (.slice A2 (n + 1) c2) u' ∧ KS R x F root E sl0 i n l q s (setV ρ 21 (.slice A2 (n + 1) c2)) (upd D 21) u' := by
  obtain ⟨A', c', a1, a2, a3⟩ := h.h14 d14 d21
  obtain ⟨rfl, rfl⟩ : A' = A ∧ c' = c := by rw [a1] at hA; simpa using hA
  obtain ⟨A2, c2, u', r1, r2, r3, r4⟩ := rw_append elT 95 a3 A0 (n - i) c0 (lv (l.drop i)) (by rw [lv_len, List.length_drop, hl]) (h.rd hr hA0) hc (by unfold maxLen; omega) (by omega)
  rw [← lv_app] at r2
  rw [show i + 1 + (n - i) = n + 1 by omega] at r1 r2
  refine ⟨A2, c2, u', r1, ⟨h.ch.trans r3 (fun k hk e => by have := a2 k e; omega), ?_, ?_, ?_, ?_, ?_, by simp [upd], fun _ => ⟨A2, c2, by simp [setV], fun k hk => ?_, r2⟩⟩⟩
  · have := h.row.heap (r3.block x h.row.lt (fun e => by have := a2 x e; omega))
    simpa [upd, setV, d24] using this
  · intro _ e; simp [upd, d8] at e
  · intro _ e; simp [upd, d14] at e
  · intro _ e; simp [upd, d14] at e
  · intro _ e; simp [upd, d8] at e
  · rcases r4 with r4 | r4
    · rw [r4] at hk; exact a2 k hk
    · rw [r4] at hk; injection hk with hk; have := h.ch.size; omega
theorem KS.st24 (h : KS R x F root E sl0 i n l q s ρ D u) (hx : x < R.heap.size) (d21 : D 21 = true) (d14 : D 14 = true) (d8 : D 8 = true) :
    (Instr.storeAt 95 (.pointer (some ⟨x, 2, none⟩)) (ρ 21)).run Try.prog u = .ok () (u.setCell ⟨x, 2, none⟩ (ρ 21)) ∧ KS R x F root E sl0 i n l q s ρ (upd D 24) (u.setCell ⟨x, 2, none⟩ (ρ 21)) := by
  obtain ⟨A, c, a1, a2, a3⟩ := h.h21 d21
  have hc2 : u.cell? ⟨x, 2, none⟩ = some (if D 24 then ρ 21 else sl0) := (h.row.all.2.2.1 2).trans (by unfold rrow; rw [List.getElem?_toArray]; rfl)
  refine ⟨store_cell 95 ⟨x, 2, none⟩ (ρ 21) _ u (size95 u) (by rw [a1]; rfl) hc2 (h.row.all.2.2.2 2), ⟨h.ch.cell _ _ (fun _ => rfl), ?_, ?_, ?_, ?_, ?_, ?_, fun _ => ⟨A, c, a1, a2, ?_⟩⟩⟩
  · have := h.row.put 2 (ρ 21)
    rw [rrow_setl] at this
    simpa [upd] using this
  · intro _ e; simp [upd, d8] at e
  · intro _ e; simp [upd, d14] at e
  · intro _ e; simp [upd, d14] at e
  · intro _ e; simp [upd, d8] at e
  · intro _ e; simp [upd, d21] at e
  · exact a3.heap fun k hk => heap_setCell_other u ⟨x, 2, none⟩ k _ (fun e => by have := a2 k hk; simp at e; omega)
end
end Go.Proofs.Ytngjpokbjnjodaa
