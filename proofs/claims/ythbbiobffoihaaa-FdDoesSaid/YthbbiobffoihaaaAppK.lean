import Derived.Test.YthbbiobffoihaaaBothP
import Derived.Test.YthbbiobffoihaaaCounts
/- Two rows grow by one each, in whatever order: a table put behind the program's, one behind the reference's. -/
namespace Go.Proofs.Ythbbiobffoihaaa
open Go.RowKit Go.BigFrame
set_option linter.unusedVariables false
set_option linter.unusedSimpArgs false
attribute [local go_sem] szIs_lit row_at row_past row_alloc nf_alloc row_set nf_set row_cell nf_cell row_drew nf_drew row_drewN nf_drewN cell_setRow frozen_setRow nlt1 nlt2 nlt3 nlt4 nne1 nne2 nne3 nen1 nen2 nen3
def NB (n0 : Nat) (A : Option Addr) (a : Nat) : Prop := blkOf A = some a ∨ ∃ k, blkOf A = some k ∧ n0 ≤ k
theorem xtabT : ElT Try.prog 30 67 1 8 (.pointer none) := ⟨by kernel_rfl, by kernel_rfl, rfl, by simp [Value.cells, Value.oneCell'], by decide⟩
def vb : Value → Option Nat
  | .slice A _ _ => blkOf A
  | .pointer A => blkOf A
  | _ => none
/-- v7, v19: the rows of one; v8, v20: what append gave; v18: the reference's new table; b23, b26: are they stored? -/
structure AKs (wA : World) (ob g r a n c y nx cy t : Nat) (tv xv : List Value) (DX : List Int) (L1 L2 : PL Fl) (v7 v8 v18 v19 v20 : Option Value) (b23 b26 : Bool) (u : World) : Prop where
  ch : Ch (fun k => k = a ∨ k = y ∨ k = ob ∨ k = r) wA u
  obk : Blk u ob #[.pointer (some ⟨g, 0, none⟩), if b23 = true then v8.getD undef else .slice (some ⟨a, 0, none⟩) n c, .pointer (some ⟨r, 0, none⟩), if b26 = true then v20.getD undef else .slice (some ⟨y, 0, none⟩) nx cy]
  r7 : ∀ v, v7 = some v → ∃ b, v = .slice (some ⟨b, 0, none⟩) 1 1 ∧ wA.heap.size ≤ b ∧ Rw u 33 1 (some ⟨b, 0, none⟩) 1 1 [.pointer (some ⟨t, 0, none⟩)]
  r8 : v8 = none → Rw u 33 1 (some ⟨a, 0, none⟩) n c tv
  r8' : ∀ v, v8 = some v → ∃ A c', v = .slice A (n + 1) c' ∧ Rw u 33 1 A (n + 1) c' (tv ++ [.pointer (some ⟨t, 0, none⟩)]) ∧ NB wA.heap.size A a
  r18 : ∀ v, v18 = some v → ∃ x, v = .pointer (some ⟨x, 0, none⟩) ∧ wA.heap.size ≤ x ∧ XR u x r DX
  rf : RF u r (if v18.isSome = true then L2 else L1)
  r19 : ∀ v, v19 = some v → ∃ b w18, v18 = some w18 ∧ v = .slice (some ⟨b, 0, none⟩) 1 1 ∧ wA.heap.size ≤ b ∧ Rw u 67 1 (some ⟨b, 0, none⟩) 1 1 [w18]
  r20 : v20 = none → Rw u 67 1 (some ⟨y, 0, none⟩) nx cy xv
  r20' : ∀ v, v20 = some v → ∃ A c' w18, v18 = some w18 ∧ v = .slice A (nx + 1) c' ∧ Rw u 67 1 A (nx + 1) c' (xv ++ [w18]) ∧ NB wA.heap.size A y
  d1 : ∀ v v', v8 = some v → v18 = some v' → vb v ≠ vb v'
  d2 : ∀ v v', v20 = some v → v18 = some v' → vb v ≠ vb v'
  d3 : ∀ v v', v8 = some v → v20 = some v' → vb v ≠ vb v'
/-- What is old, and apart. -/
structure AO (wA : World) (ob r a y : Nat) : Prop where
  o1 : ob < wA.heap.size
  o2 : r < wA.heap.size
  o3 : a < wA.heap.size
  o4 : y < wA.heap.size
  n1 : ob ≠ r ∧ ob ≠ a ∧ ob ≠ y ∧ r ≠ a ∧ r ≠ y ∧ a ≠ y
section
variable {wA u u' : World} {ob g r a n c y nx cy t : Nat} {tv xv : List Value} {DX : List Int} {L1 L2 : PL Fl} {v7 v8 v18 v19 v20 : Option Value} {b23 b26 : Bool}
theorem NB.ok {n0 a : Nat} {A : Option Addr} {F : Nat → Prop} (h : NB n0 A a) (hF : ∀ k, F k → k < n0) (ha : ¬ F a) : ∀ k, blkOf A = some k → ¬ F k := by
  intro k hk q
  rcases h with e | ⟨k', e, hk'⟩
  · rw [e] at hk; injection hk with hk; subst hk; exact ha q
  · rw [e] at hk; injection hk with hk; subst hk; have := hF _ q; omega
theorem Rw.newer {w w' : World} {e s n c n0 b : Nat} {vs : List Value} {F : Nat → Prop} (h : Rw w e s (some ⟨b, 0, none⟩) n c vs) (hc : Ch F w w') (hF : ∀ k, F k → k < n0) (hb : n0 ≤ b) : Rw w' e s (some ⟨b, 0, none⟩) n c vs :=
  h.ch hc fun k e q => by injection e with e; subst e; have := hF _ q; simp only at this; omega
/-- New blocks only. -/
theorem AKs.grow (O : AO wA ob r a y) (h : AKs wA ob g r a n c y nx cy t tv xv DX L1 L2 v7 v8 v18 v19 v20 b23 b26 u) (hb : Below u.heap.size u u') : AKs wA ob g r a n c y nx cy t tv xv DX L1 L2 v7 v8 v18 v19 v20 b23 b26 u' :=
  ⟨h.ch.then_below hb, h.obk.same (hb.block ob h.obk.lt), fun v hv => by obtain ⟨b, e, hn, hr⟩ := h.r7 v hv; exact ⟨b, e, hn, hr.below hb⟩, fun e => (h.r8 e).below hb, fun v hv => by obtain ⟨A, c', e, hr, hn⟩ := h.r8' v hv; exact ⟨A, c', e, hr.below hb, hn⟩,
    fun v hv => by obtain ⟨x, e, hn, hr⟩ := h.r18 v hv; exact ⟨x, e, hn, hr.below hb⟩, h.rf.below hb, fun v hv => by obtain ⟨b, w18, e0, e, hn, hr⟩ := h.r19 v hv; exact ⟨b, w18, e0, e, hn, hr.below hb⟩, fun e => (h.r20 e).below hb, fun v hv => by obtain ⟨A, c', w18, e0, e, hr, hn⟩ := h.r20' v hv; exact ⟨A, c', w18, e0, e, hr.below hb, hn⟩, h.d1, h.d2, h.d3⟩
theorem AKs.s7 (O : AO wA ob r a y) (h : AKs wA ob g r a n c y nx cy t tv xv DX L1 L2 none v8 v18 v19 v20 b23 b26 u) : AKs wA ob g r a n c y nx cy t tv xv DX L1 L2 (some (.slice (some ⟨u.heap.size, 0, none⟩) 1 1)) v8 v18 v19 v20 b23 b26 (u.alloc (.cells #[.pointer (some ⟨t, 0, none⟩)] 33)) := by
  have h2 := h.grow O ((Below.refl _ _).alloc (Nat.le_refl _) (.cells #[.pointer (some ⟨t, 0, none⟩)] 33))
  refine ⟨h2.ch, h2.obk, fun v hv => ?_, h2.r8, h2.r8', h2.r18, h2.rf, h2.r19, h2.r20, h2.r20', h2.d1, h2.d2, h2.d3⟩
  injection hv with hv; subst hv
  exact ⟨_, rfl, h.ch.size, Rw.fresh u 33 #[.pointer (some ⟨t, 0, none⟩)] 1 1 (Nat.le_refl _) (by unfold maxLen; omega) rfl⟩
theorem AKs.s19 (O : AO wA ob r a y) {w18 : Value} (h : AKs wA ob g r a n c y nx cy t tv xv DX L1 L2 v7 v8 (some w18) none v20 b23 b26 u) : AKs wA ob g r a n c y nx cy t tv xv DX L1 L2 v7 v8 (some w18) (some (.slice (some ⟨u.heap.size, 0, none⟩) 1 1)) v20 b23 b26 (u.alloc (.cells #[w18] 67)) := by
  have h2 := h.grow O ((Below.refl _ _).alloc (Nat.le_refl _) (.cells #[w18] 67))
  refine ⟨h2.ch, h2.obk, h2.r7, h2.r8, h2.r8', h2.r18, h2.rf, fun v hv => ?_, h2.r20, h2.r20', h2.d1, h2.d2, h2.d3⟩
  injection hv with hv; subst hv
  exact ⟨_, w18, rfl, rfl, h.ch.size, Rw.fresh u 67 #[w18] 1 1 (Nat.le_refl _) (by unfold maxLen; omega) rfl⟩
theorem AKs.s8 (O : AO wA ob r a y) {w7 : Value} (hn : n ≤ 12) (h : AKs wA ob g r a n c y nx cy t tv xv DX L1 L2 (some w7) none v18 v19 v20 false b26 u) (ty : TypeId) :
    ∃ A c' w', (Builtin.append_ #[28, 28] ty #[.slice (some ⟨a, 0, none⟩) n c, w7]).run Try.prog u = .ok (.slice A (n + 1) c') w' ∧ AKs wA ob g r a n c y nx cy t tv xv DX L1 L2 (some w7) (some (.slice A (n + 1) c')) v18 v19 v20 false b26 w' := by
  obtain ⟨b, rfl, hb, hr⟩ := h.r7 w7 rfl
  obtain ⟨o1, o2, o3, o4, n1, n2, n3, n4, n5, n6⟩ := O
  obtain ⟨A2, c2, w6, e1, e2, e3, e4⟩ := rw_append (P := Try.prog) tabT ty (h.r8 rfl) (some ⟨b, 0, none⟩) 1 1 [.pointer (some ⟨t, 0, none⟩)] rfl (hr.rd (by simp [Value.oneCell'])) (by intro e; cases e) (by unfold maxLen; omega) (by omega)
  have e3 : Ch (· = a) u w6 := e3.mono fun k _ q => by simp [blkOf] at q; exact q.symm
  have hold : ∀ k, k = a → k < wA.heap.size := fun k q => by omega
  have hszu := h.ch.size
  have hA2 : NB wA.heap.size A2 a := by
    rcases e4 with e | e
    · exact .inl e
    · exact .inr ⟨_, e, hszu⟩
  refine ⟨A2, c2, w6, by simpa using e1, ⟨h.ch.trans e3 (fun k _ q => .inl q), h.obk.ch e3 n2, fun v hv => ?_, fun e => by (cases e), fun v hv => ?_, fun v hv => ?_, h.rf.ch e3 n4, fun v hv => ?_, fun e => (h.r20 e).ch e3 (fun k e q => by injection e with e; subst e; exact n6 (show a = y from q.symm)), fun v hv => ?_, fun v v' h1 h2 => ?_, h.d2, fun v v' h1 h2 => ?_⟩⟩
  · obtain ⟨b', e, hn, hr⟩ := h.r7 v hv
    exact ⟨b', e, hn, hr.newer e3 hold hn⟩
  · injection hv with hv; subst hv
    exact ⟨A2, c2, rfl, e2, hA2⟩
  · obtain ⟨x, e, hn, hr⟩ := h.r18 v hv
    exact ⟨x, e, hn, hr.ch e3 (by omega)⟩
  · obtain ⟨b', w18, e0, e, hn, hr⟩ := h.r19 v hv
    exact ⟨b', w18, e0, e, hn, hr.newer e3 hold hn⟩
  · obtain ⟨A, c', w18, e0, e, hr, hn⟩ := h.r20' v hv
    exact ⟨A, c', w18, e0, e, hr.ch e3 (hn.ok hold (fun q => n6 q.symm)), hn⟩
  · injection h1 with h1; subst h1
    obtain ⟨x, rfl, hx, hxr⟩ := h.r18 v' h2
    have := hxr.lt
    simp only [vb]
    rcases e4 with e | e
    · rw [e]; simp [blkOf]; omega
    · rw [e]; simp [blkOf]; omega
  · injection h1 with h1; subst h1
    obtain ⟨A, c', w18, e0, rfl, hr, hn⟩ := h.r20' v' h2
    simp only [vb]
    rcases e4 with e | e
    · rw [e]
      rcases hn with e5 | ⟨k, e5, hk⟩
      · rw [e5]; simp [blkOf]; omega
      · rw [e5]; simp [blkOf]; omega
    · rw [e]
      rcases hn with e5 | ⟨k, e5, hk⟩
      · rw [e5]; simp; omega
      · rw [e5]; have := hr.lt k e5; simp; omega
theorem AKs.s20 (O : AO wA ob r a y) {w19 : Value} (hn : nx ≤ 12) (h : AKs wA ob g r a n c y nx cy t tv xv DX L1 L2 v7 v8 v18 (some w19) none b23 false u) (ty : TypeId) :
    ∃ A c' w', (Builtin.append_ #[30, 30] ty #[.slice (some ⟨y, 0, none⟩) nx cy, w19]).run Try.prog u = .ok (.slice A (nx + 1) c') w' ∧ AKs wA ob g r a n c y nx cy t tv xv DX L1 L2 v7 v8 v18 (some w19) (some (.slice A (nx + 1) c')) b23 false w' := by
  obtain ⟨b, w18, e18, rfl, hb, hr⟩ := h.r19 w19 rfl
  obtain ⟨x, ex, hx, hxr⟩ := h.r18 w18 e18
  subst ex
  obtain ⟨o1, o2, o3, o4, n1, n2, n3, n4, n5, n6⟩ := O
  obtain ⟨A2, c2, w6, e1, e2, e3, e4⟩ := rw_append (P := Try.prog) xtabT ty (h.r20 rfl) (some ⟨b, 0, none⟩) 1 1 [.pointer (some ⟨x, 0, none⟩)] rfl (hr.rd (by simp [Value.oneCell'])) (by intro e; cases e) (by unfold maxLen; omega) (by omega)
  have e3 : Ch (· = y) u w6 := e3.mono fun k _ q => by simp [blkOf] at q; exact q.symm
  have hold : ∀ k, k = y → k < wA.heap.size := fun k q => by omega
  have hszu := h.ch.size
  have hA2 : NB wA.heap.size A2 y := by
    rcases e4 with e | e
    · exact .inl e
    · exact .inr ⟨_, e, hszu⟩
  refine ⟨A2, c2, w6, by simpa using e1, ⟨h.ch.trans e3 (fun k _ q => .inr (.inl q)), h.obk.ch e3 n3, fun v hv => ?_, fun e => (h.r8 e).ch e3 (fun k e q => by injection e with e; subst e; exact n6 (show a = y from q)), fun v hv => ?_, fun v hv => ?_, h.rf.ch e3 n5, fun v hv => ?_, fun e => by (cases e), fun v hv => ?_, h.d1, fun v v' h1 h2 => ?_, fun v v' h1 h2 => ?_⟩⟩
  · obtain ⟨b', e, hn, hr⟩ := h.r7 v hv
    exact ⟨b', e, hn, hr.newer e3 hold hn⟩
  · obtain ⟨A, c', e, hr, hn⟩ := h.r8' v hv
    exact ⟨A, c', e, hr.ch e3 (hn.ok hold n6), hn⟩
  · obtain ⟨x, e, hn, hr⟩ := h.r18 v hv
    exact ⟨x, e, hn, hr.ch e3 (by omega)⟩
  · obtain ⟨b', w18, e0, e, hn, hr⟩ := h.r19 v hv
    exact ⟨b', w18, e0, e, hn, hr.newer e3 hold hn⟩
  · injection hv with hv; subst hv
    exact ⟨A2, c2, _, e18, rfl, e2, hA2⟩
  · injection h1 with h1; subst h1
    rw [e18] at h2; injection h2 with h2; subst h2
    have := hxr.lt
    simp only [vb]
    rcases e4 with e | e
    · rw [e]; simp [blkOf]; omega
    · rw [e]; simp [blkOf]; omega
  · injection h2 with h2; subst h2
    obtain ⟨A, c', rfl, hr, hn⟩ := h.r8' v h1
    simp only [vb]
    rcases e4 with e | e
    · rw [e]
      rcases hn with e5 | ⟨k, e5, hk⟩
      · rw [e5]; simp [blkOf]; omega
      · rw [e5]; simp [blkOf]; omega
    · rw [e]
      rcases hn with e5 | ⟨k, e5, hk⟩
      · rw [e5]; simp; omega
      · rw [e5]; have := hr.lt k e5; simp; omega
/-- The reference's table, new. -/
theorem AKs.s18 (O : AO wA ob r a y) (h : AKs wA ob g r a n c y nx cy t tv xv DX L1 L2 v7 v8 none none none b23 b26 u) {x : Nat} (hx : u.heap.size ≤ x) (hX : XR u' x r DX) (hR : RF u' r L2) (hC : Ch (· = r) u u') : AKs wA ob g r a n c y nx cy t tv xv DX L1 L2 v7 v8 (some (.pointer (some ⟨x, 0, none⟩))) none none b23 b26 u' := by
  obtain ⟨o1, o2, o3, o4, n1, n2, n3, n4, n5, n6⟩ := O
  have hold : ∀ k, k = r → k < wA.heap.size := fun k q => by omega
  have hszu := h.ch.size
  refine ⟨h.ch.trans hC (fun k _ q => .inr (.inr (.inr q))), h.obk.ch hC n1, fun v hv => ?_, fun e => (h.r8 e).ch hC (fun k e q => by injection e with e; subst e; exact n4 (show r = a from q.symm)), fun v hv => ?_, fun v hv => ?_, by simpa using hR, fun v hv => by (cases hv), fun e => (h.r20 e).ch hC (fun k e q => by injection e with e; subst e; exact n5 (show r = y from q.symm)), fun v hv => by (cases hv), fun v v' h1 h2 => ?_, fun v v' h1 h2 => by (cases h1), fun v v' h1 h2 => by (cases h2)⟩
  · obtain ⟨b', e, hn, hr⟩ := h.r7 v hv
    exact ⟨b', e, hn, hr.newer hC hold hn⟩
  · obtain ⟨A, c', e, hr, hn⟩ := h.r8' v hv
    exact ⟨A, c', e, hr.ch hC (hn.ok hold (fun q => n4 q.symm)), hn⟩
  · injection hv with hv; subst hv
    exact ⟨x, rfl, by omega, hX⟩
  · injection h2 with h2; subst h2
    obtain ⟨A, c', rfl, hr, hn⟩ := h.r8' v h1
    simp only [vb]
    rcases hn with e5 | ⟨k, e5, hk⟩
    · rw [e5]; simp [blkOf]; omega
    · rw [e5]; have := hr.lt k e5; simp [blkOf]; omega
/-- The stores. -/
theorem AKs.s23 (O : AO wA ob r a y) {w8 : Value} (h : AKs wA ob g r a n c y nx cy t tv xv DX L1 L2 v7 (some w8) v18 v19 v20 false b26 u) : AKs wA ob g r a n c y nx cy t tv xv DX L1 L2 v7 (some w8) v18 v19 v20 true b26 (u.setCell ⟨ob, 1, none⟩ w8) := by
  obtain ⟨o1, o2, o3, o4, n1, n2, n3, n4, n5, n6⟩ := O
  have hC : Ch (· = ob) u (u.setCell ⟨ob, 1, none⟩ w8) := (Ch.refl _ _).cell _ _ fun _ => rfl
  have hold : ∀ k, k = ob → k < wA.heap.size := fun k q => by omega
  refine ⟨h.ch.trans hC (fun k _ q => .inr (.inr (.inl q))), by have := h.obk.put 1 w8; simpa using this, fun v hv => ?_, fun e => by (cases e), fun v hv => ?_, fun v hv => ?_, h.rf.ch hC (fun q => n1 q.symm), fun v hv => ?_, fun e => (h.r20 e).ch hC (fun k e q => by injection e with e; subst e; exact n3 (show ob = y from q.symm)), fun v hv => ?_, h.d1, h.d2, h.d3⟩
  · obtain ⟨b', e, hn, hr⟩ := h.r7 v hv
    exact ⟨b', e, hn, hr.newer hC hold hn⟩
  · obtain ⟨A, c', e, hr, hn⟩ := h.r8' v hv
    exact ⟨A, c', e, hr.ch hC (hn.ok hold (fun q => n2 q.symm)), hn⟩
  · obtain ⟨x, e, hn, hr⟩ := h.r18 v hv
    exact ⟨x, e, hn, hr.ch hC (by omega)⟩
  · obtain ⟨b', w18, e0, e, hn, hr⟩ := h.r19 v hv
    exact ⟨b', w18, e0, e, hn, hr.newer hC hold hn⟩
  · obtain ⟨A, c', w18, e0, e, hr, hn⟩ := h.r20' v hv
    exact ⟨A, c', w18, e0, e, hr.ch hC (hn.ok hold (fun q => n3 q.symm)), hn⟩
theorem AKs.s26 (O : AO wA ob r a y) {w20 : Value} (h : AKs wA ob g r a n c y nx cy t tv xv DX L1 L2 v7 v8 v18 v19 (some w20) b23 false u) : AKs wA ob g r a n c y nx cy t tv xv DX L1 L2 v7 v8 v18 v19 (some w20) b23 true (u.setCell ⟨ob, 3, none⟩ w20) := by
  obtain ⟨o1, o2, o3, o4, n1, n2, n3, n4, n5, n6⟩ := O
  have hC : Ch (· = ob) u (u.setCell ⟨ob, 3, none⟩ w20) := (Ch.refl _ _).cell _ _ fun _ => rfl
  have hold : ∀ k, k = ob → k < wA.heap.size := fun k q => by omega
  refine ⟨h.ch.trans hC (fun k _ q => .inr (.inr (.inl q))), by have := h.obk.put 3 w20; simpa using this, fun v hv => ?_, fun e => (h.r8 e).ch hC (fun k e q => by injection e with e; subst e; exact n2 (show ob = a from q.symm)), fun v hv => ?_, fun v hv => ?_, h.rf.ch hC (fun q => n1 q.symm), fun v hv => ?_, fun e => by (cases e), fun v hv => ?_, h.d1, h.d2, h.d3⟩
  · obtain ⟨b', e, hn, hr⟩ := h.r7 v hv
    exact ⟨b', e, hn, hr.newer hC hold hn⟩
  · obtain ⟨A, c', e, hr, hn⟩ := h.r8' v hv
    exact ⟨A, c', e, hr.ch hC (hn.ok hold (fun q => n2 q.symm)), hn⟩
  · obtain ⟨x, e, hn, hr⟩ := h.r18 v hv
    exact ⟨x, e, hn, hr.ch hC (by omega)⟩
  · obtain ⟨b', w18, e0, e, hn, hr⟩ := h.r19 v hv
    exact ⟨b', w18, e0, e, hn, hr.newer hC hold hn⟩
  · obtain ⟨A, c', w18, e0, e, hr, hn⟩ := h.r20' v hv
    exact ⟨A, c', w18, e0, e, hr.ch hC (hn.ok hold (fun q => n3 q.symm)), hn⟩
theorem AKs.cells (h : AKs wA ob g r a n c y nx cy t tv xv DX L1 L2 v7 v8 v18 v19 v20 b23 b26 u) : u.cell? ⟨ob, 0, none⟩ = some (.pointer (some ⟨g, 0, none⟩)) ∧ (b23 = false → u.cell? ⟨ob, 1, none⟩ = some (.slice (some ⟨a, 0, none⟩) n c)) ∧ u.cell? ⟨ob, 2, none⟩ = some (.pointer (some ⟨r, 0, none⟩)) ∧ (b26 = false → u.cell? ⟨ob, 3, none⟩ = some (.slice (some ⟨y, 0, none⟩) nx cy)) ∧ (∀ i, i < 4 → (u.cell? ⟨ob, i, none⟩).isSome = true) ∧ ∀ i, u.frozen? ⟨ob, i, none⟩ = false := by
  obtain ⟨-, -, hc, hf⟩ := h.obk.all
  refine ⟨(hc 0).trans rfl, fun e => (hc 1).trans (by rw [e]; rfl), (hc 2).trans rfl, fun e => (hc 3).trans (by rw [e]; rfl), fun i hi => ?_, hf⟩
  rw [hc i]
  rcases (show i = 0 ∨ i = 1 ∨ i = 2 ∨ i = 3 by omega) with rfl | rfl | rfl | rfl <;> rfl
end
end Go.Proofs.Ythbbiobffoihaaa
