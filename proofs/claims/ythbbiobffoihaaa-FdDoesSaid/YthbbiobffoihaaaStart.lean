import Derived.Test.YthbbiobffoihaaaAwake
/- What start gives: open files and one table, of both. -/
namespace Go.Proofs.Ythbbiobffoihaaa
open Go.RowKit Go.BigFrame
set_option linter.unusedVariables false
set_option linter.unusedSimpArgs false
attribute [local go_sem] szIs_lit row_at row_past row_alloc nf_alloc row_set nf_set row_cell nf_cell row_drew nf_drew row_drewN nf_drewN cell_setRow frozen_setRow nlt1 nlt2 nlt3 nlt4 nne1 nne2 nne3 nen1 nen2 nen3
set_option maxRecDepth 20000
/-- The reference's open files: 64 of five numbers. -/
def rcells (R : List Fl) : Array Value := (R.flatMap fun f => f.cells.toList).toArray
def R0 : List Fl := List.replicate 64 Fl.zero
theorem build66 (w : World) : (Instr.build 66 #[]).run Try.prog w = .ok (.agg (rcells R0)) w := by kernel_rfl
theorem box66 (w : World) : (Instr.box 66 (.agg (rcells R0))).run Try.prog w = .ok (.pointer (some ⟨w.heap.size, 0, none⟩)) (w.alloc (.cells (rcells R0) 66)) := by
  rfl
theorem wpList_build0 {P : Program} {ops rest : _} {o : Oper} {a : Act} {w : World} {Q : Exit → Act → World → Prop} (hgd : o.guard = none) (t : TypeId) (ho : o.op = .build t #[]) {v : Value} (hr : (Instr.build t #[]).run P w = .ok v w)
    (h : wpList P ops Q rest (a.put o.dst v) w) : wpList P ops Q (o :: rest) a w := by
  refine wpList_run hgd (s := Instr.build t #[]) ?_ hr h
  obtain ⟨dst, op, type, pos, after, guard⟩ := o
  simp only at ho
  subst ho
  simp [execOp]
theorem wpList_box_run {P : Program} {ops rest : _} {o : Oper} {a : Act} {w w' : World} {Q : Exit → Act → World → Prop} (hgd : o.guard = none) (t : TypeId) (x : Operand) (ho : o.op = .box t x) (p : Value) (hx : a.eval x = p) {v : Value} (hr : (Instr.box t p).run P w = .ok v w')
    (h : wpList P ops Q rest (a.put o.dst v) w') : wpList P ops Q (o :: rest) a w := by
  refine wpList_run hgd (s := Instr.box t p) ?_ hr h
  obtain ⟨dst, op, type, pos, after, guard⟩ := o
  simp only at ho
  subst ho hx
  rfl
/-- What start leaves: files g (map m), a table t, the reference's files r and table x; slices a, y of one each; all in ob. -/
structure St (w0 w : World) (ob g m t a r x y : Nat) : Prop where
  blk : Blk w ob #[.pointer (some ⟨g, 0, none⟩), .slice (some ⟨a, 0, none⟩) 1 1, .pointer (some ⟨r, 0, none⟩), .slice (some ⟨y, 0, none⟩) 1 1]
  fr : FR w g m []
  tr : TR w t g (List.replicate 16 (-1))
  ra : Rw w 33 1 (some ⟨a, 0, none⟩) 1 1 [.pointer (some ⟨t, 0, none⟩)]
  ry : Rw w 67 1 (some ⟨y, 0, none⟩) 1 1 [.pointer (some ⟨x, 0, none⟩)]
  rf : Blk w r (rcells R0)
  rt : Blk w x (tcells r (List.replicate 16 0))
  bel : Below w0.heap.size w0 w
  ord : w0.heap.size ≤ m ∧ m < g ∧ g < t ∧ t < r ∧ r < a ∧ a < x ∧ x < y ∧ y < ob
set_option maxHeartbeats 4000000 in
theorem start_ok (w : World) : Calls Try.prog 6 #[] w fun e w' => ∃ ob g m t a r x y, e = .returned (.pointer (some ⟨ob, 0, none⟩)) ∧ St w w' ob g m t a r x y := by
  go_enter Try.func6, Try.ntmps6
  go_wp2_with fail
  refine (new_ok w).mono ?_
  rintro e w1 ⟨rfl, hF1, hB1⟩
  have HF1 := Lib.hid hF1
  have HB1 := Lib.hid hB1
  clear hF1 hB1
  generalize hg : w.heap.size + 1 = g at *
  have HG := Lib.hid hg
  clear hg
  go_wp2_with fail
  refine (awake_ok w1).mono ?_
  rintro e w2 ⟨rfl, hb2⟩
  have HF2 := Lib.hid (HF1.out.below hb2)
  have HB2 := Lib.hid (HB1.out.trans (hb2.mono HB1.out.size))
  clear hb2
  go_wp2_with fail
  refine (table_ok HF2.out).mono ?_
  rintro e w3 ⟨rfl, hT3, hb3⟩
  have HF3 := Lib.hid (HF2.out.below hb3)
  have HT3 := Lib.hid hT3
  have HB3 := Lib.hid (HB2.out.trans (hb3.mono HB2.out.size))
  clear hT3 hb3
  have hmf : w.heap.size < w2.heap.size := HF2.out.lt (.inr (.inl rfl))
  have hgf : g < w2.heap.size := HF2.out.lt (.inl rfl)
  have htf : w2.heap.size < w3.heap.size := HT3.out.lt
  generalize htd : w2.heap.size = t at *
  have HTD := Lib.hid (And.intro hgf htf)
  clear hmf hgf htf htd
  have hz1 := build66 w3
  have hz2 := box66 w3
  have hrf : Blk (w3.alloc (.cells (rcells R0) 66)) w3.heap.size (rcells R0) := Blk.of_heap (heap_at rfl)
  have hb4 : Below w3.heap.size w3 (w3.alloc (.cells (rcells R0) 66)) := (Below.refl _ _).alloc (Nat.le_refl _) _
  have h4 : (w3.alloc (.cells (rcells R0) 66)).heap.size = w3.heap.size + 1 := by simp
  generalize hZ : rcells R0 = Z at *
  generalize hw4 : w3.alloc (.cells Z 66) = w4 at *
  have HZ := Lib.hid hZ
  have HRF := Lib.hid hrf
  have HB4 := Lib.hid (HB3.out.trans (hb4.mono HB3.out.size))
  have HF4 := Lib.hid (HF3.out.below hb4)
  have HT4 := Lib.hid (HT3.out.below hb4)
  clear hrf hb4 hZ hw4
  go_wp2_with (first | (refine wpList_build0 rfl 66 rfl hz1 ?_) | (refine wpList_box_run rfl 66 (.tmp 15) rfl (.agg Z) rfl hz2 ?_) | fail)
  go_ret
  rw [← h4]
  generalize hr : w3.heap.size = r at *
  obtain ⟨w5, h5⟩ : ∃ w5, w5 = w4.alloc (.cells #[.pointer (some ⟨t, 0, none⟩)] 33) := ⟨_, rfl⟩
  obtain ⟨w6, h6⟩ : ∃ w6, w6 = w5.alloc (.cells #[.pointer (some ⟨r, 0, none⟩), .int .i64 0, .int .i64 0, .int .i64 0, .int .i64 0, .int .i64 0, .int .i64 0, .int .i64 0, .int .i64 0, .int .i64 0, .int .i64 0, .int .i64 0, .int .i64 0, .int .i64 0, .int .i64 0, .int .i64 0, .int .i64 0] 69) := ⟨_, rfl⟩
  obtain ⟨w7, h7⟩ : ∃ w7, w7 = w6.alloc (.cells #[.pointer (some ⟨w4.heap.size + 1, 0, none⟩)] 67) := ⟨_, rfl⟩
  obtain ⟨w8, h8⟩ : ∃ w8, w8 = w7.alloc (.cells #[.pointer (some ⟨g, 0, none⟩), .slice (some ⟨w4.heap.size, 0, none⟩) 1 1, .pointer (some ⟨r, 0, none⟩), .slice (some ⟨w4.heap.size + 1 + 1, 0, none⟩) 1 1] 32) := ⟨_, rfl⟩
  have z5 : w5.heap.size = w4.heap.size + 1 := by rw [h5]; simp
  have z6 : w6.heap.size = w4.heap.size + 1 + 1 := by rw [h6]; simp [z5]
  have z7 : w7.heap.size = w4.heap.size + 1 + 1 + 1 := by rw [h7]; simp [z6]
  have b5 : Below w4.heap.size w4 w5 := by rw [h5]; exact (Below.refl _ _).alloc (Nat.le_refl _) _
  have b6 : Below w5.heap.size w5 w6 := by rw [h6]; exact (Below.refl _ _).alloc (Nat.le_refl _) _
  have b7 : Below w6.heap.size w6 w7 := by rw [h7]; exact (Below.refl _ _).alloc (Nat.le_refl _) _
  have b8 : Below w7.heap.size w7 w8 := by rw [h8]; exact (Below.refl _ _).alloc (Nat.le_refl _) _
  have c6 : Below w6.heap.size w6 w8 := b7.trans (b8.mono (by omega))
  have c5 : Below w5.heap.size w5 w8 := b6.trans (c6.mono (by omega))
  have c4 : Below w4.heap.size w4 w8 := b5.trans (c5.mono (by omega))
  have r5 : Rw w5 33 1 (some ⟨w4.heap.size, 0, none⟩) 1 1 [.pointer (some ⟨t, 0, none⟩)] := by rw [h5]; exact Rw.fresh w4 33 #[.pointer (some ⟨t, 0, none⟩)] 1 1 (Nat.le_refl _) (by unfold maxLen; omega) rfl
  have r7 : Rw w7 67 1 (some ⟨w4.heap.size + 1 + 1, 0, none⟩) 1 1 [.pointer (some ⟨w4.heap.size + 1, 0, none⟩)] := by rw [h7, ← z6]; exact Rw.fresh w6 67 #[.pointer (some ⟨w4.heap.size + 1, 0, none⟩)] 1 1 (Nat.le_refl _) (by unfold maxLen; omega) rfl
  have k6 : Blk w6 (w4.heap.size + 1) (tcells r (List.replicate 16 0)) := by rw [← z5, h6]; exact Blk.of_heap (heap_at rfl)
  have k8 : Blk w8 (w4.heap.size + 1 + 1 + 1) #[.pointer (some ⟨g, 0, none⟩), .slice (some ⟨w4.heap.size, 0, none⟩) 1 1, .pointer (some ⟨r, 0, none⟩), .slice (some ⟨w4.heap.size + 1 + 1, 0, none⟩) 1 1] := by rw [← z7, h8]; exact Blk.of_heap (heap_at rfl)
  have hS : St w w8 (w4.heap.size + 1 + 1 + 1) g w.heap.size t w4.heap.size r (w4.heap.size + 1) (w4.heap.size + 1 + 1) := by
    have hs := HB4.out.size
    have htd := HTD.out
    have hgg := HG.out
    exact ⟨k8, HF4.out.below c4, HT4.out.below c4, r5.below c5, r7.below b8, by rw [HZ.out]; exact (HRF.out.same (c4.block r HRF.out.lt)), k6.same (c6.block _ k6.lt), HB4.out.trans (c4.mono hs), by omega, by omega, by omega, by omega, by omega, by omega, by omega, by omega⟩
  rw [h8, h7, h6, h5] at hS
  exact ⟨_, _, _, _, _, _, _, _, rfl, hS⟩
end Go.Proofs.Ythbbiobffoihaaa
