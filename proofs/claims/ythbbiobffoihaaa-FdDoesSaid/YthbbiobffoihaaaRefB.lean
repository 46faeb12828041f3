import Derived.Test.YthbbiobffoihaaaRefA
import Derived.Deep.MidRow
/- The reference: Get, Drop. -/
namespace Go.Proofs.Ythbbiobffoihaaa
open Go.RowKit Go.BigFrame
set_option linter.unusedVariables false
set_option linter.unusedSimpArgs false
attribute [local go_sem] szIs_lit row_at row_past row_alloc nf_alloc row_set nf_set row_cell nf_cell row_drew nf_drew row_drewN nf_drewN cell_setRow frozen_setRow nlt1 nlt2 nlt3 nlt4 nne1 nne2 nne3 nen1 nen2 nen3
set_option maxRecDepth 20000
section
variable {w w' : World} {r : Nat} {R : List Fl}
theorem rb_cell (h : Blk w r (rcells R)) {i k : Nat} {f : Fl} (hi : R[i]? = some f) (hk : k < 5) : w.cell? ⟨r, i * 5 + k, none⟩ = some (.int .i64 (f.at k)) := by
  rw [h.all.2.2.1 (i * 5 + k)]
  have := flat_get R i k f hi hk
  simpa [rcells] using this
theorem rb_put (h : Blk w r (rcells R)) {i k : Nat} {f f' : Fl} {v : Value} (hi : R[i]? = some f) (hk : k < 5) (hv : f.cells.setIfInBounds k v = f'.cells) : Blk (w.setCell ⟨r, i * 5 + k, none⟩ v) r (rcells (R.set i f')) := by
  have h1 := h.put (i * 5 + k) v
  have h2 := flat_set R i k f f' v hi hk hv
  have e : (rcells R).setIfInBounds (i * 5 + k) v = rcells (R.set i f') := by
    unfold rcells
    rw [← h2]; simp
  rwa [e] at h1
theorem rb_load (h : Blk w r (rcells R)) {i : Nat} {f : Fl} (hi : R[i]? = some f) : (Instr.loadAt 40 (.pointer (some ⟨r, i * 5, none⟩))).run Try.prog w = .ok (.agg #[.int .i64 f.kd, .int .i64 f.wh, .int .i64 f.at_, .int .i64 f.fg, .int .i64 f.rf]) w :=
  run_loadAt_mid w r (i * 5) 40 [.int .i64 f.kd, .int .i64 f.wh, .int .i64 f.at_, .int .i64 f.fg, .int .i64 f.rf] ((Try.prog.underlying 40).getD default) (fun q v hv => by
    rcases (show q = 0 ∨ q = 1 ∨ q = 2 ∨ q = 3 ∨ q = 4 ∨ 5 ≤ q by omega) with rfl | rfl | rfl | rfl | rfl | hq
    · simp at hv; subst hv; exact rb_cell h hi (k := 0) (by omega)
    · simp at hv; subst hv; exact rb_cell h hi (k := 1) (by omega)
    · simp at hv; subst hv; exact rb_cell h hi (k := 2) (by omega)
    · simp at hv; subst hv; exact rb_cell h hi (k := 3) (by omega)
    · simp at hv; subst hv; exact rb_cell h hi (k := 4) (by omega)
    · rw [List.getElem?_eq_none (by simpa using hq)] at hv; cases hv) (by kernel_rfl) (by kernel_rfl) (by kernel_rfl)
theorem rb_store (h : Blk w r (rcells R)) {i : Nat} {f : Fl} (hi : R[i]? = some f) (x0 x1 x2 x3 x4 : Int) :
    ∃ w', (Instr.storeAt 40 (.pointer (some ⟨r, i * 5, none⟩)) (.agg #[.int .i64 x0, .int .i64 x1, .int .i64 x2, .int .i64 x3, .int .i64 x4])).run Try.prog w = .ok () w' ∧ Blk w' r (rcells (R.set i ⟨x0, x1, x2, x3, x4⟩)) ∧ Ch (· = r) w w' ∧ w'.heap.size = w.heap.size := by
  have hl := (List.getElem?_eq_some_iff.1 hi).1
  have g : ∀ {R : List Fl} {f : Fl}, i < R.length → (R.set i f)[i]? = some f := fun hl => by rw [List.getElem?_set]; simp [hl]
  have b0 := rb_put h hi (k := 0) (v := .int .i64 x0) (f' := ⟨x0, f.wh, f.at_, f.fg, f.rf⟩) (by omega) rfl
  have b1 := rb_put b0 (g hl) (k := 1) (v := .int .i64 x1) (f' := ⟨x0, x1, f.at_, f.fg, f.rf⟩) (by omega) rfl
  rw [List.set_set] at b1
  have b2 := rb_put b1 (g hl) (k := 2) (v := .int .i64 x2) (f' := ⟨x0, x1, x2, f.fg, f.rf⟩) (by omega) rfl
  rw [List.set_set] at b2
  have b3 := rb_put b2 (g hl) (k := 3) (v := .int .i64 x3) (f' := ⟨x0, x1, x2, x3, f.rf⟩) (by omega) rfl
  rw [List.set_set] at b3
  have b4 := rb_put b3 (g hl) (k := 4) (v := .int .i64 x4) (f' := ⟨x0, x1, x2, x3, x4⟩) (by omega) rfl
  rw [List.set_set] at b4
  refine ⟨_, ?_, b4, (((((Ch.refl (· = r) w).cell ⟨r, i * 5 + 0, none⟩ (.int .i64 x0) fun _ => rfl).cell ⟨r, i * 5 + 1, none⟩ (.int .i64 x1) fun _ => rfl).cell ⟨r, i * 5 + 2, none⟩ (.int .i64 x2) fun _ => rfl).cell ⟨r, i * 5 + 3, none⟩ (.int .i64 x3) fun _ => rfl).cell ⟨r, i * 5 + 4, none⟩ (.int .i64 x4) fun _ => rfl, by simp⟩
  exact run_storeAt_mid w r (i * 5) 40 #[.int .i64 x0, .int .i64 x1, .int .i64 x2, .int .i64 x3, .int .i64 x4] (fun k hk => ⟨by rw [rb_cell h hi hk]; rfl, h.all.2.2.2 _⟩) (by kernel_rfl) (by simp [Value.oneCell'])
end
theorem wpList_store_run {P : Program} {ops rest : _} {o : Oper} {a : Act} {w w' : World} {Q : Exit → Act → World → Prop} (hgd : o.guard = none) (ty : TypeId) (x y : Operand) (ho : o.op = .store ty x y) (p v : Value) (hx : a.eval x = p) (hy : a.eval y = v) (hr : (Instr.storeAt ty p v).run P w = .ok () w')
    (h : wpList P ops Q rest (a.put o.dst undef) w') : wpList P ops Q (o :: rest) a w := by
  refine wpList_runU hgd (s := Instr.storeAt ty p v) ?_ hr h
  obtain ⟨dst, op, type, pos, after, guard⟩ := o
  simp only at ho
  subst ho hx hy
  rfl
theorem ix64 (r i : Nat) (hi : i < 64) (w : World) : (Instr.indexAt 64 (.pointer (some ⟨r, 0, none⟩)) (.int .i64 (i : Int))).run Try.prog w = .ok (.pointer (some ⟨r, i * 5, none⟩)) w := by
  simp [go_sem, hi]
  intro h
  omega
theorem rof_at {L : PL Fl} {i b : Nat} {f : Fl} (hi : i < 64) (hg : PL.get L (i : Int) = some (b, f)) : (Rof L)[i]? = some f := by rw [Rof_get L hi, flAt_some hg]
theorem Rof_del (L : PL Fl) {i : Nat} (hi : i < 64) : Rof (PL.del L (i : Int)) = (Rof L).set i Fl.zero := by
  refine Rof_set hi ?_ (fun j _ hj => ?_)
  · unfold flAt; rw [PL.get_del, if_pos rfl]
  · unfold flAt; rw [PL.get_del, if_neg (by omega)]
theorem RF.ofDel {w : World} {r : Nat} {L : PL Fl} (hi : ∀ x ∈ PL.ks L, 0 ≤ x ∧ x < 64) (hp : ∀ x q, PL.get L x = some q → 1 ≤ q.2.rf ∧ q.2.rf ≤ 4611686018427387904) {i : Nat} (h64 : i < 64) (hb : Blk w r (rcells ((Rof L).set i Fl.zero))) : RF w r (PL.del L (i : Int)) :=
  ⟨by rw [Rof_del L h64]; exact hb, fun y hy => hi y (by rw [PL.ks_del] at hy; exact (List.mem_filter.1 hy).1), fun x q hq => by
    rw [PL.get_del] at hq
    split at hq
    · cases hq
    · exact hp x q hq⟩
section
variable {w w' : World} {r : Nat} {L : PL Fl}
theorem rget_no (h : RF w r L) {x : Int} (hg : PL.get L x = none) : Calls Try.prog 35 #[.pointer (some ⟨r, 0, none⟩), .int .i64 x] w fun e w' => e = .returned (.tuple #[.agg #[.int .i64 0, .int .i64 0, .int .i64 0, .int .i64 0, .int .i64 0], .int .i64 221]) ∧ Below w.heap.size w w' := by
  have hb : Below w.heap.size w (w.alloc (.cells #[.int .i64 0, .int .i64 0, .int .i64 0, .int .i64 0, .int .i64 0] 40)) := (Below.refl _ _).alloc (Nat.le_refl _) _
  have hk : Blk (w.alloc (.cells #[.int .i64 0, .int .i64 0, .int .i64 0, .int .i64 0, .int .i64 0] 40)) w.heap.size #[.int .i64 0, .int .i64 0, .int .i64 0, .int .i64 0, .int .i64 0] := Blk.of_heap (heap_at rfl)
  have h1 := h.alloc (.cells #[.int .i64 0, .int .i64 0, .int .i64 0, .int .i64 0, .int .i64 0] 40)
  have H := Lib.hid (is_no h1 hg)
  have HB := Lib.hid hb
  have HK := Lib.hid hk
  clear h hb hk hg h1
  generalize hu : w.alloc (.cells #[.int .i64 0, .int .i64 0, .int .i64 0, .int .i64 0, .int .i64 0] 40) = u at *
  obtain ⟨kr, kn, kc, kf⟩ := HK.out.all
  go_enter Try.func35, Try.ntmps35
  go_wp2_with (rw [hu])
  refine H.out.mono ?_
  rintro e w' ⟨rfl, rfl⟩
  clear hu
  go_wp2_with fail
  refine bodyPost_ret (ret_ct rfl 5 _ _ w.heap.size rfl (by simp [go_sem, kn]) (by simp [go_sem, kr]) (by kernel_rfl) (by kernel_rfl)) rfl ⟨by simp [go_sem, kr, kn], ?_⟩
  repeat (first | exact HB.out | (refine Below.setCell ?_ ?h _; (case h => exact Nat.le_refl _)))
theorem rget_yes (h : RF w r L) {i b : Nat} {f : Fl} (hi : i < 64) (hg : PL.get L (i : Int) = some (b, f)) : Calls Try.prog 35 #[.pointer (some ⟨r, 0, none⟩), .int .i64 (i : Int)] w fun e w' => e = .returned (.tuple #[.agg f.cells, .int .i64 0]) ∧ Below w.heap.size w w' := by
  have hb : Below w.heap.size w (w.alloc (.cells #[.int .i64 0, .int .i64 0, .int .i64 0, .int .i64 0, .int .i64 0] 40)) := (Below.refl _ _).alloc (Nat.le_refl _) _
  have hk : Blk (w.alloc (.cells #[.int .i64 0, .int .i64 0, .int .i64 0, .int .i64 0, .int .i64 0] 40)) w.heap.size #[.int .i64 0, .int .i64 0, .int .i64 0, .int .i64 0, .int .i64 0] := Blk.of_heap (heap_at rfl)
  have h1 := h.alloc (.cells #[.int .i64 0, .int .i64 0, .int .i64 0, .int .i64 0, .int .i64 0] 40)
  have H := Lib.hid (is_yes h1 hi hg)
  have hld := rb_load h1.blk (rof_at hi hg)
  have HB := Lib.hid hb
  have HK := Lib.hid hk
  clear h hb hk hg h1
  generalize hu : w.alloc (.cells #[.int .i64 0, .int .i64 0, .int .i64 0, .int .i64 0, .int .i64 0] 40) = u at *
  obtain ⟨kr, kn, kc, kf⟩ := HK.out.all
  go_enter Try.func35, Try.ntmps35
  go_wp2_with (rw [hu])
  refine H.out.mono ?_
  rintro e w' ⟨rfl, rfl⟩
  clear hu
  go_wp2_with (first | (refine wpList_load_run rfl 40 (.tmp 15) rfl (.pointer (some ⟨r, i * 5, none⟩)) rfl hld ?_) | fail)
  refine bodyPost_ret (ret_ct rfl 5 _ _ w.heap.size rfl (by simp [go_sem, kn]) (by simp [go_sem, kr]) (by kernel_rfl) (by kernel_rfl)) rfl ⟨by simp [go_sem, kr, kn, Fl.cells], ?_⟩
  repeat (first | exact HB.out | (refine Below.setCell ?_ ?h _; (case h => exact Nat.le_refl _)))
theorem rdrop_no (h : RF w r L) {x : Int} (hg : PL.get L x = none) : Calls Try.prog 44 #[.pointer (some ⟨r, 0, none⟩), .int .i64 x] w fun e w' => e = .returned (.tuple #[.agg #[.int .i64 0, .int .i64 0, .int .i64 0, .int .i64 0, .int .i64 0], .bool false, .int .i64 221]) ∧ Below w.heap.size w w' := by
  have hb : Below w.heap.size w (w.alloc (.cells #[.int .i64 0, .int .i64 0, .int .i64 0, .int .i64 0, .int .i64 0] 40)) := (Below.refl _ _).alloc (Nat.le_refl _) _
  have hk : Blk (w.alloc (.cells #[.int .i64 0, .int .i64 0, .int .i64 0, .int .i64 0, .int .i64 0] 40)) w.heap.size #[.int .i64 0, .int .i64 0, .int .i64 0, .int .i64 0, .int .i64 0] := Blk.of_heap (heap_at rfl)
  have h1 := h.alloc (.cells #[.int .i64 0, .int .i64 0, .int .i64 0, .int .i64 0, .int .i64 0] 40)
  have H := Lib.hid (is_no h1 hg)
  have HB := Lib.hid hb
  have HK := Lib.hid hk
  clear h hb hk hg h1
  generalize hu : w.alloc (.cells #[.int .i64 0, .int .i64 0, .int .i64 0, .int .i64 0, .int .i64 0] 40) = u at *
  obtain ⟨kr, kn, kc, kf⟩ := HK.out.all
  go_enter Try.func44, Try.ntmps44
  go_wp2_with (rw [hu])
  refine H.out.mono ?_
  rintro e w' ⟨rfl, rfl⟩
  clear hu
  go_wp2_with fail
  refine bodyPost_ret (ret_ctt rfl 5 _ _ w.heap.size rfl (by simp [go_sem, kn]) (by simp [go_sem, kr]) (by kernel_rfl) (by kernel_rfl)) rfl ⟨by simp [go_sem, kr, kn], ?_⟩
  repeat (first | exact HB.out | (refine Below.setCell ?_ ?h _; (case h => exact Nat.le_refl _)))
set_option maxHeartbeats 2000000 in
theorem rdrop_last (h : RF w r L) {i b : Nat} (hi : i < 64) (kd wh at_ fg : Int) (hg : PL.get L (i : Int) = some (b, ⟨kd, wh, at_, fg, 1⟩)) : Calls Try.prog 44 #[.pointer (some ⟨r, 0, none⟩), .int .i64 (i : Int)] w fun e w' => e = .returned (.tuple #[.agg #[.int .i64 kd, .int .i64 wh, .int .i64 at_, .int .i64 fg, .int .i64 0], .bool true, .int .i64 0]) ∧ RF w' r (PL.del L (i : Int)) ∧ Ch (· = r) w w' := by
  have hb : Below w.heap.size w (w.alloc (.cells #[.int .i64 0, .int .i64 0, .int .i64 0, .int .i64 0, .int .i64 0] 40)) := (Below.refl _ _).alloc (Nat.le_refl _) _
  have hk : Blk (w.alloc (.cells #[.int .i64 0, .int .i64 0, .int .i64 0, .int .i64 0, .int .i64 0] 40)) w.heap.size #[.int .i64 0, .int .i64 0, .int .i64 0, .int .i64 0, .int .i64 0] := Blk.of_heap (heap_at rfl)
  have h1 := h.alloc (.cells #[.int .i64 0, .int .i64 0, .int .i64 0, .int .i64 0, .int .i64 0] 40)
  have H := Lib.hid (is_yes h1 hi hg)
  have hrl := h.blk.lt
  have hc1 : Ch (· = r) w (w.alloc (.cells #[.int .i64 0, .int .i64 0, .int .i64 0, .int .i64 0, .int .i64 0] 40)) := (Ch.refl _ _).alloc _
  generalize hu : w.alloc (.cells #[.int .i64 0, .int .i64 0, .int .i64 0, .int .i64 0, .int .i64 0] 40) = u at *
  have c4 := h1.cell (k := 4) hi (by omega)
  rw [flAt_some hg] at c4
  simp only [Fl.at] at c4
  have cf := h1.frz
  have hus : u.heap.size = w.heap.size + 1 := by rw [← hu]; simp
  -- a Ref fewer
  have hB2 : Blk (u.setCell ⟨r, i * 5 + 4, none⟩ (.int .i64 0)) r (rcells ((Rof L).set i ⟨kd, wh, at_, fg, 0⟩)) := rb_put h1.blk (rof_at hi hg) (by omega) rfl
  have hc2 := hc1.cell ⟨r, i * 5 + 4, none⟩ (.int .i64 0) (fun _ => rfl)
  have hk2 := hk.same (heap_setCell_other u ⟨r, i * 5 + 4, none⟩ w.heap.size (.int .i64 0) (by simp; omega))
  have hs2 : (u.setCell ⟨r, i * 5 + 4, none⟩ (.int .i64 0)).heap.size = w.heap.size + 1 := by simp [hus]
  have hu2' : u.drew.setCell ⟨r, i * 5 + 4, none⟩ (.int .i64 0) = (u.setCell ⟨r, i * 5 + 4, none⟩ (.int .i64 0)).drew := rfl
  generalize hu2 : u.setCell ⟨r, i * 5 + 4, none⟩ (.int .i64 0) = u2 at *
  have hll : ((Rof L).set i ⟨kd, wh, at_, fg, 0⟩)[i]? = some ⟨kd, wh, at_, fg, 0⟩ := by rw [List.getElem?_set]; simp [Rof_len, hi]
  have hld := rb_load (w := u2.drew) (show Blk u2.drew r _ from hB2) hll
  -- a copy of it
  have hk3 : Blk (u2.drew.alloc (.cells #[.int .i64 0, .int .i64 0, .int .i64 0, .int .i64 0, .int .i64 0] 40)) (w.heap.size + 1) #[.int .i64 0, .int .i64 0, .int .i64 0, .int .i64 0, .int .i64 0] := by
    have : Blk (u2.drew.alloc (.cells #[.int .i64 0, .int .i64 0, .int .i64 0, .int .i64 0, .int .i64 0] 40)) u2.drew.heap.size #[.int .i64 0, .int .i64 0, .int .i64 0, .int .i64 0, .int .i64 0] := Blk.of_heap (heap_at rfl)
    rwa [show u2.drew.heap.size = w.heap.size + 1 from hs2] at this
  obtain ⟨u4, s1, s2, s3, s4⟩ := store5 (u2.drew.alloc (.cells #[.int .i64 0, .int .i64 0, .int .i64 0, .int .i64 0, .int .i64 0] 40)) (w.heap.size + 1) 0 0 0 0 0 kd wh at_ fg 0 hk3
  have hb3 : Below u2.drew.heap.size u2.drew (u2.drew.alloc (.cells #[.int .i64 0, .int .i64 0, .int .i64 0, .int .i64 0, .int .i64 0] 40)) := (Below.refl _ _).alloc (Nat.le_refl _) _
  have hb4 : Below (w.heap.size + 1) u2.drew u4 := by
    have h9 : Below (w.heap.size + 1) u2.drew (u2.drew.alloc (.cells #[.int .i64 0, .int .i64 0, .int .i64 0, .int .i64 0, .int .i64 0] 40)) := by have := hb3; rwa [show u2.drew.heap.size = w.heap.size + 1 from hs2] at this
    have e9 : (u2.drew.alloc (.cells #[.int .i64 0, .int .i64 0, .int .i64 0, .int .i64 0, .int .i64 0] 40)).heap.size = w.heap.size + 1 + 1 := by simp [show u2.drew.heap.size = w.heap.size + 1 from hs2]
    exact h9.trans (s3.below (B := w.heap.size + 1) (fun k hk q => by omega) (by omega))
  have hk4 : Blk u4 w.heap.size #[.int .i64 0, .int .i64 0, .int .i64 0, .int .i64 0, .int .i64 0] := (show Blk u2.drew w.heap.size #[.int .i64 0, .int .i64 0, .int .i64 0, .int .i64 0, .int .i64 0] from hk2).same (hb4.block _ (by omega))
  have hB4 : Blk u4 r (rcells ((Rof L).set i ⟨kd, wh, at_, fg, 0⟩)) := (show Blk u2.drew r _ from hB2).same (hb4.block _ (by omega))
  have hc4 : Ch (· = r) w u4 := (hc2.drew).trans (Ch.of_below (F := fun _ => False) (show Below u2.drew.heap.size u2.drew u4 by rw [show u2.drew.heap.size = w.heap.size + 1 from hs2]; exact hb4)) (fun k _ q => q.elim)
  have cl4 : u4.cell? ⟨w.heap.size + 1, 4, none⟩ = some (.int .i64 0) := (s2.all.2.2.1 4).trans rfl
  obtain ⟨u5, t1, t2, t3, t4⟩ := rb_store hB4 hll 0 0 0 0 0
  rw [List.set_set] at t2
  have hRF : RF u5 r (PL.del L (i : Int)) := RF.ofDel h.ids h.pos hi t2
  have hc5 := hc4.trans t3 (fun k _ q => q)
  have hk5 := hk4.ch t3 (show ¬ w.heap.size = r by omega)
  have hl5 : Blk u5 (w.heap.size + 1) #[.int .i64 kd, .int .i64 wh, .int .i64 at_, .int .i64 fg, .int .i64 0] := s2.ch t3 (show ¬ w.heap.size + 1 = r by omega)
  have hkd : Blk u5.drew w.heap.size #[.int .i64 0, .int .i64 0, .int .i64 0, .int .i64 0, .int .i64 0] := hk5
  have hld5 : Blk u5.drew (w.heap.size + 1) #[.int .i64 kd, .int .i64 wh, .int .i64 at_, .int .i64 fg, .int .i64 0] := hl5
  obtain ⟨u6, p1, p2, p3, p4⟩ := store5 u5.drew w.heap.size 0 0 0 0 0 kd wh at_ fg 0 hkd
  have hl6 := hld5.ch p3 (show ¬ w.heap.size + 1 = w.heap.size by omega)
  have k4 : u5.drew.cell? ⟨w.heap.size + 1, 4, none⟩ = some (.int .i64 0) := (hld5.all.2.2.1 4).trans rfl
  have k5 : u6.cell? ⟨w.heap.size + 1, 4, none⟩ = some (.int .i64 0) := (hl6.all.2.2.1 4).trans rfl
  have HP := Lib.hid (And.intro p1 (And.intro p2 (And.intro hld5 hl6)))
  have HR := Lib.hid (And.intro ((hRF.drew).ch p3 (show ¬ r = w.heap.size by omega)) (hc5.drew.trans p3 (fun k hk q => by omega)))
  have hcc : ∀ u : World, u.cell? ⟨w.heap.size + 1, 4, none⟩ = some (.int .i64 0) → u.cell? ⟨w.heap.size + 1, 4, none⟩ = some (.int .i64 0) := fun u q => q
  obtain ⟨CC, hCC⟩ : ∃ C : World → Prop, C = fun u => u.cell? ⟨w.heap.size + 1, 4, none⟩ = some (.int .i64 0) := ⟨_, rfl⟩
  have k4' : CC u5.drew := by rw [hCC]; exact k4
  have k5' : CC u6 := by rw [hCC]; exact k5
  have hcc2 : ∀ u, CC u → u.cell? ⟨w.heap.size + 1, 4, none⟩ = some (.int .i64 0) := fun u q => by rw [hCC] at q; exact q
  generalize hu3 : u2.drew.alloc (.cells #[.int .i64 0, .int .i64 0, .int .i64 0, .int .i64 0, .int .i64 0] 40) = u3 at *
  have hia := ix64 r i hi
  clear h h1 hg hk hk2 hk3 hk4 hk5 hb hb3 hb4 hB2 hB4 hc1 hc2 hc4 hc5 hRF hl5 hkd hld5 hl6 p1 p2 p3 p4 s2 s3 s4 k4 k5 hcc hCC hll t2 t3 t4 hus hrl
  have hG : u2.drew.heap.size = w.heap.size + 1 := hs2
  clear hs2
  go_enter Try.func44, Try.ntmps44
  go_wp2_with (rw [hu])
  refine H.out.mono ?_
  rintro e w' ⟨rfl, rfl⟩
  clear hu
  go_upto_region 3 with fail
  go_still_tail 12, (by kernel_rfl)
  change wpList _ _ _ _ _ u.drew
  have c4d : u.drew.cell? ⟨r, i * 5 + 4, none⟩ = some (.int .i64 1) := c4
  have cfd : ∀ q, u.drew.frozen? ⟨r, q, none⟩ = false := cf
  clear c4 cf
  generalize hud : u.drew = ud at *
  generalize hud2 : u2.drew = ud2 at *
  go_wp2_with (first | (rw [hu2']) | (refine wpList_load_run rfl 40 (.tmp 29) rfl (.pointer (some ⟨r, i * 5, none⟩)) rfl hld ?_) | (rw [hu3]) | (refine wpList_store_run rfl 40 (.tmp 7) (.tmp 30) rfl (.pointer (some ⟨w.heap.size + 1, 0, none⟩)) (.agg #[.int .i64 kd, .int .i64 wh, .int .i64 at_, .int .i64 fg, .int .i64 0]) rfl rfl s1 ?_) | (refine wpList_store_run rfl 40 (.tmp 39) (.tmp 36) rfl (.pointer (some ⟨r, i * 5, none⟩)) (.agg #[.int .i64 0, .int .i64 0, .int .i64 0, .int .i64 0, .int .i64 0]) rfl rfl t1 ?_) | fail)
  clear hud hud2 hu2' hu3 hld s1 c4d cfd cl4 hia hG t1
  refine wp_theta [] [0, 4] (fun _ _ => True) (fun ρ D u => u = if D 4 then u6 else u5.drew) (CC) ?_ ?_ ?_ ?_ ?_ ?_ ?_ ?_ ?_ ?_
  · kernel_rfl
  · kernel_rfl
  · kernel_rfl
  · kernel_rfl
  · kernel_rfl
  · kernel_rfl
  · exact fun i hi => ⟨undef, trivial⟩
  · rfl
  · rintro ρ D u rfl; split; exact k5'; exact k4'
  · intro θ hθ
    simp only [SegsT, List.take_succ_cons, List.take_zero, List.drop_succ_cons, List.drop_zero, Nat.sub_zero, Nat.reduceSub, Nat.reduceAdd, List.drop_nil, List.take_nil]
    haveI i1 : Nonempty (Wd CC) := ⟨⟨_, k4'⟩⟩
    have l2 : ∀ s : Wd CC, s.val.cell? ⟨w.heap.size + 1, 4, none⟩ = some (.int .i64 0) := fun s => hcc2 _ s.prop
    clear k4' k5' hcc2
    repeat (go_big_quiet_step (fail))
    refine wpQuiet_nil ?_
    rw [if_neg (by decide)]
    refine ⟨.agg #[.int .i64 kd, .int .i64 wh, .int .i64 at_, .int .i64 fg, .int .i64 0], detOK_run [] [] (by kernel_rfl) (by kernel_rfl) (fun ρ D u hq hK => ?_), ?_⟩
    · refine ⟨u, run_box_any (s := Instr.loadAt 40 (.pointer (some ⟨w.heap.size + 1, 0, none⟩))) (by kernel_rfl) (load5 u (w.heap.size + 1) _ _ _ _ _ ?_), by simpa [upd] using hK⟩
      subst hK
      split
      · exact HP.out.2.2.2
      · exact HP.out.2.2.1
    go_frame
    repeat (go_big_quiet_step (fail))
    refine wpQuiet_nil ?_
    rw [if_neg (by decide)]
    refine ⟨undef, detOK_skip [] [] (by kernel_rfl) (by kernel_rfl) (fun ρ D u hq hK => ?_), ?_⟩
    · have h8 := hq.now
      rw [h8] at hK
      subst hK
      exact ⟨u6, run_skip_any (s := Instr.storeAt 40 (.pointer (some ⟨w.heap.size, 0, none⟩)) (.agg #[.int .i64 kd, .int .i64 wh, .int .i64 at_, .int .i64 fg, .int .i64 0])) (by kernel_rfl) HP.out.1, by simp [upd]⟩
    repeat (go_big_quiet_step (fail))
    refine wpQuiet_nil ?_
    intro u hK
    have hu : u = u6 := by simpa [rst] using hK
    subst hu
    clear hK hθ l2 i1
    obtain ⟨k1, k2, k3, k4⟩ := HP.out.2.1.all
    go_wp2_with fail
    refine bodyPost_ret (ret_ctt rfl 5 _ _ w.heap.size rfl (by simp [go_sem, k2]) (by simp [go_sem, k1]) (by kernel_rfl) (by kernel_rfl)) rfl ⟨by simp [go_sem, k1, k2], HR.out.1, HR.out.2⟩
set_option maxHeartbeats 2000000 in
theorem rdrop_more (h : RF w r L) {i b : Nat} (hi : i < 64) (kd wh at_ fg rf : Int) (hr : 2 ≤ rf) (hg : PL.get L (i : Int) = some (b, ⟨kd, wh, at_, fg, rf⟩)) : Calls Try.prog 44 #[.pointer (some ⟨r, 0, none⟩), .int .i64 (i : Int)] w fun e w' => e = .returned (.tuple #[.agg #[.int .i64 kd, .int .i64 wh, .int .i64 at_, .int .i64 fg, .int .i64 (rf - 1)], .bool false, .int .i64 0]) ∧ RF w' r (PL.set L (i : Int) ⟨kd, wh, at_, fg, rf - 1⟩) ∧ Ch (· = r) w w' := by
  have hb : Below w.heap.size w (w.alloc (.cells #[.int .i64 0, .int .i64 0, .int .i64 0, .int .i64 0, .int .i64 0] 40)) := (Below.refl _ _).alloc (Nat.le_refl _) _
  have hk : Blk (w.alloc (.cells #[.int .i64 0, .int .i64 0, .int .i64 0, .int .i64 0, .int .i64 0] 40)) w.heap.size #[.int .i64 0, .int .i64 0, .int .i64 0, .int .i64 0, .int .i64 0] := Blk.of_heap (heap_at rfl)
  have h1 := h.alloc (.cells #[.int .i64 0, .int .i64 0, .int .i64 0, .int .i64 0, .int .i64 0] 40)
  have H := Lib.hid (is_yes h1 hi hg)
  have hrl := h.blk.lt
  have hc1 : Ch (· = r) w (w.alloc (.cells #[.int .i64 0, .int .i64 0, .int .i64 0, .int .i64 0, .int .i64 0] 40)) := (Ch.refl _ _).alloc _
  generalize hu : w.alloc (.cells #[.int .i64 0, .int .i64 0, .int .i64 0, .int .i64 0, .int .i64 0] 40) = u at *
  have c4 := h1.cell (k := 4) hi (by omega)
  rw [flAt_some hg] at c4
  simp only [Fl.at] at c4
  have cf := h1.frz
  have hus : u.heap.size = w.heap.size + 1 := by rw [← hu]; simp
  -- a Ref fewer
  have hB2 : Blk (u.setCell ⟨r, i * 5 + 4, none⟩ (.int .i64 (rf - 1))) r (rcells ((Rof L).set i ⟨kd, wh, at_, fg, (rf - 1)⟩)) := rb_put h1.blk (rof_at hi hg) (by omega) rfl
  have hc2 := hc1.cell ⟨r, i * 5 + 4, none⟩ (.int .i64 (rf - 1)) (fun _ => rfl)
  have hk2 := hk.same (heap_setCell_other u ⟨r, i * 5 + 4, none⟩ w.heap.size (.int .i64 (rf - 1)) (by simp; omega))
  have hs2 : (u.setCell ⟨r, i * 5 + 4, none⟩ (.int .i64 (rf - 1))).heap.size = w.heap.size + 1 := by simp [hus]
  have hu2' : u.drew.setCell ⟨r, i * 5 + 4, none⟩ (.int .i64 (rf - 1)) = (u.setCell ⟨r, i * 5 + 4, none⟩ (.int .i64 (rf - 1))).drew := rfl
  generalize hu2 : u.setCell ⟨r, i * 5 + 4, none⟩ (.int .i64 (rf - 1)) = u2 at *
  have hll : ((Rof L).set i ⟨kd, wh, at_, fg, (rf - 1)⟩)[i]? = some ⟨kd, wh, at_, fg, (rf - 1)⟩ := by rw [List.getElem?_set]; simp [Rof_len, hi]
  have hld := rb_load (w := u2.drew) (show Blk u2.drew r _ from hB2) hll
  -- a copy of it
  have hk3 : Blk (u2.drew.alloc (.cells #[.int .i64 0, .int .i64 0, .int .i64 0, .int .i64 0, .int .i64 0] 40)) (w.heap.size + 1) #[.int .i64 0, .int .i64 0, .int .i64 0, .int .i64 0, .int .i64 0] := by
    have : Blk (u2.drew.alloc (.cells #[.int .i64 0, .int .i64 0, .int .i64 0, .int .i64 0, .int .i64 0] 40)) u2.drew.heap.size #[.int .i64 0, .int .i64 0, .int .i64 0, .int .i64 0, .int .i64 0] := Blk.of_heap (heap_at rfl)
    rwa [show u2.drew.heap.size = w.heap.size + 1 from hs2] at this
  obtain ⟨u4, s1, s2, s3, s4⟩ := store5 (u2.drew.alloc (.cells #[.int .i64 0, .int .i64 0, .int .i64 0, .int .i64 0, .int .i64 0] 40)) (w.heap.size + 1) 0 0 0 0 0 kd wh at_ fg (rf - 1) hk3
  have hb3 : Below u2.drew.heap.size u2.drew (u2.drew.alloc (.cells #[.int .i64 0, .int .i64 0, .int .i64 0, .int .i64 0, .int .i64 0] 40)) := (Below.refl _ _).alloc (Nat.le_refl _) _
  have hb4 : Below (w.heap.size + 1) u2.drew u4 := by
    have h9 : Below (w.heap.size + 1) u2.drew (u2.drew.alloc (.cells #[.int .i64 0, .int .i64 0, .int .i64 0, .int .i64 0, .int .i64 0] 40)) := by have := hb3; rwa [show u2.drew.heap.size = w.heap.size + 1 from hs2] at this
    have e9 : (u2.drew.alloc (.cells #[.int .i64 0, .int .i64 0, .int .i64 0, .int .i64 0, .int .i64 0] 40)).heap.size = w.heap.size + 1 + 1 := by simp [show u2.drew.heap.size = w.heap.size + 1 from hs2]
    exact h9.trans (s3.below (B := w.heap.size + 1) (fun k hk q => by omega) (by omega))
  have hk4 : Blk u4 w.heap.size #[.int .i64 0, .int .i64 0, .int .i64 0, .int .i64 0, .int .i64 0] := (show Blk u2.drew w.heap.size #[.int .i64 0, .int .i64 0, .int .i64 0, .int .i64 0, .int .i64 0] from hk2).same (hb4.block _ (by omega))
  have hB4 : Blk u4 r (rcells ((Rof L).set i ⟨kd, wh, at_, fg, (rf - 1)⟩)) := (show Blk u2.drew r _ from hB2).same (hb4.block _ (by omega))
  have hc4 : Ch (· = r) w u4 := (hc2.drew).trans (Ch.of_below (F := fun _ => False) (show Below u2.drew.heap.size u2.drew u4 by rw [show u2.drew.heap.size = w.heap.size + 1 from hs2]; exact hb4)) (fun k _ q => q.elim)
  have cl4 : u4.cell? ⟨w.heap.size + 1, 4, none⟩ = some (.int .i64 (rf - 1)) := (s2.all.2.2.1 4).trans rfl
  have hx1 : IntKind.i64.wrap (rf - 1) = rf - 1 := IntWalk.i64_in _ (by have := (h.pos _ _ hg).2; simp only at this; omega)
  have hx2 : ((rf - 1) == 0) = false := by simp; omega
  have hRF : RF u4 r (PL.set L (i : Int) ⟨kd, wh, at_, fg, rf - 1⟩) := by
    refine ⟨by rw [Rof_setL L hi _ (by rw [hg]; rfl)]; exact hB4, by rw [PL.ks_set]; exact h.ids, fun x q hq => ?_⟩
    rw [PL.get_set] at hq
    split at hq
    · rw [hg] at hq; injection hq with hq; subst hq
      have := (h.pos _ _ hg).2
      simp only at this ⊢; omega
    · exact h.pos x q hq
  have hc5 := hc4
  have hk5 := hk4
  have hl5 : Blk u4 (w.heap.size + 1) #[.int .i64 kd, .int .i64 wh, .int .i64 at_, .int .i64 fg, .int .i64 (rf - 1)] := s2
  have hkd : Blk u4.drew w.heap.size #[.int .i64 0, .int .i64 0, .int .i64 0, .int .i64 0, .int .i64 0] := hk5
  have hld5 : Blk u4.drew (w.heap.size + 1) #[.int .i64 kd, .int .i64 wh, .int .i64 at_, .int .i64 fg, .int .i64 (rf - 1)] := hl5
  obtain ⟨u6, p1, p2, p3, p4⟩ := store5 u4.drew w.heap.size 0 0 0 0 0 kd wh at_ fg (rf - 1) hkd
  have hl6 := hld5.ch p3 (show ¬ w.heap.size + 1 = w.heap.size by omega)
  have k4 : u4.drew.cell? ⟨w.heap.size + 1, 4, none⟩ = some (.int .i64 (rf - 1)) := (hld5.all.2.2.1 4).trans rfl
  have k5 : u6.cell? ⟨w.heap.size + 1, 4, none⟩ = some (.int .i64 (rf - 1)) := (hl6.all.2.2.1 4).trans rfl
  have HP := Lib.hid (And.intro p1 (And.intro p2 (And.intro hld5 hl6)))
  have HR := Lib.hid (And.intro ((hRF.drew).ch p3 (show ¬ r = w.heap.size by omega)) (hc5.drew.trans p3 (fun k hk q => by omega)))
  have hcc : ∀ u : World, u.cell? ⟨w.heap.size + 1, 4, none⟩ = some (.int .i64 (rf - 1)) → u.cell? ⟨w.heap.size + 1, 4, none⟩ = some (.int .i64 (rf - 1)) := fun u q => q
  obtain ⟨CC, hCC⟩ : ∃ C : World → Prop, C = fun u => u.cell? ⟨w.heap.size + 1, 4, none⟩ = some (.int .i64 (rf - 1)) := ⟨_, rfl⟩
  have k4' : CC u4.drew := by rw [hCC]; exact k4
  have k5' : CC u6 := by rw [hCC]; exact k5
  have hcc2 : ∀ u, CC u → u.cell? ⟨w.heap.size + 1, 4, none⟩ = some (.int .i64 (rf - 1)) := fun u q => by rw [hCC] at q; exact q
  generalize hu3 : u2.drew.alloc (.cells #[.int .i64 0, .int .i64 0, .int .i64 0, .int .i64 0, .int .i64 0] 40) = u3 at *
  have hia := ix64 r i hi
  clear h h1 hg hk hk2 hk3 hk4 hk5 hb hb3 hb4 hB2 hB4 hc1 hc2 hc4 hc5 hRF hl5 hkd hld5 hl6 p1 p2 p3 p4 s2 s3 s4 k4 k5 hcc hCC hll  hus hrl
  have hG : u2.drew.heap.size = w.heap.size + 1 := hs2
  clear hs2
  go_enter Try.func44, Try.ntmps44
  go_wp2_with (rw [hu])
  refine H.out.mono ?_
  rintro e w' ⟨rfl, rfl⟩
  clear hu
  go_upto_region 3 with fail
  go_still_tail 12, (by kernel_rfl)
  change wpList _ _ _ _ _ u.drew
  have c4d : u.drew.cell? ⟨r, i * 5 + 4, none⟩ = some (.int .i64 rf) := c4
  have cfd : ∀ q, u.drew.frozen? ⟨r, q, none⟩ = false := cf
  clear c4 cf
  generalize hud : u.drew = ud at *
  generalize hud2 : u2.drew = ud2 at *
  go_wp2_with (first | (rw [hu2']) | (refine wpList_load_run rfl 40 (.tmp 29) rfl (.pointer (some ⟨r, i * 5, none⟩)) rfl hld ?_) | (rw [hu3]) | (refine wpList_store_run rfl 40 (.tmp 7) (.tmp 30) rfl (.pointer (some ⟨w.heap.size + 1, 0, none⟩)) (.agg #[.int .i64 kd, .int .i64 wh, .int .i64 at_, .int .i64 fg, .int .i64 (rf - 1)]) rfl rfl s1 ?_) | fail)
  clear hud hud2 hu2' hu3 hld s1 c4d cfd cl4 hia hG
  refine wp_theta [] [0, 4] (fun _ _ => True) (fun ρ D u => u = if D 4 then u6 else u4.drew) (CC) ?_ ?_ ?_ ?_ ?_ ?_ ?_ ?_ ?_ ?_
  · kernel_rfl
  · kernel_rfl
  · kernel_rfl
  · kernel_rfl
  · kernel_rfl
  · kernel_rfl
  · exact fun i hi => ⟨undef, trivial⟩
  · rfl
  · rintro ρ D u rfl; split; exact k5'; exact k4'
  · intro θ hθ
    simp only [SegsT, List.take_succ_cons, List.take_zero, List.drop_succ_cons, List.drop_zero, Nat.sub_zero, Nat.reduceSub, Nat.reduceAdd, List.drop_nil, List.take_nil]
    haveI i1 : Nonempty (Wd CC) := ⟨⟨_, k4'⟩⟩
    have l2 : ∀ s : Wd CC, s.val.cell? ⟨w.heap.size + 1, 4, none⟩ = some (.int .i64 (rf - 1)) := fun s => hcc2 _ s.prop
    clear k4' k5' hcc2
    repeat (go_big_quiet_step (fail))
    refine wpQuiet_nil ?_
    rw [if_neg (by decide)]
    refine ⟨.agg #[.int .i64 kd, .int .i64 wh, .int .i64 at_, .int .i64 fg, .int .i64 (rf - 1)], detOK_run [] [] (by kernel_rfl) (by kernel_rfl) (fun ρ D u hq hK => ?_), ?_⟩
    · refine ⟨u, run_box_any (s := Instr.loadAt 40 (.pointer (some ⟨w.heap.size + 1, 0, none⟩))) (by kernel_rfl) (load5 u (w.heap.size + 1) _ _ _ _ _ ?_), by simpa [upd] using hK⟩
      subst hK
      split
      · exact HP.out.2.2.2
      · exact HP.out.2.2.1
    go_frame
    repeat (go_big_quiet_step (fail))
    refine wpQuiet_nil ?_
    rw [if_neg (by decide)]
    refine ⟨undef, detOK_skip [] [] (by kernel_rfl) (by kernel_rfl) (fun ρ D u hq hK => ?_), ?_⟩
    · have h8 := hq.now
      rw [h8] at hK
      subst hK
      exact ⟨u6, run_skip_any (s := Instr.storeAt 40 (.pointer (some ⟨w.heap.size, 0, none⟩)) (.agg #[.int .i64 kd, .int .i64 wh, .int .i64 at_, .int .i64 fg, .int .i64 (rf - 1)])) (by kernel_rfl) HP.out.1, by simp [upd]⟩
    repeat (go_big_quiet_step (fail))
    refine wpQuiet_nil ?_
    intro u hK
    have hu : u = u6 := by simpa [rst] using hK
    subst hu
    clear hK hθ l2 i1
    obtain ⟨k1, k2, k3, k4⟩ := HP.out.2.1.all
    go_wp2_with fail
    refine bodyPost_ret (ret_ctt rfl 5 _ _ w.heap.size rfl (by simp [go_sem, k2]) (by simp [go_sem, k1]) (by kernel_rfl) (by kernel_rfl)) rfl ⟨by simp [go_sem, k1, k2], HR.out.1, HR.out.2⟩
end
end Go.Proofs.Ythbbiobffoihaaa
