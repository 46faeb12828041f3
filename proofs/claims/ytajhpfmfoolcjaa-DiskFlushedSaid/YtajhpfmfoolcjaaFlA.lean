import Derived.Test.YtajhpfmfoolcjaaTornA
import Derived.Maps.RangeRun
/- A range over a map whose keys are whole numbers; what a flush and a crash leave of a sector; two maps beside a disk. -/
namespace Go.Proofs.Ytajhpfmfoolcjaa
open Go.RowKit Go.BigFrame
set_option linter.unusedVariables false
set_option linter.unusedSimpArgs false
attribute [local go_sem] szIs_lit row_at row_past row_alloc nf_alloc row_set nf_set row_cell nf_cell row_drew nf_drew row_drewN nf_drewN cell_setRow frozen_setRow nlt1 nlt2 nlt3 nlt4 nne1 nne2 nne3 nen1 nen2 nen3
theorem IM.mem_get {M : IM} (hn : (M.map (·.1)).Nodup) {x : Int} {v : Value} (h : (x, v) ∈ M) : M.get x = some v := by
  induction M with
  | nil => cases h
  | cons p M ih =>
    have hn2 := List.nodup_cons.1 hn
    unfold IM.get at ih ⊢
    rcases List.mem_cons.1 h with rfl | h
    · simp
    · have hne : (p.1 == x) = false := by
        have : ¬ p.1 = x := fun e => hn2.1 (by show p.1 ∈ _; rw [e]; exact List.mem_map.2 ⟨(x, v), h, rfl⟩)
        simpa using this
      simp only [List.find?_cons, hne]
      exact ih hn2.2 h
/-- An iterator (block r) over the map M (block b): so many are still to come. -/
def IIt (w : World) (r b : Nat) (M : IM) (cnt : Nat) : Prop :=
  ∃ es clock seen c0, w.heap[b]? = some (.map es clock) ∧ MapKept.Stamped es clock ∧ es.toList.map (fun e => (e.key, e.val)) = M.map (fun p => (Value.int .i64 p.1, p.2)) ∧ w.heap[r]? = some (.mapIter (some b) clock seen c0) ∧ clock ≤ c0 ∧ (leftOf es seen).size = cnt
section
variable {w w' : World} {r b cnt : Nat} {M : IM}
theorem IIt.map (h : IIt w r b M cnt) : IMap w b M := by
  obtain ⟨es, clock, seen, c0, h1, h2, h3, _⟩ := h
  exact ⟨es, clock, h1, h2, h3⟩
theorem IIt.heap (h : IIt w r b M cnt) (h1 : w'.heap[b]? = w.heap[b]?) (h2 : w'.heap[r]? = w.heap[r]?) : IIt w' r b M cnt := by
  obtain ⟨es, clock, seen, c0, g1, g2, g3, g4, g5⟩ := h
  exact ⟨es, clock, seen, c0, h1.trans g1, g2, g3, h2.trans g4, g5⟩
theorem IIt.rlt (h : IIt w r b M cnt) : r < w.heap.size := by
  obtain ⟨es, clock, seen, c0, g1, g2, g3, g4, g5⟩ := h
  exact (Array.getElem?_eq_some_iff.1 g4).1
theorem IIt.start {t k e : TypeId} (h : IMap w b M) (ht : Try.prog.underlying t = some (.map k e)) : ∃ o c, (Instr.range t (.map (some b))).run Try.prog w = .ok (.pointer (some ⟨w.heap.size, 0, none⟩)) (w.alloc o) ∧ IIt (w.alloc o) w.heap.size b M c := by
  have hl := h.lt
  obtain ⟨es, clock, h1, h2, h3⟩ := h
  exact ⟨_, _, run_range_map (P := Try.prog) w t k e b es clock ht h1, es, clock, #[], clock, (Below.heap_alloc w _ b hl).trans h1, h2, h3, heap_alloc_new w _, Nat.le_refl _, rfl⟩
theorem IIt.next (h : IIt w r b M cnt) (ty : TypeId) : ((Instr.next (.pointer (some ⟨r, 0, none⟩)) false ty).run Try.prog w = .ok (.tuple #[.bool false]) w) ∨ ∃ (x : Int) (v : Value) (w' : World) (cnt' : Nat), M.get x = some v ∧ cnt' < cnt ∧ (Instr.next (.pointer (some ⟨r, 0, none⟩)) false ty).run Try.prog w = .ok (.tuple #[.bool true, .int .i64 x, v]) w' ∧ IIt w' r b M cnt' ∧ Ch (· = r) w w' ∧ w'.heap.size = w.heap.size ∧ (Instr.entry (.pointer (some ⟨r, 0, none⟩))).run Try.prog w' = .ok (.tuple #[.int .i64 x, v]) w' := by
  have hnd := h.map.nodup
  have hrl := h.rlt
  obtain ⟨es, clock, seen, c0, g1, g2, g3, g4, g5, g6⟩ := h
  have hne : r ≠ b := fun e => by rw [e, g1] at g4; cases g4
  rcases run_next_at (P := Try.prog) w ty r b clock c0 seen es clock g4 g1 g2.1 g5 with ⟨_, h2⟩ | ⟨e, he, w1, hw1, h2⟩
  · exact .inl h2
  · right
    have hm := mem_left he
    have hpair : (e.key, e.val) ∈ M.map (fun p => (Value.int .i64 p.1, p.2)) := by rw [← g3]; exact List.mem_map.2 ⟨e, hm.1, rfl⟩
    obtain ⟨p, hp, hpe⟩ := List.mem_map.1 hpair
    have hk : e.key = .int .i64 p.1 := by injection hpe with h1 _; exact h1.symm
    have hv : e.val = p.2 := by injection hpe with _ h1; exact h1.symm
    have hw1h : w1.heap = w.heap := by rcases hw1 with rfl | rfl <;> rfl
    have hblk : ∀ k, k ≠ r → (ChangeMaps.setBlock w1 r (.mapIter (some b) clock (seen.push e.born) clock)).heap[k]? = w.heap[k]? := fun k hk => by
      simp only [ChangeMaps.setBlock]
      rw [Array.getElem?_setIfInBounds, if_neg (fun e => hk e.symm), hw1h]
    have hrn : (ChangeMaps.setBlock w1 r (.mapIter (some b) clock (seen.push e.born) clock)).heap[r]? = some (.mapIter (some b) clock (seen.push e.born) clock) := by
      simp only [ChangeMaps.setBlock]
      rw [Array.getElem?_setIfInBounds, if_pos rfl, if_pos (by rw [hw1h]; exact hrl)]
    have hsz : (ChangeMaps.setBlock w1 r (.mapIter (some b) clock (seen.push e.born) clock)).heap.size = w.heap.size := by
      simp [ChangeMaps.setBlock, hw1h]
    refine ⟨p.1, p.2, _, (leftOf es (seen.push e.born)).size, IM.mem_get hnd hp, by rw [← g6]; exact left_shrinks es seen e he, by rw [h2, hk, hv], ⟨es, clock, seen.push e.born, clock, (hblk b hne.symm).trans g1, g2, g3, hrn, Nat.le_refl _, rfl⟩, ⟨?_, ?_, ?_, by rw [hsz]; exact Nat.le_refl _, fun k _ hk => hblk k hk⟩, hsz, ?_⟩
    · rcases hw1 with rfl | rfl <;> rfl
    · rcases hw1 with rfl | rfl <;> rfl
    · rcases hw1 with rfl | rfl <;> rfl
    · rw [run_entry_at (P := Try.prog) _ r b clock seen es clock e hrn ((hblk b hne.symm).trans g1) hm.1 g2.2.1, hk, hv]
end
/-! What a sector says, behind a flush, behind a crash -/
theorem lastOf_none {l : List PW} {n : Nat} (h : lastOf l n = none) : ∀ p ∈ l, ¬ p.n = n := fun p hp e => by
  unfold lastOf at h
  rw [List.find?_eq_none] at h
  have := h p (by simpa using hp)
  simp [e] at this
theorem flush_sct {S : DS} (h : GD S) (n : Nat) : ∀ k, k ≤ S.pend.length → sct ((S.pend.take k).foldl lay1 S.plat) n = (match lastOf (S.pend.take k) n with | some p => p.bs | none => sct S.plat n) ∧ ((S.pend.take k).foldl lay1 S.plat).length = S.cnt * 512
  | 0, _ => by
    refine ⟨?_, by simpa using h.size⟩
    simp [lastOf]
  | k + 1, hk => by
    obtain ⟨ih1, ih2⟩ := flush_sct h n k (by omega)
    obtain ⟨p, hp⟩ : ∃ p, S.pend[k]? = some p := ⟨_, List.getElem?_eq_getElem (by omega)⟩
    have hpm := List.mem_of_getElem? hp
    obtain ⟨h1, h2⟩ := h.ins p hpm
    have e : S.pend.take (k + 1) = S.pend.take k ++ [p] := by rw [List.take_add_one, hp]; rfl
    rw [e, List.foldl_append, lastOf_snoc]
    simp only [List.foldl_cons, List.foldl_nil]
    generalize (S.pend.take k).foldl lay1 S.plat = Q at *
    have hl2 : (lay1 Q p).length = S.cnt * 512 := by unfold lay1; rw [lay_len _ _ _ (by rw [ih2]; omega)]; exact ih2
    refine ⟨?_, hl2⟩
    by_cases hpn : (n : Int) = p.n
    · rw [if_pos hpn]
      have hpn' : p.n = n := by omega
      simp only
      apply List.ext_getElem?
      intro i
      by_cases hi : i < 512
      · unfold lay1; rw [sct_lay _ _ _ _ (by omega) (by rw [ih2]; omega) hi, if_pos ⟨hpn', by omega⟩]
      · rw [List.getElem?_eq_none (by rw [sct_len (by rw [hl2]; omega)]; omega), List.getElem?_eq_none (by omega)]
    · rw [if_neg hpn, ← ih1]
      apply List.ext_getElem?
      intro i
      by_cases hi : i < 512
      · unfold lay1; rw [sct_lay _ _ _ _ (by omega) (by rw [ih2]; omega) hi, if_neg (fun e => hpn (by rw [← e.1]))]
      · have t : ∀ q : List Int, (sct q n).length ≤ 512 := fun q => by unfold sct; rw [List.length_take]; omega
        rw [List.getElem?_eq_none (by have := t (lay1 Q p); omega), List.getElem?_eq_none (by have := t Q; omega)]
theorem says_def (S : DS) (n : Nat) : S.says n = match lastOf S.pend n with | some p => p.bs | none => sct S.plat n := rfl
theorem flush_says {S : DS} (h : GD S) (n : Nat) : S.flush.says n = S.says n := by
  have := (flush_sct h n S.pend.length (Nat.le_refl _)).1
  rw [List.take_length] at this
  rw [says_def S n, ← this]; rfl
theorem crash_says {S : DS} (h : GD S) (o : Nat → TornV) (n : Nat) (hn : lastOf S.pend n = none) (len : Nat) : (S.crash len o).says n = S.says n := by
  have hno := lastOf_none hn
  have key : ∀ k, sct (S.crashTo o k) n = sct S.plat n := by
    intro k
    induction k with
    | zero => rfl
    | succ k ih =>
      rw [crashTo_succ]
      unfold DS.crash1
      cases hp : S.pend[(o k).x0.toNat]? with
      | none => exact ih
      | some p =>
        have hpm := List.mem_of_getElem? hp
        obtain ⟨h1, h2⟩ := h.ins p hpm
        rw [← ih]
        simp only
        apply List.ext_getElem?
        intro i
        by_cases hi : i < 512
        · rw [sct_lay _ _ _ _ (by rw [List.length_take]; omega) (by rw [crashTo_len h]; omega) hi, if_neg (fun e => hno p hpm e.1)]
        · have t : ∀ q : List Int, (sct q n).length ≤ 512 := fun q => by unfold sct; rw [List.length_take]; omega
          rw [List.getElem?_eq_none (by have := t (Go.Proofs.Ytajhpfmfoolcjaa.lay (S.crashTo o k) (p.n * 512) (p.bs.take (o k).x1.toNat)); omega), List.getElem?_eq_none (by have := t (S.crashTo o k); omega)]
  rw [says_def S n, hn]
  exact key len
/-! The disk and the two maps -/
theorem ty29 : Try.prog.underlying 29 = some (.map 3 9) := by kernel_rfl
structure LF (w0 wr : World) (g cnt kb lb : Nat) (a : DA) (S : DS) (K L : IM) : Prop where
  ow : OW w0 wr a S
  ga : a.g = g
  ct : S.cnt = cnt
  lim : S.lim = false
  km : IMap wr kb K
  lm : IMap wr lb L
  own : w0.heap.size ≤ kb ∧ w0.heap.size ≤ lb ∧ kb ≠ lb
  dj : ¬ a.all S kb ∧ ¬ a.all S lb
  b1 : ByteOK S.plat
  b2 : ∀ p ∈ S.pend, ByteOK p.bs
  i1 : ∀ n v, L.get n = some v → ∃ nn : Nat, n = (nn : Int) ∧ nn < cnt ∧ v = .string (str (S.says nn))
  i2 : ∀ n v, K.get n = some v → ∃ nn : Nat, n = (nn : Int) ∧ nn < cnt ∧ v = .string (str (S.says nn)) ∧ lastOf S.pend nn = none
section
variable {w0 wr w' : World} {g cnt kb lb : Nat} {a : DA} {S : DS} {K L : IM}
theorem LF.gd (h : LF w0 wr g cnt kb lb a S K L) : GD S := ⟨h.ow.dr.size, fun p hp => ⟨h.ow.dr.ins p hp, h.ow.dr.bsl hp⟩, h.b1, h.b2⟩
theorem LF.below (h : LF w0 wr g cnt kb lb a S K L) (hb : Below wr.heap.size wr w') : LF w0 w' g cnt kb lb a S K L :=
  ⟨h.ow.below hb, h.ga, h.ct, h.lim, h.km.heap (hb.block _ h.km.lt), h.lm.heap (hb.block _ h.lm.lt), h.own, h.dj, h.b1, h.b2, h.i1, h.i2⟩
theorem LF.mv (h : LF w0 wr g cnt kb lb a S K L) {a' : DA} {S' : DS} (hm : Mv wr a S w' a' S') : IMap w' kb K ∧ IMap w' lb L ∧ ¬ a'.all S' kb ∧ ¬ a'.all S' lb :=
  ⟨h.km.ch hm.ch (fun q => h.dj.1 (.inl q)), h.lm.ch hm.ch (fun q => h.dj.2 (.inl q)), fun q => (hm.all _ q).elim h.dj.1 fun q => by have := h.km.lt; omega, fun q => (hm.all _ q).elim h.dj.2 fun q => by have := h.lm.lt; omega⟩
/-- Another map of what is known. -/
theorem LF.putK (h : LF w0 wr g cnt kb lb a S K L) {K' : IM} (hm : IMap w' kb K') (hc : Ch (· = kb) wr w') (hi : ∀ n v, K'.get n = some v → ∃ nn : Nat, n = (nn : Int) ∧ nn < cnt ∧ v = .string (str (S.says nn)) ∧ lastOf S.pend nn = none) : LF w0 w' g cnt kb lb a S K' L :=
  ⟨⟨h.ow.dr.ch hc (fun k q e => h.dj.1 (e ▸ q)), h.ow.bl.trans (hc.below (fun k hk q => by have := h.own.1; omega) h.ow.bl.size), h.ow.own⟩, h.ga, h.ct, h.lim, hm, h.lm.ch hc (fun e => h.own.2.2 e.symm), h.own, h.dj, h.b1, h.b2, h.i1, hi⟩
theorem LF.flush (h : LF w0 wr g cnt kb lb a S K L) (hl : S.pend.length ≤ 2 ^ 42) : Calls Try.prog 12 #[.pointer (some ⟨g, 0, none⟩)] wr fun e w' => (∃ v, e = .returned v) ∧ ∃ a' S', LF w0 w' g cnt kb lb a' S' K L ∧ S'.pend = [] := by
  have hf := flush_on h.ow.dr (off0 h.lim) hl
  rw [h.ga, dec0 h.lim] at hf
  refine hf.mono ?_
  rintro e w' ⟨a', rfl, q1, q2⟩
  obtain ⟨m1, m2, m3, m4⟩ := h.mv q2
  have hgd := h.gd
  refine ⟨⟨_, rfl⟩, a', S.flush, ⟨h.ow.mv q1 q2, q2.g.trans h.ga, h.ct, h.lim, m1, m2, h.own, ⟨m3, m4⟩, foldl_byte _ _ h.b1 h.b2, by simp [DS.flush], fun n v e => ?_, fun n v e => ?_⟩, rfl⟩
  · obtain ⟨nn, e1, e2, e3⟩ := h.i1 n v e
    exact ⟨nn, e1, e2, by rw [flush_says hgd]; exact e3⟩
  · obtain ⟨nn, e1, e2, e3, _⟩ := h.i2 n v e
    exact ⟨nn, e1, e2, by rw [flush_says hgd]; exact e3, rfl⟩
/-- Behind a write, ahead of the maps. -/
structure LV (w0 : World) (g nn kb lb : Nat) (l : List Int) (S : DS) (K L : IM) (u : World) : Prop where
  ex : ∃ a' p, p.n = nn ∧ p.bs = l ∧ OW w0 u a' (S.push p) ∧ a'.g = g ∧ ¬ a'.all (S.push p) kb ∧ ¬ a'.all (S.push p) lb
  km : IMap u kb K
  lm : IMap u lb L
theorem LV.below {nn : Nat} {l : List Int} {u u' : World} (h : LV w0 g nn kb lb l S K L u) (hb : Below u.heap.size u u') : LV w0 g nn kb lb l S K L u' := by
  obtain ⟨a', p, h1, h2, h3, h4⟩ := h.ex
  exact ⟨⟨a', p, h1, h2, h3.below hb, h4⟩, h.km.heap (hb.block _ h.km.lt), h.lm.heap (hb.block _ h.lm.lt)⟩
theorem LV.putL {nn : Nat} {l : List Int} {u u' : World} {L' : IM} (h : LV w0 g nn kb lb l S K L u) (ho : w0.heap.size ≤ lb ∧ kb ≠ lb) (hm : IMap u' lb L') (hc : Ch (· = lb) u u') : LV w0 g nn kb lb l S K L' u' := by
  obtain ⟨a', p, h1, h2, h3, h4, h5, h6⟩ := h.ex
  exact ⟨⟨a', p, h1, h2, ⟨h3.dr.ch hc (fun k q e => h6 (e ▸ q)), h3.bl.trans (hc.below (fun k hk q => by omega) h3.bl.size), h3.own⟩, h4, h5, h6⟩, h.km.ch hc ho.2, hm⟩
theorem LF.write (h : LF w0 wr g cnt kb lb a S K L) (nn : Nat) (hn : nn < cnt) (hl : S.pend.length ≤ 4398046511103) (x : Nat) (l : List Int) (hx : Rw wr 5 1 (some ⟨x, 0, none⟩) 512 512 (bv l)) (hxf : ¬ a.all S x) : Calls Try.prog 10 #[.pointer (some ⟨g, 0, none⟩), .int .i64 (nn : Int), .slice (some ⟨x, 0, none⟩) 512 512] wr fun e w' => e = .returned (.int .i64 0) ∧ LV w0 g nn kb lb l S K L w' ∧ wr.heap.size ≤ w'.heap.size ∧ ∀ k, k < wr.heap.size → ¬ a.foot k → w'.heap[k]? = wr.heap[k]? := by
  have hw := h.ow.write nn x 512 l (by rw [h.ct]; exact hn) (off0 h.lim) hx (fun q => hxf (.inl q)) hl
  rw [h.ga, dec0 h.lim] at hw
  refine hw.mono ?_
  rintro e w' ⟨rfl, a', p, p1, p2, p3, p4, p5⟩
  obtain ⟨m1, m2, m3, m4⟩ := h.mv p5
  exact ⟨rfl, ⟨⟨a', p, p1, p2, p3, p4, m3, m4⟩, m1, m2⟩, p5.ch.size, fun k hk hf => p5.ch.block k hk hf⟩
theorem push_says (S : DS) (p : PW) (n : Nat) : (S.push p).says n = if n = p.n then p.bs else S.says n := by
  rw [says_def, says_def]
  show (match lastOf (S.pend ++ [p]) n with | some p => p.bs | none => sct S.plat n) = _
  rw [lastOf_snoc]
  by_cases h : n = p.n
  · rw [if_pos (by omega), if_pos h]
  · rw [if_neg (by omega), if_neg h]
/-- Both maps are written. -/
theorem LV.done (h0 : LF w0 wr g cnt kb lb a S K L) {nn : Nat} (hn : nn < cnt) {l : List Int} (hlb : ByteOK l) {u u' : World} (h : LV w0 g nn kb lb l S K (L.put (nn : Int) (.string (str l))) u) (hm : IMap u' kb (K.del (nn : Int))) (hc : Ch (· = kb) u u') : ∃ a' p, LF w0 u' g cnt kb lb a' (S.push p) (K.del (nn : Int)) (L.put (nn : Int) (.string (str l))) := by
  obtain ⟨a', p, h1, h2, h3, h4, h5, h6⟩ := h.ex
  refine ⟨a', p, ⟨h3.dr.ch hc (fun k q e => h5 (e ▸ q)), h3.bl.trans (hc.below (fun k hk q => by have := h0.own.1; omega) h3.bl.size), h3.own⟩, h4, h0.ct, h0.lim, hm, h.lm.ch hc (fun e => h0.own.2.2 e.symm), h0.own, ⟨h5, h6⟩, h0.b1, fun q hq => ?_, fun n v e => ?_, fun n v e => ?_⟩
  · rcases List.mem_append.1 hq with hq | hq
    · exact h0.b2 q hq
    · obtain rfl : q = p := by simpa using hq
      rw [h2]; exact hlb
  · rw [IM.get_put] at e
    by_cases hnn : n = (nn : Int)
    · rw [if_pos hnn] at e
      injection e with e
      exact ⟨nn, hnn, hn, by rw [push_says, if_pos h1.symm, h2]; exact e.symm⟩
    · rw [if_neg hnn] at e
      obtain ⟨m, e1, e2, e3⟩ := h0.i1 n v e
      exact ⟨m, e1, e2, by rw [push_says, if_neg (by omega)]; exact e3⟩
  · rw [IM.get_del] at e
    by_cases hnn : n = (nn : Int)
    · rw [if_pos hnn] at e; cases e
    · rw [if_neg hnn] at e
      obtain ⟨m, e1, e2, e3, e4⟩ := h0.i2 n v e
      refine ⟨m, e1, e2, by rw [push_says, if_neg (by omega)]; exact e3, ?_⟩
      show lastOf (S.pend ++ [p]) m = none
      rw [lastOf_snoc, if_neg (by omega)]; exact e4
/-- Behind a crash what is known is read. -/
structure LC (w0 wr : World) (g cnt kb : Nat) (a : DA) (S : DS) (K : IM) : Prop where
  ow : OW w0 wr a S
  ga : a.g = g
  ct : S.cnt = cnt
  pend : S.pend = []
  own : w0.heap.size ≤ kb
  dj : ¬ a.all S kb
  i2 : ∀ n v, K.get n = some v → ∃ nn : Nat, n = (nn : Int) ∧ nn < cnt ∧ v = .string (str (S.says nn))
theorem LF.crash (h : LF w0 wr g cnt kb lb a S K L) (Ak : Option Addr) (len ck : Nat) (o : Nat → TornV) (ht : Tn wr Ak len o) (hA : 0 < len → ∀ k, blkOf Ak = some k → k < w0.heap.size) (hc : len ≤ 2 ^ 43) (hlen : S.pend.length ≤ 2 ^ 42) : Calls Try.prog 13 #[.pointer (some ⟨g, 0, none⟩), .slice Ak len ck] wr fun e w' => (e = .returned (.int .i64 1) ∧ LF w0 w' g cnt kb lb a S K L ∧ Below wr.heap.size wr w' ∧ ¬ len = 0) ∨ (e = .returned (.int .i64 0) ∧ ∃ a' S', LC w0 w' g cnt kb a' S' K ∧ IMap w' kb K) := by
  have hcr := crash_ok h.ow.dr Ak len ck o ht (fun h0 k e q => by have := hA h0 k e; have := h.ow.own k (.inl q); omega) hc hlen
  rw [h.ga] at hcr
  refine hcr.mono ?_
  rintro e w' (⟨rfl, h1, h2⟩ | ⟨rfl, h1, a', h2, h3⟩)
  · exact .inl ⟨rfl, h.below h2, h2, fun e => h1 (by omega)⟩
  · obtain ⟨m1, m2, m3, m4⟩ := h.mv h3
    refine .inr ⟨rfl, a', S.crash len o, ⟨h.ow.mv h2 h3, h3.g.trans h.ga, h.ct, rfl, h.own.1, m3, fun n v e => ?_⟩, m1⟩
    obtain ⟨nn, e1, e2, e3, e4⟩ := h.i2 n v e
    exact ⟨nn, e1, e2, by rw [crash_says h.gd o nn e4]; exact e3⟩
theorem LC.mv (h : LC w0 wr g cnt kb a S K) {a' : DA} (hr : DR w' a' S) (hm : Mv wr a S w' a' S) (hk : kb < wr.heap.size) : LC w0 w' g cnt kb a' S K :=
  ⟨h.ow.mv hr hm, hm.g.trans h.ga, h.ct, h.pend, h.own, fun q => (hm.all _ q).elim h.dj fun q => by omega, h.i2⟩
end
end Go.Proofs.Ytajhpfmfoolcjaa
