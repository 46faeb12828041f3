import Derived.Test.YtajhpfmfoolcjaaAwake
/- Two disks side by side; what two that say the same have in common. -/
namespace Go.Proofs.Ytajhpfmfoolcjaa
open Go.RowKit Go.BigFrame
set_option linter.unusedVariables false
set_option linter.unusedSimpArgs false
attribute [local go_sem] szIs_lit row_at row_past row_alloc nf_alloc row_set nf_set row_cell nf_cell row_drew nf_drew row_drewN nf_drewN cell_setRow frozen_setRow nlt1 nlt2 nlt3 nlt4 nne1 nne2 nne3 nen1 nen2 nen3
/-- Two disks of the call's own, apart. -/
structure TW (w0 w : World) (a : DA) (S : DS) (b : DA) (T : DS) : Prop where
  oa : OW w0 w a S
  ob : OW w0 w b T
  dj : ∀ k, a.all S k → ¬ b.all T k
section
variable {w0 w w' : World} {a a' b b' : DA} {S S' T T' : DS}
theorem TW.mvA (h : TW w0 w a S b T) (hr : DR w' a' S') (hm : Mv w a S w' a' S') : TW w0 w' a' S' b T := by
  have oa := h.oa.mv hr hm
  refine ⟨oa, ⟨h.ob.dr.ch hm.ch (fun k q q2 => h.dj k (.inl q2) q), oa.bl, h.ob.own⟩, fun k q q2 => ?_⟩
  rcases hm.all k q with q3 | q3
  · exact h.dj k q3 q2
  · have := h.ob.dr.foot_lt q2; omega
theorem TW.mvB (h : TW w0 w a S b T) (hr : DR w' b' T') (hm : Mv w b T w' b' T') : TW w0 w' a S b' T' := by
  have ob := h.ob.mv hr hm
  refine ⟨⟨h.oa.dr.ch hm.ch (fun k q q2 => h.dj k q (.inl q2)), ob.bl, h.oa.own⟩, ob, fun k q q2 => ?_⟩
  rcases hm.all k q2 with q3 | q3
  · exact h.dj k q q3
  · have := h.oa.dr.foot_lt q; omega
theorem TW.below (h : TW w0 w a S b T) (hb : Below w.heap.size w w') : TW w0 w' a S b T := ⟨h.oa.below hb, h.ob.below hb, h.dj⟩
end
/-- What a disk says, but for where it lies. -/
def core (l : List PW) : List (Nat × List Int) := l.map fun p => (p.n, p.bs)
structure Same (S T : DS) : Prop where
  cnt : S.cnt = T.cnt
  plat : S.plat = T.plat
  pend : core S.pend = core T.pend
theorem core_len {l m : List PW} (h : core l = core m) : l.length = m.length := by have := congrArg List.length h; simpa [core] using this
theorem core_ni {l m : List PW} (h : core l = core m) : l.map PW.ni = m.map PW.ni := by
  have := congrArg (List.map fun x : Nat × List Int => (x.1 : Int)) h
  have e : PW.ni = fun p => (p.n : Int) := rfl
  rw [e]
  simpa [core, Function.comp_def] using this
theorem core_lay : ∀ {l m : List PW} (q : List Int), core l = core m → l.foldl lay1 q = m.foldl lay1 q
  | [], [], q, _ => rfl
  | [], _ :: _, q, h => by simp [core] at h
  | _ :: _, [], q, h => by simp [core] at h
  | p :: l, r :: m, q, h => by
    simp only [core, List.map_cons, List.cons.injEq, Prod.mk.injEq] at h
    obtain ⟨⟨h1, h2⟩, h3⟩ := h
    simp only [List.foldl_cons]
    rw [show lay1 q p = lay1 q r by unfold lay1; rw [h1, h2]]
    exact core_lay _ h3
theorem Same.push {S T : DS} (h : Same S T) (p q : PW) (h1 : p.n = q.n) (h2 : p.bs = q.bs) : Same (S.push p) (T.push q) :=
  ⟨h.cnt, h.plat, by unfold DS.push core; simp only [List.map_append, List.map_cons, List.map_nil]; rw [show S.pend.map (fun p => (p.n, p.bs)) = T.pend.map (fun p => (p.n, p.bs)) from h.pend, h1, h2]⟩
theorem Same.dec {S T : DS} (h : Same S T) : Same S.dec T.dec := by
  unfold DS.dec
  split <;> split <;> exact ⟨h.cnt, h.plat, h.pend⟩
theorem Same.flush {S T : DS} (h : Same S T) : Same S.flush T.flush := ⟨h.cnt, by show S.pend.foldl lay1 S.plat = T.pend.foldl lay1 T.plat; rw [h.plat]; exact core_lay _ h.pend, rfl⟩
theorem Same.crash1 {S T : DS} (h : Same S T) (o : Nat → TornV) (i : Nat) (q : List Int) : S.crash1 o i q = T.crash1 o i q := by
  unfold DS.crash1
  have hc : (S.pend[(o i).x0.toNat]?).map (fun p => (p.n, p.bs)) = (T.pend[(o i).x0.toNat]?).map (fun p => (p.n, p.bs)) := by
    rw [← List.getElem?_map, ← List.getElem?_map]; exact congrArg (·[(o i).x0.toNat]?) h.pend
  cases h1 : S.pend[(o i).x0.toNat]? with
  | none =>
    rw [h1] at hc
    cases h2 : T.pend[(o i).x0.toNat]? with
    | none => rfl
    | some r => rw [h2] at hc; cases hc
  | some p =>
    rw [h1] at hc
    cases h2 : T.pend[(o i).x0.toNat]? with
    | none => rw [h2] at hc; cases hc
    | some r =>
      rw [h2] at hc
      simp only [Option.map_some, Option.some.injEq, Prod.mk.injEq] at hc
      simp only
      rw [hc.1, hc.2]
theorem Same.crash {S T : DS} (h : Same S T) (len : Nat) (o : Nat → TornV) : (S.crash len o).plat = (T.crash len o).plat := by
  show (List.range len).foldl (fun q i => S.crash1 o i q) S.plat = (List.range len).foldl (fun q i => T.crash1 o i q) T.plat
  rw [h.plat]
  congr 1
  funext q i
  exact h.crash1 o i q
theorem dec_lim (S : DS) : S.dec.lim = S.lim := by unfold DS.dec; split <;> rfl
theorem dec_pend (S : DS) : S.dec.pend = S.pend := by unfold DS.dec; split <;> rfl
theorem dec_cnt (S : DS) : S.dec.cnt = S.cnt := by unfold DS.dec; split <;> rfl
theorem dec_plat (S : DS) : S.dec.plat = S.plat := by unfold DS.dec; split <;> rfl
/-- The operations that were handed in can be read. -/
theorem op_read {w w' : World} {B : Nat} {A : Option Addr} {len cap : Nat} {o : Nat → OpV} (h : AreOp w B A len cap o) (hb : Below B w w') {j : Nat} (hj : j < len) : ∃ b off, A = some ⟨b, off, none⟩ ∧ b < B ∧ w'.cell? ⟨b, off + j * 5, none⟩ = some (.int .i64 (o j).x0) ∧ w'.cell? ⟨b, off + j * 5 + 1, none⟩ = some (.int .i64 (o j).x1) ∧ w'.cell? ⟨b, off + j * 5 + 2, none⟩ = some (.int .u8 (o j).x2) ∧ w'.cell? ⟨b, off + j * 5 + 3, none⟩ = some (.int .i64 (o j).x3) ∧ w'.cell? ⟨b, off + j * 5 + 4, none⟩ = some (.slice (o j).a4 (o j).l4 (o j).k4) ∧ (Lit.int .u8 (o j).x2).wf = true := by
  have h2 := h.below hb
  obtain ⟨b, off, e, hbB, hc⟩ := h2.2.2.2 (by omega)
  have h3 := hc j hj
  unfold IsOp at h3
  exact ⟨b, off, e, hbB, h3.1, h3.2.2.1, h3.2.2.2.2.1, h3.2.2.2.2.2.2.1, h3.2.2.2.2.2.2.2.2, h3.2.2.2.2.2.1⟩
theorem tn_of {w : World} {A : Option Addr} {len cap : Nat} {o : Nat → TornV} {B : Nat} (h : AreTorn w B A len cap o) : Tn w A len o := fun hl => by
  obtain ⟨b, off, e, hbB, hc⟩ := h.2.2.2 hl
  exact ⟨b, off, e, fun i hi => by have h3 := hc i hi; unfold IsTorn at h3; exact ⟨h3.1, h3.2.2.1⟩⟩
end Go.Proofs.Ytajhpfmfoolcjaa
