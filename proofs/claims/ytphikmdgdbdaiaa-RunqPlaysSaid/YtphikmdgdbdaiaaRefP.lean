import Derived.Test.YtphikmdgdbdaiaaRef
/- The reference: what its writes leave. -/
namespace Go.Proofs.Ytphikmdgdbdaiaa
open Go.RowKit Go.BigFrame
set_option linter.unusedVariables false
set_option linter.unusedSimpArgs false
attribute [local go_sem] szIs_lit row_at row_past row_alloc nf_alloc row_set nf_set row_cell nf_cell row_drew nf_drew row_drewN nf_drewN cell_setRow frozen_setRow nlt1 nlt2 nlt3 nlt4 nne1 nne2 nne3 nen1 nen2 nen3
/-- What a call of the reference leaves: the harts' row alone is changed; where it lies now. -/
structure Mr (n : Nat) (w : World) (a : RA) (w' : World) (a' : RA) : Prop where
  ch : Ch (· = a.hb) w w'
  x : a'.x = a.x
  hb : a'.hb = a.hb
  new : ∀ k, a'.foot n k → a.foot n k ∨ w.heap.size ≤ k
theorem Mr.refl (n : Nat) (w : World) (a : RA) : Mr n w a w a := ⟨Ch.refl _ _, rfl, rfl, fun _ h => .inl h⟩
theorem Mr.trans {n : Nat} {w w1 w2 : World} {a a1 a2 : RA} (h : Mr n w a w1 a1) (h2 : Mr n w1 a1 w2 a2) : Mr n w a w2 a2 :=
  ⟨h.ch.trans h2.ch (fun k _ q => by rw [← h.hb]; exact q), h2.x.trans h.x, h2.hb.trans h.hb, fun k q => (h2.new k q).elim (h.new k) fun q => .inr (Nat.le_trans h.ch.size q)⟩
section
variable {w w' w4 : World} {a : RA} {S : QS}
theorem RR.putR (H : RR w a S) {h : Nat} (hh : h < S.n) (v : Int) : RR (w.setCell ⟨a.hb, h * 2, none⟩ (.int .i64 v)) a (S.setR h v) ∧ Mr S.n w a (w.setCell ⟨a.hb, h * 2, none⟩ (.int .i64 v)) a := by
  have hc : Ch (· = a.hb) w (w.setCell ⟨a.hb, h * 2, none⟩ (.int .i64 v)) := (Ch.refl (· = a.hb) w).cell _ _ fun _ => rfl
  refine ⟨⟨H.n1, H.n8, H.blk.ch hc H.ne, ?_, fun i hi => (H.q i hi).ch hc fun k hk e => (H.qn i hi).2 (by rw [hk, e]), H.ne, H.qn⟩, ⟨hc, rfl, rfl, fun _ q => .inl q⟩⟩
  have := H.row.put (h * 2) (.int .i64 v)
  rwa [rv_setR a S v _ hh] at this
theorem RR.putQ (H : RR w a S) {h : Nat} (hh : h < S.n) (hb : Below w.heap.size w w4) {A : Option Addr} {c : Nat} {l : List Int} (hr : Rw w4 3 1 A l.length c (iv l)) (hA : ∀ k, blkOf A = some k → w.heap.size ≤ k) :
    RR (w4.setCell ⟨a.hb, h * 2 + 1, none⟩ (.slice A l.length c)) (a.setA h A c) (S.setQ h l) ∧ Mr S.n w a (w4.setCell ⟨a.hb, h * 2 + 1, none⟩ (.slice A l.length c)) (a.setA h A c) := by
  have H4 := H.below hb
  have hc : Ch (· = a.hb) w4 (w4.setCell ⟨a.hb, h * 2 + 1, none⟩ (.slice A l.length c)) := (Ch.refl (· = a.hb) w4).cell _ _ fun _ => rfl
  have hx := H.blk.lt
  have hhb := H.row.blt
  refine ⟨⟨H.n1, H.n8, H4.blk.ch hc H.ne, ?_, fun i hi => ?_, H.ne, fun i hi => ?_⟩, ⟨(Ch.of_below hb).trans hc (fun k _ q => q), rfl, rfl, fun k q => ?_⟩⟩
  · have := H4.row.put (h * 2 + 1) (.slice A l.length c)
    rwa [rv_setQ a S A c l _ hh] at this
  · by_cases e : i = h
    · subst e
      simp only [RA.setA, QS.setQ, if_pos]
      exact hr.ch hc fun k hk e => by have := hA k hk; omega
    · simp only [RA.setA, QS.setQ, if_neg e]
      exact (H4.q i hi).ch hc fun k hk e => (H.qn i hi).2 (by rw [hk, e])
  · by_cases e : i = h
    · subst e
      simp only [RA.setA, if_pos]
      exact ⟨fun q => by have := hA _ q; omega, fun q => by have := hA _ q; omega⟩
    · simp only [RA.setA, if_neg e]; exact H.qn i hi
  · rcases q with q | q | ⟨i, hi, q⟩
    · exact .inl (.inl q)
    · exact .inl (.inr (.inl q))
    · by_cases e : i = h
      · subst e
        simp only [RA.setA, if_pos] at q
        exact .inr (hA k q)
      · simp only [RA.setA, if_neg e] at q
        exact .inl (.inr (.inr ⟨i, hi, q⟩))
theorem fresh_row (u : World) (cur : Array Value) : Rw (u.alloc (.cells cur 3)) 3 1 (some ⟨u.heap.size, 0, none⟩) cur.size cur.size cur.toList ∨ ¬ cur.size ≤ maxLen := by
  by_cases h : cur.size ≤ maxLen
  · have := Rw.fresh u 3 cur cur.size cur.size (s := 1) (Nat.le_refl _) h (by omega)
    refine .inl ?_
    rwa [List.take_of_length_le (by simp)] at this
  · exact .inr h
theorem empty_row (u : World) : Rw (u.alloc (.cells #[] 3)) 3 1 (some ⟨u.heap.size, 0, none⟩) 0 0 [] := (fresh_row u #[]).elim id fun h => absurd (Nat.zero_le _) h
theorem one_row (u : World) (t : Int) : Rw (u.alloc (.cells #[.int .i64 t] 3)) 3 1 (some ⟨u.heap.size, 0, none⟩) 1 1 (iv [t]) := (fresh_row u #[.int .i64 t]).elim id fun h => absurd (show 1 ≤ maxLen by unfold maxLen; omega) h
theorem iv_cells (l : List Int) : ∀ u ∈ iv l, u.oneCell' = true := fun u hu => by
  obtain ⟨x, _, rfl⟩ := List.mem_map.1 hu; rfl
theorem below_ch {F : Nat → Prop} {u0 u u' : World} (hb : Below u0.heap.size u0 u) (hc : Ch F u u') (hF : ∀ k, F k → u0.heap.size ≤ k) : Below u0.heap.size u0 u' :=
  hb.trans (hc.below (fun k hk hf => by have := hF k hf; omega) hb.size)
/-- append(row, ..): the row's own block is at or above N. -/
theorem app_run {u0 u : World} (hb : Below u0.heap.size u0 u) {A A' : Option Addr} {c c' : Nat} {l l' : List Int} (hr : Rw u 3 1 A l.length c (iv l)) (hA : ∀ k, blkOf A = some k → u0.heap.size ≤ k) (hr' : Rd u A' (iv l')) (hc' : A' = none → c' = 0) (h1 : l.length ≤ 1000) (h2 : l'.length ≤ 1000) :
    ∃ A2 c2 u', (Builtin.append_ #[31, 31] 31 #[.slice A l.length c, .slice A' l'.length c']).run Try.prog u = .ok (.slice A2 (l.length + l'.length) c2) u' ∧ Rw u' 3 1 A2 (l.length + l'.length) c2 (iv (l ++ l')) ∧ Below u0.heap.size u0 u' ∧ (∀ k, blkOf A2 = some k → u0.heap.size ≤ k) ∧ Ch (fun k => blkOf A = some k) u u' := by
  obtain ⟨A2, c2, u', e1, e2, e3, e4⟩ := rw_append (P := Try.prog) intT 31 hr A' l'.length c' (iv l') (by simp [iv]) hr' hc' (by unfold maxLen; omega) (by omega)
  refine ⟨A2, c2, u', e1, by simpa [iv] using e2, below_ch hb e3 hA, fun k hk => ?_, e3⟩
  rcases e4 with e | e
  · exact hA k (by rw [← e]; exact hk)
  · rw [e] at hk; injection hk with hk; have := hb.size; omega
theorem addr_cap {u : World} {A : Option Addr} {n c : Nat} {vs : List Value} (h : Rw u 3 1 A n c vs) : A = none → c = 0 := fun e => by
  rcases h.addr with ⟨_, _, q⟩ | ⟨b, q⟩
  · exact q
  · rw [q] at e; cases e
/-- append(append([]int{}, q..), t): the parts in the order empty, copy, t, both. -/
structure CPush (o : Nat) (w : World) (a : RA) (S : QS) (h : Nat) (t : Int) (W : Nat → World) (v0 ve : Value) (A1 : Option Addr) (c1 : Nat) (A2 : Option Addr) (c2 : Nat) : Prop where
  w0 : W 0 = w
  r0 : (Instr.buildSlice 31 0 #[]).run Try.prog (W (if o = 2 then 1 else 0)) = .ok v0 (W (if o = 2 then 2 else 1))
  re : (Instr.buildSlice 31 1 #[(0, .int .i64 t)]).run Try.prog (W (if o = 0 then 2 else if o = 1 then 1 else 0)) = .ok ve (W (if o = 0 then 3 else if o = 1 then 2 else 1))
  r1 : (Builtin.append_ #[31, 31] 31 #[v0, .slice (a.A h) (S.Q h).length (a.c h)]).run Try.prog (W (if o = 0 then 1 else 2)) = .ok (.slice A1 (S.Q h).length c1) (W (if o = 0 then 2 else 3))
  r2 : (Builtin.append_ #[31, 31] 31 #[.slice A1 (S.Q h).length c1, ve]).run Try.prog (W 3) = .ok (.slice A2 ((S.Q h).length + 1) c2) (W 4)
  st : (Instr.storeAt 31 (.pointer (some ⟨a.hb, h * 2 + 1, none⟩)) (.slice A2 ((S.Q h).length + 1) c2)).run Try.prog (W 4) = .ok () (W 5)
  ld : ∀ k, k ≤ 4 → RR (W k) a S
  fin : RR (W 5) (a.setA h A2 c2) (S.setQ h (S.Q h ++ [t])) ∧ Mr S.n w a (W 5) (a.setA h A2 c2)
theorem cpush_ok (H : RR w a S) {h : Nat} (hh : h < S.n) (t : Int) (hlen : (S.Q h).length ≤ 999) (o : Nat) (ho : o < 3) : ∃ W v0 ve A1 c1 A2 c2, CPush o w a S h t W v0 ve A1 c1 A2 c2 := by
  have B0 : Below w.heap.size w w := Below.refl _ _
  have hq := H.q h hh
  have fin : ∀ {w4 : World} {A2 : Option Addr} {c2 : Nat}, Below w.heap.size w w4 → Rw w4 3 1 A2 ((S.Q h).length + 1) c2 (iv (S.Q h ++ [t])) → (∀ k, blkOf A2 = some k → w.heap.size ≤ k) →
      (Instr.storeAt 31 (.pointer (some ⟨a.hb, h * 2 + 1, none⟩)) (.slice A2 ((S.Q h).length + 1) c2)).run Try.prog w4 = .ok () (w4.setCell ⟨a.hb, h * 2 + 1, none⟩ (.slice A2 ((S.Q h).length + 1) c2)) ∧
      RR (w4.setCell ⟨a.hb, h * 2 + 1, none⟩ (.slice A2 ((S.Q h).length + 1) c2)) (a.setA h A2 c2) (S.setQ h (S.Q h ++ [t])) ∧ Mr S.n w a (w4.setCell ⟨a.hb, h * 2 + 1, none⟩ (.slice A2 ((S.Q h).length + 1) c2)) (a.setA h A2 c2) := fun {w4 A2 c2} hb hr hA => by
    have H4 := H.below hb
    have hl : (S.Q h ++ [t]).length = (S.Q h).length + 1 := by simp
    have := H.putQ hh hb (l := S.Q h ++ [t]) (c := c2) (by rw [hl]; exact hr) hA
    rw [hl] at this
    exact ⟨store_cell 31 _ _ _ w4 (sz31 w4) rfl (H4.cQ hh) (H4.fro _), this⟩
  have hal : ∀ (u : World) (ob : Obj), Below w.heap.size w u → Below w.heap.size w (u.alloc ob) := fun u ob hb => hb.alloc hb.size _
  rcases (show o = 0 ∨ o = 1 ∨ o = 2 by omega) with rfl | rfl | rfl
  · have B1 := hal w (.cells #[] 3) B0
    have R1 := empty_row w
    obtain ⟨A1, c1, w2, p1, p2, p3, p4, p5⟩ := app_run B1 (l := []) (l' := S.Q h) (c' := a.c h) R1 (fun k hk => by have e1 : w.heap.size = k := Option.some.inj hk; omega) ((hq.below B1).rd (iv_cells _)) (addr_cap hq) (by simp) (by omega)
    simp only [List.length_nil, Nat.zero_add, List.nil_append] at p1 p2
    have B3 := hal w2 (.cells #[.int .i64 t] 3) p3
    have R3 := p2.below ((Below.refl _ w2).alloc (Nat.le_refl _) (.cells #[.int .i64 t] 3))
    obtain ⟨A2, c2, w4, q1, q2, q3, q4, q5⟩ := app_run B3 (l := S.Q h) (l' := [t]) (c' := 1) R3 p4 ((one_row w2 t).rd (iv_cells _)) (fun e => by cases e) (by omega) (by simp)
    obtain ⟨f1, f2, f3⟩ := fin q3 q2 q4
    refine ⟨fun k => [w, w.alloc (.cells #[] 3), w2, w2.alloc (.cells #[.int .i64 t] 3), w4].getD k (w4.setCell ⟨a.hb, h * 2 + 1, none⟩ (.slice A2 ((S.Q h).length + 1) c2)), _, _, A1, c1, A2, c2, ⟨rfl, bs31e w, bs31 t w2, p1, q1, f1, fun k hk => ?_, f2, f3⟩⟩
    rcases (show k = 0 ∨ k = 1 ∨ k = 2 ∨ k = 3 ∨ k = 4 by omega) with rfl | rfl | rfl | rfl | rfl
    · exact H
    · exact H.below B1
    · exact H.below p3
    · exact H.below B3
    · exact H.below q3
  · have B1 := hal w (.cells #[] 3) B0
    have B2 := hal _ (.cells #[.int .i64 t] 3) B1
    have b12 : Below (w.alloc (.cells #[] 3)).heap.size (w.alloc (.cells #[] 3)) ((w.alloc (.cells #[] 3)).alloc (.cells #[.int .i64 t] 3)) := (Below.refl _ _).alloc (Nat.le_refl _) _
    have R1 := (empty_row w).below b12
    have RT := one_row (w.alloc (.cells #[] 3)) t
    obtain ⟨A1, c1, w3, p1, p2, p3, p4, p5⟩ := app_run B2 (l := []) (l' := S.Q h) (c' := a.c h) R1 (fun k hk => by have e1 : w.heap.size = k := Option.some.inj hk; omega) ((hq.below B2).rd (iv_cells _)) (addr_cap hq) (by simp) (by omega)
    simp only [List.length_nil, Nat.zero_add, List.nil_append] at p1 p2
    have RT3 := RT.ch p5 (fun k hk e => by have e1 : (w.alloc (.cells #[] 3)).heap.size = k := Option.some.inj hk; have e2 : w.heap.size = k := Option.some.inj e; simp at e1; omega)
    obtain ⟨A2, c2, w4, q1, q2, q3, q4, q5⟩ := app_run p3 (l := S.Q h) (l' := [t]) (c' := 1) p2 p4 (RT3.rd (iv_cells _)) (fun e => by cases e) (by omega) (by simp)
    obtain ⟨f1, f2, f3⟩ := fin q3 q2 q4
    refine ⟨fun k => [w, w.alloc (.cells #[] 3), (w.alloc (.cells #[] 3)).alloc (.cells #[.int .i64 t] 3), w3, w4].getD k (w4.setCell ⟨a.hb, h * 2 + 1, none⟩ (.slice A2 ((S.Q h).length + 1) c2)), _, _, A1, c1, A2, c2, ⟨rfl, bs31e w, bs31 t _, p1, q1, f1, fun k hk => ?_, f2, f3⟩⟩
    rcases (show k = 0 ∨ k = 1 ∨ k = 2 ∨ k = 3 ∨ k = 4 by omega) with rfl | rfl | rfl | rfl | rfl
    · exact H
    · exact H.below B1
    · exact H.below B2
    · exact H.below p3
    · exact H.below q3
  · have B1 := hal w (.cells #[.int .i64 t] 3) B0
    have B2 := hal _ (.cells #[] 3) B1
    have b12 : Below (w.alloc (.cells #[.int .i64 t] 3)).heap.size (w.alloc (.cells #[.int .i64 t] 3)) ((w.alloc (.cells #[.int .i64 t] 3)).alloc (.cells #[] 3)) := (Below.refl _ _).alloc (Nat.le_refl _) _
    have RT := (one_row w t).below b12
    have R1 := empty_row (w.alloc (.cells #[.int .i64 t] 3))
    obtain ⟨A1, c1, w3, p1, p2, p3, p4, p5⟩ := app_run B2 (l := []) (l' := S.Q h) (c' := a.c h) R1 (fun k hk => by have e1 : (w.alloc (.cells #[.int .i64 t] 3)).heap.size = k := Option.some.inj hk; simp at e1; omega) ((hq.below B2).rd (iv_cells _)) (addr_cap hq) (by simp) (by omega)
    simp only [List.length_nil, Nat.zero_add, List.nil_append] at p1 p2
    have RT3 := RT.ch p5 (fun k hk e => by have e1 : w.heap.size = k := Option.some.inj hk; have e2 : (w.alloc (.cells #[.int .i64 t] 3)).heap.size = k := Option.some.inj e; simp at e2; omega)
    obtain ⟨A2, c2, w4, q1, q2, q3, q4, q5⟩ := app_run p3 (l := S.Q h) (l' := [t]) (c' := 1) p2 p4 (RT3.rd (iv_cells _)) (fun e => by cases e) (by omega) (by simp)
    obtain ⟨f1, f2, f3⟩ := fin q3 q2 q4
    refine ⟨fun k => [w, w.alloc (.cells #[.int .i64 t] 3), (w.alloc (.cells #[.int .i64 t] 3)).alloc (.cells #[] 3), w3, w4].getD k (w4.setCell ⟨a.hb, h * 2 + 1, none⟩ (.slice A2 ((S.Q h).length + 1) c2)), _, _, A1, c1, A2, c2, ⟨rfl, bs31e _, bs31 t w, p1, q1, f1, fun k hk => ?_, f2, f3⟩⟩
    rcases (show k = 0 ∨ k = 1 ∨ k = 2 ∨ k = 3 ∨ k = 4 by omega) with rfl | rfl | rfl | rfl | rfl
    · exact H
    · exact H.below B1
    · exact H.below B2
    · exact H.below p3
    · exact H.below q3
end
end Go.Proofs.Ytphikmdgdbdaiaa
