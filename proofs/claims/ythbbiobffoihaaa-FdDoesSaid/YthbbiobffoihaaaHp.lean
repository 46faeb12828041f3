import Derived.WalkKit
import Derived.MapKept
import Derived.Lib.Hide
import Derived.Deep.Draws
/- What changes and what stays (Ch); maps whose keys are whole numbers (IMap). -/
namespace Go.Proofs.Ythbbiobffoihaaa
open Go.RowKit
set_option linter.unusedVariables false
set_option linter.unusedSimpArgs false

/-- Only blocks of F change; new ones come. -/
structure Ch (F : Nat → Prop) (w w' : World) : Prop where
  os : w'.os = w.os
  tape : w'.tape = w.tape
  output : w'.output = w.output
  size : w.heap.size ≤ w'.heap.size
  block : ∀ k, k < w.heap.size → ¬ F k → w'.heap[k]? = w.heap[k]?
section
variable {F F2 : Nat → Prop} {w w1 w2 w' : World}
theorem Ch.refl (F : Nat → Prop) (w : World) : Ch F w w := ⟨rfl, rfl, rfl, Nat.le_refl _, fun _ _ _ => rfl⟩
theorem Ch.trans (h : Ch F w w1) (h2 : Ch F2 w1 w2) (hF : ∀ k, k < w.heap.size → F2 k → F k) : Ch F w w2 :=
  ⟨h2.os.trans h.os, h2.tape.trans h.tape, h2.output.trans h.output, Nat.le_trans h.size h2.size, fun k hk hn => (h2.block k (Nat.lt_of_lt_of_le hk h.size) fun q => hn (hF k hk q)).trans (h.block k hk hn)⟩
theorem Ch.mono (h : Ch F w w1) (hF : ∀ k, k < w.heap.size → F k → F2 k) : Ch F2 w w1 := ⟨h.os, h.tape, h.output, h.size, fun k hk hn => h.block k hk fun q => hn (hF k hk q)⟩
theorem Ch.alloc (h : Ch F w w1) (o : Obj) : Ch F w (w1.alloc o) :=
  ⟨h.os, h.tape, h.output, Nat.le_trans h.size (by simp), fun k hk hn => (Below.heap_alloc w1 o k (Nat.lt_of_lt_of_le hk h.size)).trans (h.block k hk hn)⟩
theorem Ch.drew (h : Ch F w w1) : Ch F w w1.drew := ⟨h.os, h.tape, h.output, h.size, h.block⟩
theorem Ch.drewN (h : Ch F w w1) (n : Nat) : Ch F w (w1.drewN n) := ⟨h.os, h.tape, h.output, h.size, h.block⟩
theorem Ch.undrew (h : Ch F w.drew w1) : Ch F w w1 := ⟨h.os, h.tape, h.output, h.size, h.block⟩
theorem Ch.cell (h : Ch F w w1) (a : Addr) (v : Value) (ha : a.block < w.heap.size → F a.block) : Ch F w (w1.setCell a v) :=
  ⟨h.os, h.tape, h.output, by simpa using h.size, fun k hk hn => (heap_setCell_other w1 a k v (fun e => hn (by rw [e]; exact ha (by rw [← e]; exact hk)))).trans (h.block k hk hn)⟩
theorem Ch.of_below (h : Below w.heap.size w w') : Ch F w w' := ⟨h.os, h.tape, h.output, h.size, fun k hk _ => h.block k hk⟩
theorem Ch.below {B : Nat} (h : Ch F w w') (hF : ∀ k, k < B → ¬ F k) (hB : B ≤ w.heap.size) : Below B w w' := ⟨h.os, h.tape, h.output, h.size, fun k hk => h.block k (Nat.lt_of_lt_of_le hk hB) (hF k hk)⟩
theorem Ch.new (h : Ch F w w') (hF : ∀ k, ¬ F k) : Below w.heap.size w w' := h.below (fun k _ => hF k) (Nat.le_refl _)
theorem Ch.of_grown {row : Option Nat} (h : w.grownBy w' row) (hF : ∀ k, k < w.heap.size → row = some k → F k) : Ch F w w' := ⟨h.os, h.tape, h.output, h.size, fun k hk hn => h.block k hk fun e => hn (hF k hk e.symm)⟩
theorem Ch.grown {b : Nat} (h : Ch (· = b) w w') : w.grownBy w' (some b) := ⟨h.os, h.tape, h.output, h.size, fun k hk hn => h.block k hk fun e => hn (by rw [e])⟩
/-- What a call did behind what was done already. -/
theorem Ch.then_below (h : Ch F w w1) (h2 : Below w1.heap.size w1 w2) : Ch F w w2 := h.trans (F2 := fun _ => False) (Ch.of_below h2) (fun _ _ q => q.elim)
end

theorem erase_map {α β : Type} (f : α → β) : ∀ (l : List α) (i : Nat), (l.map f).eraseIdx i = (l.eraseIdx i).map f
  | [], i => rfl
  | a :: l, 0 => rfl
  | a :: l, i + 1 => by simp [erase_map f l i]
/-! Maps whose keys are whole numbers -/
abbrev IM := List (Int × Value)
def IM.get (M : IM) (x : Int) : Option Value := (M.find? fun p => p.1 == x).map (·.2)
def IM.put : IM → Int → Value → IM
  | [], x, v => [(x, v)]
  | p :: M, x, v => if p.1 == x then (x, v) :: M else p :: IM.put M x v
def IM.del (M : IM) (x : Int) : IM := M.filter fun p => !(p.1 == x)
def IMap (w : World) (b : Nat) (M : IM) : Prop :=
  ∃ es clock, w.heap[b]? = some (.map es clock) ∧ MapKept.Stamped es clock ∧ es.toList.map (fun e => (e.key, e.val)) = M.map fun p => (Value.int .i64 p.1, p.2)
section
variable {w w' : World} {b : Nat} {M : IM}
theorem IMap.lt (h : IMap w b M) : b < w.heap.size := by
  obtain ⟨es, c, h, _⟩ := h
  exact (Array.getElem?_eq_some_iff.1 h).1
theorem IMap.heap (h : IMap w b M) (he : w'.heap[b]? = w.heap[b]?) : IMap w' b M := by
  obtain ⟨es, c, h, h2⟩ := h
  exact ⟨es, c, he.trans h, h2⟩
theorem IMap.ch {F : Nat → Prop} (h : IMap w b M) (hc : Ch F w w') (hb : ¬ F b) : IMap w' b M := h.heap (hc.block b h.lt hb)
theorem IMap.drew (h : IMap w b M) : IMap w.drew b M := h
theorem IMap.made (w : World) : IMap (w.alloc (.map #[] 0)) w.heap.size [] := ⟨#[], 0, heap_alloc_new w _, MapKept.stamped_empty 0, rfl⟩
theorem IMap.nodup (h : IMap w b M) : (M.map (·.1)).Nodup := by
  obtain ⟨es, c, _, hs, he⟩ := h
  have h1 := hs.2.2
  have h2 : es.toList.map (·.key) = M.map fun p => Value.int .i64 p.1 := by
    have := congrArg (List.map (·.1)) he
    simpa [List.map_map, Function.comp_def] using this
  rw [h2] at h1
  have : M.map (fun p => Value.int .i64 p.1) = (M.map (·.1)).map (Value.int .i64) := by simp
  rw [this] at h1
  exact List.Pairwise.of_map (S := fun a b => a ≠ b) (Value.int .i64) (fun a b hab e => hab (by rw [e])) h1
end
def fndM : IM → Int → Nat → Option (Nat × Value)
  | [], _, _ => none
  | p :: M, x, i => if p.1 == x then some (i, p.2) else fndM M x (i + 1)
theorem fndM_get : ∀ (M : IM) (x : Int) (i : Nat), (fndM M x i).map (·.2) = M.get x
  | [], x, i => rfl
  | p :: M, x, i => by
    unfold fndM IM.get
    by_cases h : (p.1 == x) = true
    · simp [h]
    · have := fndM_get M x (i + 1)
      unfold IM.get at this
      simp only [h, List.find?_cons]
      simpa using this
theorem find_now : ∀ (es : List MapEntry) (M : IM) (x : Int) (i : Nat) (q : IntKind), es.map (fun e => (e.key, e.val)) = M.map (fun p => (Value.int .i64 p.1, p.2)) → Instr.findNow (.int q) (.int .i64 x) es i = some (fndM M x i)
  | [], [], x, i, q, _ => rfl
  | [], p :: M, x, i, q, h => by simp at h
  | e :: es, [], x, i, q, h => by simp at h
  | e :: es, p :: M, x, i, q, h => by
    simp only [List.map_cons, List.cons.injEq, Prod.mk.injEq] at h
    obtain ⟨⟨h1, h2⟩, h3⟩ := h
    have ih := find_now es M x (i + 1) q h3
    unfold Instr.findNow fndM
    rw [h1]
    simp only [Instr.sameNow, if_true, h2]
    by_cases hx : x = p.1
    · subst hx; simp
    · have a1 : (x == p.1) = false := by simpa using hx
      have a2 : (p.1 == x) = false := by simpa using fun e : p.1 = x => hx e.symm
      rw [a1, a2]; simpa using ih
section
variable {P : Program} {w : World} {b : Nat} {M : IM} {t k e : TypeId}
theorem run_check (hk : P.underlying k = some (.int .i64)) (em : Bool) (n : Nat) (x : Int) : (Instr.checkKey em (n + 1) k (.int .i64 x)).run P w = .ok () w := by
  simp [Instr.checkKey, run_underlying hk]
theorem run_find (hk : P.underlying k = some (.int .i64)) {es : Array MapEntry} (he : es.toList.map (fun e => (e.key, e.val)) = M.map fun p => (Value.int .i64 p.1, p.2)) (x : Int) : (Instr.findKey k (.int .i64 x) es.toList).run P w = .ok (fndM M x 0) w := by
  simp [Instr.findKey, run_underlying hk, find_now es.toList M x 0 .i64 he]
theorem imap_lookup (h : IMap w b M) (ht : P.underlying t = some (.map k e)) (hk : P.underlying k = some (.int .i64)) {z : Value} (hz : (zeroValue e).run P w = .ok z w) (x : Int) (ok : Bool) :
    (Instr.lookup t (.map (some b)) (.int .i64 x) ok).run P w = .ok (if ok then .tuple #[(M.get x).getD z, .bool (M.get x).isSome] else (M.get x).getD z) w := by
  obtain ⟨es, c, hb, _, he⟩ := h
  have hg : (getObj b).run P w = .ok (.map es c) w := by simp [getObj, Sem.run, hb]
  simp only [Instr.lookup, Sem.run_bind, run_underlying ht, Result.andThen_ok, hg, Sem.run_pure, run_check hk, run_find hk he]
  rw [← fndM_get M x 0]
  cases fndM M x 0 with
  | none => simp [hz]
  | some r => simp
theorem imap_len (h : IMap w b M) (ht : P.underlying t = some (.map k e)) (ty : TypeId) : (Builtin.len_ #[t] ty #[.map (some b)]).run P w = .ok (.int .i64 M.length) w := by
  obtain ⟨es, c, hb, _, he⟩ := h
  have hg : (getObj b).run P w = .ok (.map es c) w := by simp [getObj, Sem.run, hb]
  have hl : es.size = M.length := by have := congrArg List.length he; simpa using this
  simp [Builtin.len_, run_underlying ht, hg, hl, goInt]
theorem put_some : ∀ (M : IM) (x : Int) (v : Value) (n i : Nat) (u : Value), fndM M x n = some (i, u) → n ≤ i ∧ i - n < M.length ∧ (M[i - n]?).map (·.1) = some x ∧ M.put x v = M.set (i - n) (x, v)
  | [], x, v, n, i, u, h => by cases h
  | p :: M, x, v, n, i, u, h => by
    unfold fndM at h
    unfold IM.put
    by_cases hx : (p.1 == x) = true
    · rw [if_pos hx] at h ⊢
      injection h with h; injection h with h1 h2
      subst h1
      exact ⟨Nat.le_refl _, by simp, by simpa using hx, by simp⟩
    · rw [if_neg hx] at h ⊢
      obtain ⟨q1, q2, q3, q4⟩ := put_some M x v (n + 1) i u h
      have e : i - n = (i - (n + 1)) + 1 := by omega
      refine ⟨by omega, by rw [e]; simp; omega, by rw [e]; simpa using q3, ?_⟩
      rw [e, q4]; rfl
theorem put_none : ∀ (M : IM) (x : Int) (v : Value) (n : Nat), fndM M x n = none → M.put x v = M ++ [(x, v)] ∧ ∀ p ∈ M, p.1 ≠ x
  | [], x, v, n, h => ⟨rfl, by simp⟩
  | p :: M, x, v, n, h => by
    unfold fndM at h
    unfold IM.put
    by_cases hx : (p.1 == x) = true
    · rw [if_pos hx] at h; cases h
    · rw [if_neg hx] at h ⊢
      obtain ⟨q1, q2⟩ := put_none M x v (n + 1) h
      exact ⟨by rw [q1]; rfl, fun q hq => by
        rcases List.mem_cons.1 hq with rfl | hq
        · simpa using hx
        · exact q2 q hq⟩
theorem del_some : ∀ (M : IM) (x : Int) (n i : Nat) (u : Value), (M.map (·.1)).Nodup → fndM M x n = some (i, u) → n ≤ i ∧ i - n < M.length ∧ M.del x = M.eraseIdx (i - n)
  | [], x, n, i, u, _, h => by cases h
  | p :: M, x, n, i, u, nd, h => by
    unfold fndM at h
    unfold IM.del
    have nd' := List.nodup_cons.1 nd
    by_cases hx : (p.1 == x) = true
    · rw [if_pos hx] at h
      injection h with h; injection h with h1 h2
      subst h1
      have hx' : p.1 = x := by simpa using hx
      refine ⟨Nat.le_refl _, by simp, ?_⟩
      simp only [List.filter_cons, hx, Bool.not_true, Bool.false_eq_true, if_false, Nat.sub_self, List.eraseIdx_cons_zero]
      refine List.filter_eq_self.2 fun q hq => ?_
      have : q.1 ≠ x := fun e => nd'.1 (by
        have h9 : p.1 = q.1 := hx'.trans e.symm
        show p.1 ∈ M.map (·.1)
        rw [h9]; exact List.mem_map_of_mem hq)
      simpa using this
    · rw [if_neg hx] at h
      obtain ⟨q1, q2, q3⟩ := del_some M x (n + 1) i u nd'.2 h
      have e : i - n = (i - (n + 1)) + 1 := by omega
      refine ⟨by omega, by rw [e]; simp; omega, ?_⟩
      unfold IM.del at q3
      rw [e, List.eraseIdx_cons_succ, ← q3, List.filter_cons, if_pos (by simpa using hx)]
theorem del_none : ∀ (M : IM) (x : Int) (n : Nat), fndM M x n = none → M.del x = M := fun M x n h => by
  have := (put_none M x (.bool true) n h).2
  unfold IM.del
  refine List.filter_eq_self.2 fun q hq => ?_
  simpa using this q hq
theorem run_setMap {es es' : Array MapEntry} {c c' : Nat} (hb : w.heap[b]? = some (.map es c)) : (setObj b (.map es' c')).run P w = .ok () { w with heap := w.heap.setIfInBounds b (.map es' c') } := by
  simp [setObj, Sem.run, hb]
theorem ch_setObj {w : World} {b : Nat} (o : Obj) : Ch (· = b) w { w with heap := w.heap.setIfInBounds b o } :=
  ⟨rfl, rfl, rfl, by simp, fun k _ hn => by simp only [Array.getElem?_setIfInBounds]; rw [if_neg (fun e => hn e.symm)]⟩
theorem heap_setObj {w : World} {b : Nat} (o : Obj) (hb : b < w.heap.size) : ({ w with heap := w.heap.setIfInBounds b o } : World).heap[b]? = some o := by simp [hb]
theorem imap_update (h : IMap w b M) (ht : P.underlying t = some (.map k e)) (hk : P.underlying k = some (.int .i64)) (x : Int) (v : Value) :
    ∃ w', (Instr.mapUpdate t (.map (some b)) (.int .i64 x) v).run P w = .ok () w' ∧ IMap w' b (M.put x v) ∧ Ch (· = b) w w' ∧ w'.heap.size = w.heap.size := by
  have hlt := h.lt
  obtain ⟨es, c, hb, hs, he⟩ := h
  have hg : (getObj b).run P w = .ok (.map es c) w := by simp [getObj, Sem.run, hb]
  cases hf : fndM M x 0 with
  | none =>
    obtain ⟨hp, hne⟩ := put_none M x v 0 hf
    refine ⟨_, ?_, ?_, ch_setObj (.map (es.push { key := .int .i64 x, val := v, born := c }) (c + 1)), by simp⟩
    · simp only [Instr.mapUpdate, Sem.run_bind, run_underlying ht, Result.andThen_ok, hg, run_check hk, run_find hk he, hf]
      exact run_setMap hb
    · refine ⟨_, _, heap_setObj _ hlt, MapKept.stamped_push hs fun q hq => ?_, ?_⟩
      · have hm : (q.key, q.val) ∈ M.map fun p => (Value.int .i64 p.1, p.2) := by rw [← he]; exact List.mem_map.2 ⟨q, hq, rfl⟩
        obtain ⟨p, hp1, hp2⟩ := List.mem_map.1 hm
        injection hp2 with hp2 _
        rw [← hp2]
        exact fun e => hne p hp1 (by injection e)
      · rw [hp]; simp [he]
  | some r =>
    obtain ⟨i, u⟩ := r
    obtain ⟨_, hi, hx, hp⟩ := put_some M x v 0 i u hf
    simp only [Nat.sub_zero] at hi hx hp
    have hsz : es.size = M.length := by have := congrArg List.length he; simpa using this
    have hei : es[i]? = some es[i] := Array.getElem?_eq_getElem (by omega)
    have hkey : es[i].key = .int .i64 x := by
      have h1 := congrArg (·[i]?) he
      simp only [List.getElem?_map, Array.getElem?_toList, hei, Option.map_some] at h1
      cases hm : M[i]? with
      | none => rw [hm] at hx; cases hx
      | some p =>
        rw [hm] at hx h1
        simp only [Option.map_some, Option.some.injEq, Prod.mk.injEq] at hx h1
        rw [h1.1, hx]
    refine ⟨_, ?_, ?_, ch_setObj (.map (es.modify i fun en => { en with key := .int .i64 x, val := v }) c), by simp⟩
    · have hst : (Instr.keyThatStays (((es[i]?).map (·.key)).getD (.int .i64 x)) (.int .i64 x)).run P w = .ok (.int .i64 x) w := by
        rw [hei]
        simp only [Option.map_some, Option.getD_some, hkey]
        simp [Instr.keyThatStays, Instr.sameBits]
      simp only [Instr.mapUpdate, Sem.run_bind, run_underlying ht, Result.andThen_ok, hg, run_check hk, run_find hk he, hf, hst]
      exact run_setMap hb
    · refine ⟨_, _, heap_setObj _ hlt, MapKept.stamped_modify hs i _ (fun _ _ => rfl) (fun en hen he2 => ?_), ?_⟩
      · rw [hei] at he2; injection he2 with he2; subst he2; rw [hkey]
      · rw [hp]
        apply List.ext_getElem?
        intro j
        simp only [List.getElem?_map, Array.getElem?_toList, Array.getElem?_modify, List.getElem?_set]
        have hj := congrArg (·[j]?) he
        simp only [List.getElem?_map, Array.getElem?_toList] at hj
        by_cases hij : i = j
        · subst hij; simp [hei, hi]
        · simp [hij, hj]
theorem imap_delete (h : IMap w b M) (ht : P.underlying t = some (.map k e)) (hk : P.underlying k = some (.int .i64)) (x : Int) (ty : TypeId) :
    ∃ w', (Builtin.delete_ #[t, k] ty #[.map (some b), .int .i64 x]).run P w = .ok (.tuple #[]) w' ∧ IMap w' b (M.del x) ∧ Ch (· = b) w w' ∧ w'.heap.size = w.heap.size := by
  have hlt := h.lt
  have nd := h.nodup
  obtain ⟨es, c, hb, hs, he⟩ := h
  have hg : (getObj b).run P w = .ok (.map es c) w := by simp [getObj, Sem.run, hb]
  have hch : (Instr.checkKey es.isEmpty 10000 k (.int .i64 x)).run P w = .ok () w := run_check hk _ 9999 x
  cases hf : fndM M x 0 with
  | none =>
    refine ⟨_, ?_, ?_, ch_setObj (.map es c), by simp⟩
    · simp [Builtin.delete_, run_underlying ht, hg, hch, run_find hk he, hf, run_setMap hb]
    · exact ⟨_, _, heap_setObj _ hlt, hs, by rw [del_none M x 0 hf]; exact he⟩
  | some r =>
    obtain ⟨i, u⟩ := r
    obtain ⟨_, hi, hp⟩ := del_some M x 0 i u nd hf
    simp only [Nat.sub_zero] at hi hp
    have hsz : es.size = M.length := by have := congrArg List.length he; simpa using this
    refine ⟨_, ?_, ?_, ch_setObj (.map (es.eraseIdxIfInBounds i) c), by simp⟩
    · simp [Builtin.delete_, run_underlying ht, hg, hch, run_find hk he, hf, run_setMap hb]
    · refine ⟨_, _, heap_setObj _ hlt, MapKept.stamped_erase hs i, ?_⟩
      rw [hp]
      unfold Array.eraseIdxIfInBounds
      rw [dif_pos (by omega), Array.toList_eraseIdx, ← erase_map, he, erase_map]
end
/-! What the words on maps say -/
theorem IM.get_put (M : IM) (x y : Int) (v : Value) : (M.put x v).get y = if y = x then some v else M.get y := by
  induction M with
  | nil =>
    unfold IM.put IM.get
    by_cases h : y = x
    · subst h; simp
    · have h1 : (x == y) = false := by simpa using fun e : x = y => h e.symm
      simp [h, h1]
  | cons p M ih =>
    unfold IM.put
    unfold IM.get at ih ⊢
    by_cases hp : (p.1 == x) = true
    · rw [if_pos hp]
      have hp' : p.1 = x := by simpa using hp
      by_cases h : y = x
      · subst h; simp
      · have h1 : (x == y) = false := by simpa using fun e : x = y => h e.symm
        simp [h1, h, hp']
    · rw [if_neg hp]
      by_cases h1 : (p.1 == y) = true
      · have hy : p.1 = y := by simpa using h1
        have hne : y ≠ x := fun e => hp (by simp [hy, e])
        simp [h1, hne]
      · simp only [List.find?_cons, h1]
        exact ih
theorem IM.get_del (M : IM) (x y : Int) : (M.del x).get y = if y = x then none else M.get y := by
  induction M with
  | nil => simp [IM.del, IM.get]
  | cons p M ih =>
    unfold IM.del IM.get at ih ⊢
    by_cases hp : (p.1 == x) = true
    · have hp' : p.1 = x := by simpa using hp
      rw [List.filter_cons, if_neg (by simp [hp]), ih]
      by_cases h : y = x
      · simp [h]
      · have h1 : (p.1 == y) = false := by rw [hp']; simpa using fun e : x = y => h e.symm
        simp [h, h1]
    · rw [List.filter_cons, if_pos (by simpa using hp)]
      by_cases h1 : (p.1 == y) = true
      · have hy : p.1 = y := by simpa using h1
        have hne : y ≠ x := fun e => hp (by simp [hy, e])
        simp [h1, hne]
      · simp only [List.find?_cons, h1]
        exact ih
theorem IM.length_put (M : IM) (x : Int) (v : Value) : (M.put x v).length = if (M.get x).isSome then M.length else M.length + 1 := by
  induction M with
  | nil => simp [IM.put, IM.get]
  | cons p M ih =>
    unfold IM.put
    unfold IM.get at ih ⊢
    by_cases hp : (p.1 == x) = true
    · simp [hp]
    · rw [if_neg hp]
      simp only [List.length_cons, List.find?_cons, hp]
      rw [ih]
      split <;> simp_all
end Go.Proofs.Ythbbiobffoihaaa
