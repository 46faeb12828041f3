import Derived.Deep.QuietTactic
import Derived.BigQuiet
import Derived.BigCall
/- A region in any order, walked once in the order of the text. -/
namespace Go.Proofs.Ythbbiobffoihaaa
open Go

/-- The frame after the first k operations of the text, of those that D lists. -/
def fr (ops : Array Oper) (val : Nat → Value) (df : List Deferred) (T : Array Value) (D : Nat → Bool) : Nat → Act
  | 0 => ⟨T, df⟩
  | k + 1 => match ops[k]? with
    | some o => if D k then (fr ops val df T D k).put o.dst (val k) else fr ops val df T D k
    | none => fr ops val df T D k

theorem fr_succ (ops : Array Oper) (val : Nat → Value) (df : List Deferred) (T : Array Value) (D : Nat → Bool) (k : Nat) : fr ops val df T D (k + 1) = match ops[k]? with
    | some o => if D k then (fr ops val df T D k).put o.dst (val k) else fr ops val df T D k
    | none => fr ops val df T D k := rfl

/-- What an operation does, where it returns: the value v, and R of the world. -/
def OpDoes (P : Program) (o : Oper) (a : Act) (w : World) (v : Value) (R : World → Prop) : Prop :=
  o.wp P a w (fun a' w' => a' = a.put o.dst v ∧ R w') fun _ _ _ => False

theorem put_same {a a2 : Act} {d : Option Tmp} {u v : Value} (hs : a2.tmps.size = a.tmps.size) (h : a.put d u = a.put d v) : a2.put d u = a2.put d v := by
  cases d with
  | none => rfl
  | some d =>
    simp only [Act.put] at h ⊢
    injection h with h _
    congr 1
    by_cases hd : d < a.tmps.size
    · have := congrArg (·[d]?) h
      simp [hd] at this
      rw [this]
    · apply Array.ext_getElem?
      intro j
      simp only [Array.getElem?_setIfInBounds, hs]
      split <;> simp_all

def bef (ops : Array Oper) : Array Nat := Region.before ops

/-- The bits tell, for each operation, all that must come before it. -/
def befOK (ops : Array Oper) (b : Array Nat) : Bool :=
  (List.range ops.size).all fun i => match ops[i]? with
    | none => true
    | some o => (List.range ops.size).all fun j => !(b.getD i 0).testBit j || o.after.any fun e => Region.binds .any e && (e.on == j || (b.getD e.on 0).testBit j) && decide (e.on < i)

/-- Each slot that an operation names is written only by those whose place, ahead of it or behind it, is sure. -/
def slotsOK (ops : Array Oper) (b : Array Nat) : Bool :=
  (List.range ops.size).all fun i => match ops[i]? with
    | none => true
    | some o => (List.range ops.size).all fun j => match ops[j]? with
      | none => true
      | some p => match p.dst with
        | none => true
        | some d => j == i || !((o.looksAt ops).contains d || o.dst == some d) || (if j < i then (b.getD i 0).testBit j else (b.getD j 0).testBit i)

def noSel (ops : Array Oper) : Bool := ops.all fun o => match o.op with | .select .. => false | .defer .. => false | _ => true

variable {P : Program} {ops : Array Oper} {Q : Exit → Act → World → Prop}

/-- Closed: what must come before a listed one is listed. -/
def Closed (ops : Array Oper) (D : Nat → Bool) : Prop := ∀ i o, ops[i]? = some o → D i = true → ∀ e ∈ o.after, Region.binds .any e = true → D e.on = true

theorem bef_closed {b : Array Nat} (hb : befOK ops b = true) {D : Nat → Bool} (hc : Closed ops D) :
    ∀ (i : Nat) (o : Oper), ops[i]? = some o → (∀ e ∈ o.after, Region.binds .any e = true → D e.on = true) → ∀ j, j < ops.size → (b.getD i 0).testBit j = true → D j = true := by
  intro i
  induction i using Nat.strongRecOn with
  | _ i ih =>
    intro o ho hall j hj hbit
    have hi : i < ops.size := (Array.getElem?_eq_some_iff.1 ho).1
    have h1 := List.all_eq_true.1 hb i (List.mem_range.2 hi)
    simp only [ho] at h1
    have h2 := List.all_eq_true.1 h1 j (List.mem_range.2 hj)
    rw [hbit] at h2
    simp only [Bool.not_true, Bool.false_or, Array.any_eq_true'] at h2
    obtain ⟨e, he, h3⟩ := h2
    simp only [Bool.and_eq_true, Bool.or_eq_true, decide_eq_true_eq, beq_iff_eq] at h3
    obtain ⟨⟨hbind, h4⟩, hlt⟩ := h3
    have hde := hall e he hbind
    rcases h4 with h4 | h4
    · rw [← h4]; exact hde
    · have hlt' : e.on < ops.size := by omega
      have hoe : ops[e.on]? = some ops[e.on] := Array.getElem?_eq_getElem hlt'
      exact ih e.on hlt _ hoe (fun e' he' hb' => hc e.on _ hoe hde e' he' hb') j hj h4

section
variable {val : Nat → Value} {df : List Deferred} {T : Array Value}

theorem fr_defers (D : Nat → Bool) : ∀ k, (fr ops val df T D k).defers = df
  | 0 => rfl
  | k + 1 => by
    rw [fr_succ]
    split
    · split
      · rename_i o _ _; have := fr_defers D k; cases h : o.dst <;> simp [Act.put, this]
      · exact fr_defers D k
    · exact fr_defers D k
/-- A slot of the frame hangs on the listed ones that write it. -/
theorem fr_slot (D D2 : Nat → Bool) (t : Nat) : ∀ k, (∀ j o, j < k → ops[j]? = some o → o.dst = some t → D j = D2 j) →
    (fr ops val df T D k).tmps[t]? = (fr ops val df T D2 k).tmps[t]?
      ∧ (fr ops val df T D k).tmps.size = (fr ops val df T D2 k).tmps.size
  | 0, _ => ⟨rfl, rfl⟩
  | k + 1, h => by
    have ih := fr_slot D D2 t k (fun j o hj => h j o (by omega))
    rw [fr_succ, fr_succ]
    cases ho : ops[k]? with
    | none => exact ih
    | some o =>
      simp only
      have hs : ∀ (a : Act) v, (a.put o.dst v).tmps.size = a.tmps.size := fun a v => by cases hd : o.dst <;> simp [Act.put]
      have hp : ∀ (a : Act) v, o.dst ≠ some t → (a.put o.dst v).tmps[t]? = a.tmps[t]? := fun a v hne => by
        cases hd : o.dst with
        | none => rfl
        | some d => simp only [Act.put]; exact Array.getElem?_setIfInBounds_ne (fun e => hne (by rw [hd, e]))
      by_cases hd : o.dst = some t
      · have := h k o (by omega) ho hd
        rw [this]
        split
        · refine ⟨?_, by rw [hs, hs]; exact ih.2⟩
          simp only [hd, Act.put]
          rw [Array.getElem?_setIfInBounds, Array.getElem?_setIfInBounds]
          simp [ih.2]
        · exact ih
      · refine ⟨?_, ?_⟩
        · cases D k <;> cases D2 k <;> simp [hp _ _ hd, ih.1]
        · cases D k <;> cases D2 k <;> simp [hs, ih.2]
theorem fr_size (D : Nat → Bool) (k : Nat) : (fr ops val df T D k).tmps.size = T.size := by
  induction k with
  | zero => rfl
  | succ k ih =>
    rw [fr_succ]
    split
    · split
      · rename_i o _ _; cases hd : o.dst <;> simp [Act.put, ih]
      · exact ih
    · exact ih
theorem act_ext {a b : Act} (h1 : ∀ t : Nat, a.tmps[t]? = b.tmps[t]?) (h2 : a.defers = b.defers) : a = b := by
  obtain ⟨x, d⟩ := a; obtain ⟨y, e⟩ := b
  simp only at h1 h2
  subst h2
  congr 1
  exact Array.ext_getElem? h1
/-- Behind the first k the frame hangs on these alone. -/
theorem fr_congr (D D2 : Nat → Bool) (k : Nat) (h : ∀ j, j < k → D j = D2 j) : fr ops val df T D k = fr ops val df T D2 k :=
  act_ext (fun t => (fr_slot D D2 t k (fun j _ hj _ _ => h j hj)).1) (by rw [fr_defers, fr_defers])
/-- To list only what lies ahead of i is the frame of the text at i. -/
theorem fr_cut (i : Nat) : ∀ n, fr ops val df T (fun j => decide (j < i)) (i + n) = fr ops val df T (fun j => decide (j < i)) i
  | 0 => rfl
  | n + 1 => by
    show fr ops val df T _ ((i + n) + 1) = _
    rw [fr_succ]
    split
    · rw [if_neg (by simp)]; exact fr_cut i n
    · exact fr_cut i n
/-- To put one more, in whatever place, is the frame with it listed. -/
theorem fr_put {D : Nat → Bool} {i : Nat} {o : Oper} (ho : ops[i]? = some o) (hD : D i = false) : ∀ n, (∀ j p, i < j → ops[j]? = some p → p.dst.isSome → p.dst = o.dst → D j = false) →
    (fr ops val df T D (i + 1 + n)).put o.dst (val i) = fr ops val df T (fun j => D j || j == i) (i + 1 + n)
  | 0, _ => by
    rw [Nat.add_zero, fr_succ, fr_succ, ho]
    simp only [hD, Bool.false_eq_true, if_false, Bool.false_or, beq_self_eq_true, if_true]
    rw [fr_congr D (fun j => D j || j == i) i (fun j hj => by simp; omega)]
  | n + 1, h => by
    have ih := fr_put ho hD n h
    show (fr ops val df T D ((i + 1 + n) + 1)).put o.dst (val i) = fr ops val df T _ ((i + 1 + n) + 1)
    rw [fr_succ, fr_succ]
    have hne : ((i + 1 + n) == i) = false := by simp; omega
    cases hp : ops[i + 1 + n]? with
    | none => exact ih
    | some p =>
      simp only [hne, Bool.or_false]
      by_cases hd : D (i + 1 + n) = true
      · rw [if_pos hd, if_pos hd, ← ih]
        refine Act.put_comm _ _ _ (fun d hd1 hd2 => ?_)
        have := h (i + 1 + n) p (by omega) hp (by rw [hd1]; rfl) (by rw [hd1, hd2])
        rw [this] at hd; cases hd
      · rw [if_neg hd, if_neg hd]; exact ih
end


def upd (D : Nat → Bool) (i : Nat) : Nat → Bool := fun j => D j || j == i

/-- What is to be shown of operation i, at the frame that the text has there. -/
def StepOK (P : Program) (ops : Array Oper) (b : Array Nat) (K : (Nat → Bool) → World → Prop) (i : Nat) (o : Oper) (a : Act) (v : Value) : Prop :=
  if Region.wanted o (yielded ops a.tmps) then ∀ D w, (∀ j, j < ops.size → (b.getD i 0).testBit j = true → D j = true) → (∀ j, j < ops.size → (b.getD j 0).testBit i = true → D j = false) → D i = false → K D w → OpDoes P o a w v fun w' => K (upd D i) w'
  else v = undef ∧ ∀ D w, (∀ j, j < ops.size → (b.getD i 0).testBit j = true → D j = true) → (∀ j, j < ops.size → (b.getD j 0).testBit i = true → D j = false) → D i = false → K D w → K (upd D i) w

def unl (n : Nat) (listed : Array Bool) : Nat := (List.range n).countP fun i => !listed.getD i false

theorem unl_set {n i : Nat} {listed : Array Bool} (hi : i < n) (hs : listed.size = n) (hl : listed.getD i false = false) : unl n (listed.setIfInBounds i true) + 1 = unl n listed := by
  unfold unl
  have key : ∀ l : List Nat, l.Nodup → (i ∈ l → (l.countP fun j => !(listed.setIfInBounds i true).getD j false) + 1 = l.countP fun j => !listed.getD j false)
      ∧ (i ∉ l → (l.countP fun j => !(listed.setIfInBounds i true).getD j false) = l.countP fun j => !listed.getD j false) := by
    intro l
    induction l with
    | nil => intro _; exact ⟨(fun h => by cases h), fun _ => rfl⟩
    | cons x l ih =>
      intro hn
      have hn2 := List.nodup_cons.1 hn
      obtain ⟨h1, h2⟩ := ih hn2.2
      constructor
      · intro hm
        by_cases hx : i = x
        · subst hx
          rw [List.countP_cons, List.countP_cons, h2 hn2.1]
          have : (listed.setIfInBounds i true).getD i false = true := by
            simp [Array.getD, hs, hi]
          simp [this, hl]
        · have hm2 : i ∈ l := by rcases List.mem_cons.1 hm with h | h; exact absurd h hx; exact h
          rw [List.countP_cons, List.countP_cons, getD_set_ne false hx, ← h1 hm2]
          omega
      · intro hm
        have hx : i ≠ x := fun e => hm (by simp [e])
        rw [List.countP_cons, List.countP_cons, getD_set_ne false hx, h2 (fun h => hm (by simp [h]))]
  exact (key _ (List.nodup_range)).1 (List.mem_range.2 hi)

/-- What holds on the way through the region, whatever the order. -/
structure Way (ops : Array Oper) (val : Nat → Value) (df : List Deferred) (T : Array Value) (K : (Nat → Bool) → World → Prop) (listed : Array Bool) (a : Act) (w : World) : Prop where
  size : listed.size = ops.size
  closed : Closed ops fun i => listed.getD i false
  frame : a = fr ops val df T (fun i => listed.getD i false) ops.size
  holds : K (fun i => listed.getD i false) w

theorem way_step {b : Array Nat} (hb : befOK ops b = true) (hso : slotsOK ops b = true) (hns : noSel ops = true) {val : Nat → Value} {df : List Deferred} {T : Array Value}
    {K : (Nat → Bool) → World → Prop}
    (hK : ∀ i o, ops[i]? = some o → StepOK P ops b K i o (fr ops val df T (fun j => decide (j < i)) i) (val i))
    {listed : Array Bool} {a : Act} {w : World} (h : Way ops val df T K listed a w) {i : Nat} (hi : i ∈ Region.ready .any ops listed) :
    wpOp P ops Q i (Way ops val df T K (listed.setIfInBounds i true)) a w := by
  obtain ⟨hl, o, ho, hall⟩ := mem_ready.1 hi
  have hlt : i < ops.size := (Array.getElem?_eq_some_iff.1 ho).1
  have hl0 : listed.getD i false = false := by
    have := h.size
    simp [Array.getD, this, hlt] at hl ⊢
    exact hl
  have hDs : (fun j => (listed.setIfInBounds i true).getD j false) = upd (fun j => listed.getD j false) i := by
    funext j
    unfold upd
    by_cases e : i = j
    · subst e; simp [Array.getD, h.size, hlt]
    · rw [getD_set_ne false e]; simp [Ne.symm e]
  have hpre : ∀ j, j < ops.size → (b.getD i 0).testBit j = true → (fun j => listed.getD j false) j = true := bef_closed hb h.closed i o ho hall
  have hcl : Closed ops fun j => (listed.setIfInBounds i true).getD j false := by
    intro j p hp hj e he hbind
    by_cases hij : i = j
    · subst hij
      rw [ho] at hp; injection hp with hp; subst hp
      exact getD_set_true (hall e he hbind)
    · have hj' : listed.getD j false = true := by
        have hj2 : (listed.setIfInBounds i true).getD j false = true := hj
        rw [getD_set_ne false hij] at hj2; exact hj2
      exact getD_set_true (h.closed j p hp hj' e he hbind)
  have hbefore : ∀ j p, ops[j]? = some p → listed.getD j false = true → ∀ k, k < ops.size → (b.getD j 0).testBit k = true → listed.getD k false = true := fun j p hp hj k hk hbit =>
    bef_closed hb h.closed j p hp (h.closed j p hp hj) k hk hbit
  have hpost : ∀ j, j < ops.size → (b.getD j 0).testBit i = true → (fun j => listed.getD j false) j = false := fun j hj hbit => by
    cases hx : listed.getD j false with
    | false => exact hx
    | true =>
      have := hbefore j _ (Array.getElem?_eq_getElem hj) hx i hlt hbit
      rw [hl0] at this; cases this
  have hsi := List.all_eq_true.1 hso i (List.mem_range.2 hlt)
  simp only [ho] at hsi
  have hslot : ∀ t, t ∈ o.looksAt ops ∨ o.dst = some t → ∀ j p, ops[j]? = some p → p.dst = some t → j ≠ i → listed.getD j false = decide (j < i) := by
    intro t ht j p hp hd hne
    have hj : j < ops.size := (Array.getElem?_eq_some_iff.1 hp).1
    have h1 := List.all_eq_true.1 hsi j (List.mem_range.2 hj)
    simp only [hp, hd] at h1
    have hn : (j == i) = false := by simp [hne]
    have hin : ((o.looksAt ops).contains t || o.dst == some t) = true := by
      rcases ht with ht | ht
      · simp [ht]
      · simp [ht]
    rw [hn, hin] at h1
    simp only [Bool.not_true, Bool.false_or] at h1
    by_cases hji : j < i
    · rw [if_pos hji] at h1
      rw [decide_eq_true hji]; exact hpre j hj h1
    · rw [if_neg hji] at h1
      rw [decide_eq_false hji]
      cases hx : listed.getD j false with
      | false => rfl
      | true =>
        have := hbefore j p hp hx i hlt h1
        rw [hl0] at this; cases this
  have hput : (a.put o.dst (val i)) = fr ops val df T (fun j => (listed.setIfInBounds i true).getD j false) ops.size := by
    obtain ⟨n, hn⟩ : ∃ n, ops.size = i + 1 + n := ⟨ops.size - (i + 1), by omega⟩
    rw [h.frame, hDs, hn]
    refine fr_put ho hl0 n fun j p hj hp hs hd => ?_
    obtain ⟨t, ht⟩ := Option.isSome_iff_exists.1 hs
    have := hslot t (.inr (by rw [← hd, ht])) j p hp ht (by omega)
    rw [this]; simp; omega
  have hsl : ∀ t, t ∈ o.looksAt ops → a.tmps[t]? = (fr ops val df T (fun j => decide (j < i)) i).tmps[t]? := by
    intro t ht
    rw [h.frame]
    obtain ⟨n, hn⟩ : ∃ n, ops.size = i + n := ⟨ops.size - i, by omega⟩
    rw [← fr_cut i n, ← hn]
    refine (fr_slot _ _ t ops.size fun j p _ hp hd => ?_).1
    by_cases hji : j = i
    · subst hji; rw [hl0]; simp
    · exact hslot t (.inl ht) j p hp hd hji
  have hevals : execOp a.eval o = execOp (fr ops val df T (fun j => decide (j < i)) i).eval o := by
    refine execOp_congr o (fun cs bb => ?_) fun x hx => ?_
    · intro e
      have := Array.all_eq_true_iff_forall_mem.1 hns o (Array.mem_of_getElem? ho)
      rw [e] at this; cases this
    · cases x with
      | tmp t =>
        have := hsl t (List.mem_append_left _ (List.mem_filterMap.2 ⟨.tmp t, by simpa using hx, rfl⟩))
        simp only [Act.eval, Array.getD_eq_getD_getElem?, this]
      | _ => rfl
  have hwant : Region.wanted o (yielded ops a.tmps) = Region.wanted o (yielded ops (fr ops val df T (fun j => decide (j < i)) i).tmps) := by
    unfold Region.wanted
    cases hg : o.guard with
    | none => rfl
    | some gw =>
      obtain ⟨g, want⟩ := gw
      simp only
      congr 1
      unfold yielded
      cases ht : (ops[g]?).bind (·.dst) with
      | none => rfl
      | some t =>
        have := hsl t (List.mem_append_right _ (by simp [hg, ht]))
        simp only [Option.bind_some, this]
  have hstep := hK i o ho
  unfold StepOK at hstep
  rw [← hwant] at hstep
  have fin : ∀ w', K (upd (fun j => listed.getD j false) i) w' → Way ops val df T K (listed.setIfInBounds i true) (a.put o.dst (val i)) w' := fun w' hw' =>
    ⟨by simp [h.size], hcl, hput, by rw [hDs]; exact hw'⟩
  unfold wpOp
  simp only [ho]
  split
  · rename_i hw
    rw [if_pos hw] at hstep
    have h1 := hstep _ w hpre hpost hl0 h.holds
    refine .inl ?_
    have hsz : a.tmps.size = (fr ops val df T (fun j => decide (j < i)) i).tmps.size := by rw [h.frame, fr_size, fr_size]
    unfold OpDoes at h1
    unfold Oper.wp at h1 ⊢
    rw [← hevals] at h1
    have hnd := Array.all_eq_true_iff_forall_mem.1 hns o (Array.mem_of_getElem? ho)
    have hpp : ∀ v' w', (fr ops val df T (fun j => decide (j < i)) i).put o.dst v' = (fr ops val df T (fun j => decide (j < i)) i).put o.dst (val i) → K (upd (fun j => listed.getD j false) i) w' → Way ops val df T K (listed.setIfInBounds i true) (a.put o.dst v') w' := fun v' w' e h2 => by
      rw [put_same hsz e]; exact fin _ h2
    generalize hr : (execOp a.eval o).run P w = r at h1
    cases r with
    | ok n w' =>
      cases n <;> first | exact h1.elim | skip
      case value v => exact hpp _ _ h1.1 h1.2
      case skip => exact hpp _ _ h1.1 h1.2
      case enter f args =>
        refine Calls.mono (P := P) h1 fun e w'' he => ?_
        cases e with
        | returned v => exact hpp _ _ he.1 he.2
        | panicked c => exact he.elim
        | outgrown => obtain ⟨_, _, h9⟩ := he; exact h9.elim
      case row row args =>
        refine Rows.mono h1 fun v w'' he => ?_
        exact hpp _ _ he.1 he.2
      case defer d =>
        exfalso
        have h3 := congrArg Act.defers h1.1
        have : ∀ (x : Act) (u : Value), (x.put o.dst u).defers = x.defers := fun x u => by cases o.dst <;> rfl
        rw [this, this] at h3
        have h4 := congrArg List.length h3
        simp at h4
    | halt x w' => cases x <;> exact h1.elim
  · rename_i hw
    rw [if_neg hw] at hstep
    obtain ⟨hv, h1⟩ := hstep
    have := fin w (h1 _ w hpre hpost hl0 h.holds)
    rw [hv] at this
    exact this

theorem way_all {b : Array Nat} (hb : befOK ops b = true) (hso : slotsOK ops b = true) (hns : noSel ops = true) (hlow : (ops.toList.zipIdx.all fun (o, i) => o.after.all fun e => !Region.binds .any e || decide (e.on < i)) = true)
    {val : Nat → Value} {df : List Deferred} {T : Array Value} {K : (Nat → Bool) → World → Prop}
    (hK : ∀ i o, ops[i]? = some o → StepOK P ops b K i o (fr ops val df T (fun j => decide (j < i)) i) (val i))
    (hend : ∀ w, K (fun i => decide (i < ops.size)) w → Q .normal (fr ops val df T (fun j => decide (j < ops.size)) ops.size) w) :
    ∀ (fuel : Nat) (listed : Array Bool) (a : Act) (w : World), unl ops.size listed ≤ fuel → Way ops val df T K listed a w → wpAny P .any ops Q fuel listed a w := by
  have done : ∀ (listed : Array Bool) (a : Act) (w : World), Way ops val df T K listed a w → Region.ready .any ops listed = [] → Q .normal a w := by
    intro listed a w h hr
    have hallL : ∀ i, i < ops.size → listed.getD i false = true := by
      intro i
      induction i using Nat.strongRecOn with
      | _ i ih =>
        intro hi
        cases hx : listed.getD i false with
        | true => rfl
        | false =>
          have ho : ops[i]? = some ops[i] := Array.getElem?_eq_getElem hi
          have hm : i ∈ Region.ready .any ops listed := by
            refine mem_ready.2 ⟨?_, _, ho, fun e he hbind => ?_⟩
            · have := h.size
              simp [Array.getD, this, hi] at hx ⊢
              exact hx
            · have hz : (ops[i], i) ∈ ops.toList.zipIdx := by
                rw [List.mem_zipIdx_iff_getElem?]; simp
              have h1 := List.all_eq_true.1 hlow _ hz
              have h2 := Array.all_eq_true_iff_forall_mem.1 h1 e he
              rw [hbind] at h2
              have h3 : e.on < i := by simp at h2; exact h2
              exact ih e.on h3 (by omega)
          rw [hr] at hm; cases hm
    have hD : (fun i => listed.getD i false) = fun i => decide (i < ops.size) := by
      funext i
      by_cases hi : i < ops.size
      · rw [hallL i hi, decide_eq_true hi]
      · rw [decide_eq_false hi]; have := h.size; simp [Array.getD, this, hi]
    have h1 := h.holds
    have h2 := h.frame
    rw [hD] at h1 h2
    rw [h2]
    exact hend w h1
  intro fuel
  induction fuel with
  | zero =>
    intro listed a w hf h
    have hr : Region.ready .any ops listed = [] := by
      cases hr : Region.ready .any ops listed with
      | nil => rfl
      | cons i l =>
        have hm : i ∈ Region.ready .any ops listed := by rw [hr]; simp
        obtain ⟨hl, o, ho, _⟩ := mem_ready.1 hm
        have hlt : i < ops.size := (Array.getElem?_eq_some_iff.1 ho).1
        have hl0 : listed.getD i false = false := by
          have := h.size
          simp [Array.getD, this, hlt] at hl ⊢
          exact hl
        have := unl_set hlt h.size hl0
        omega
    exact ⟨hr, done _ _ _ h hr⟩
  | succ fuel ih =>
    intro listed a w hf h
    refine ⟨done _ _ _ h, fun i hi => wpOp_mono (fun a' w' h' => ih _ a' w' ?_ h') (way_step hb hso hns hK h hi)⟩
    obtain ⟨hl, o, ho, _⟩ := mem_ready.1 hi
    have hlt : i < ops.size := (Array.getElem?_eq_some_iff.1 ho).1
    have hl0 : listed.getD i false = false := by
      have := h.size
      simp [Array.getD, this, hlt] at hl ⊢
      exact hl
    have := unl_set hlt h.size hl0
    omega

/-- The region's operations one behind the other, in the order of the text: each at the frame that the text has there. -/
def Text (P : Program) (ops : Array Oper) (b : Array Nat) (K : (Nat → Bool) → World → Prop) (Q : Exit → Act → World → Prop) : Nat → Nat → Act → Prop
  | 0, _, a => ∀ w, K (fun j => decide (j < ops.size)) w → Q .normal a w
  | n + 1, i, a => match ops[i]? with
    | none => False
    | some o => ∃ v, StepOK P ops b K i o a v ∧ Text P ops b K Q n (i + 1) (a.put o.dst v)

theorem text_val {b : Array Nat} {K : (Nat → Bool) → World → Prop} {df : List Deferred} {T : Array Value} : ∀ (n i : Nat) (a : Act), i + n = ops.size → ∀ (val0 : Nat → Value), (∀ j o, j < i → ops[j]? = some o → StepOK P ops b K j o (fr ops val0 df T (fun l => decide (l < j)) j) (val0 j)) → a = fr ops val0 df T (fun l => decide (l < i)) i → Text P ops b K Q n i a →
    ∃ val : Nat → Value, (∀ j o, ops[j]? = some o → StepOK P ops b K j o (fr ops val df T (fun l => decide (l < j)) j) (val j)) ∧ (∀ w, K (fun j => decide (j < ops.size)) w → Q .normal (fr ops val df T (fun j => decide (j < ops.size)) ops.size) w)
  | 0, i, a, hi, val0, h0, ha, h => ⟨val0, fun j o ho => h0 j o (by have := (Array.getElem?_eq_some_iff.1 ho).1; omega) ho, fun w hw => by
      have hi' : i = ops.size := by omega
      have := h w hw
      rw [ha, hi'] at this
      exact this⟩
  | n + 1, i, a, hi, val0, h0, ha, h => by
    have hlt : i < ops.size := by omega
    have ho : ops[i]? = some ops[i] := Array.getElem?_eq_getElem hlt
    unfold Text at h
    rw [ho] at h
    obtain ⟨v, h1, h2⟩ := h
    have same : ∀ j, j ≤ i → fr ops (fun l => if l = i then v else val0 l) df T (fun l => decide (l < j)) j = fr ops val0 df T (fun l => decide (l < j)) j := by
      intro j hj
      have key : ∀ (D : Nat → Bool) k, k ≤ i → fr ops (fun l => if l = i then v else val0 l) df T D k = fr ops val0 df T D k := by
        intro D k
        induction k with
        | zero => intro _; rfl
        | succ k ih =>
          intro hk
          rw [fr_succ, fr_succ, ih (by omega), if_neg (by omega)]
      exact key _ j hj
    refine text_val n (i + 1) _ (by omega) (fun l => if l = i then v else val0 l) (fun j o hj ho' => ?_) ?_ h2
    · rw [same j (by omega)]
      by_cases hji : j = i
      · subst hji
        rw [ho] at ho'; injection ho' with ho'; subst ho'
        rw [if_pos rfl, ← ha]; exact h1
      · rw [if_neg hji]; exact h0 j o (by omega) ho'
    · rw [fr_succ, ho]
      simp only [decide_eq_true (Nat.lt_succ_self i), if_true]
      rw [fr_congr (fun l => decide (l < i + 1)) (fun l => decide (l < i)) i (fun j hj => by simp [hj]; omega), same i (Nat.le_refl _), ← ha]

/-- A region that draws its order, walked once in the order of the text: K tells what holds of the world when just those that D lists are done. -/
theorem wp_free {id : Nat} {a : Act} {w : World} (b : Array Nat) (K : (Nat → Bool) → World → Prop) (hm : P.follows .mixedOrders = true) (hb : befOK ops b = true) (hso : slotsOK ops b = true) (hns : noSel ops = true)
    (hlow : (ops.toList.zipIdx.all fun (o, i) => o.after.all fun e => !Region.binds .any e || decide (e.on < i)) = true)
    (h0 : K (fun _ => false) { w with drawn := w.drawn + 1 }) (h : Text P ops b K Q ops.size 0 a) : (Code.region id ops true).wp P Q a w := by
  refine wp_region_any hm ?_
  obtain ⟨val, h1, h2⟩ := text_val (df := a.defers) (T := a.tmps) ops.size 0 a (by omega) (fun _ => undef) (fun j o hj => by omega) rfl h
  have hD : (fun i => (Array.replicate ops.size false).getD i false) = fun _ => false := by
    funext i; simp [Array.getD]
  refine way_all hb hso hns hlow h1 h2 ops.size _ a _ ?_ ⟨by simp, ?_, ?_, ?_⟩
  · exact Nat.le_trans List.countP_le_length (by simp)
  · rw [hD]; intro i o _ h; cases h
  · rw [hD]
    have : ∀ k, fr ops val a.defers a.tmps (fun _ => false) k = a := by
      intro k
      induction k with
      | zero => rfl
      | succ k ih => rw [fr_succ]; split <;> simp [ih]
    exact (this _).symm
  · rw [hD]; exact h0

/-- An operation that is no call of a Go function, and neither defers nor sends. -/
def plainOp (o : Oper) : Bool := match o.op with
  | .call c => match c.callee with
    | .builtin .len => true
    | .builtin .cap => true
    | .builtin .max => true
    | .builtin .min => true
    | _ => false
  | .go _ | .defer _ | .send .. | .recv .. | .select .. | .panic .. => false
  | _ => true

theorem run_v {s : Sem Value} {w w' : World} {f : FuncId} {args : Array Value} : ((do pure (Next.value (← s))) : Sem Next).run P w ≠ .ok (.enter f args) w' := by
  rw [Sem.run_bind]
  cases s.run P w with
  | ok x w1 => intro h; simp [Result.andThen] at h
  | halt x w1 => intro h; simp [Result.andThen] at h
theorem run_u {s : Sem Unit} {w w' : World} {f : FuncId} {args : Array Value} : ((do s; pure Next.skip) : Sem Next).run P w ≠ .ok (.enter f args) w' := by
  rw [Sem.run_bind]
  cases s.run P w with
  | ok x w1 => intro h; simp [Result.andThen] at h
  | halt x w1 => intro h; simp [Result.andThen] at h

theorem plain_noEnter {o : Oper} (h : plainOp o = true) (ρ : Operand → Value) (w w' : World) (f : FuncId) (args : Array Value) : (execOp ρ o).run P w ≠ .ok (.enter f args) w' := by
  obtain ⟨dst, op, type, pos, after, guard⟩ := o
  cases op <;> simp only [plainOp, Bool.false_eq_true] at h <;> simp only [execOp]
  case move x => intro h; cases h
  case assign x => intro h; cases h
  case pick c x y =>
    rw [Sem.run_bind]
    cases (asBool (ρ c)).run P w with
    | ok x w1 => intro h; cases h
    | halt x w1 => intro h; cases h
  case nilCheck x =>
    split
    · intro h; simp [runtimePanic] at h
    · intro h; simp [runtimePanic] at h
    · intro h; simp [runtimePanic] at h
    · split
      · intro h; simp [runtimePanic] at h
      · simp only [Sem.run_bind]
        generalize Sem.run _ _ _ = r
        cases r with
        | ok x w1 =>
          simp only [Result.andThen_ok]
          generalize Sem.run _ _ _ = r2
          cases r2 with
          | ok y w2 =>
            simp only [Result.andThen_ok]
            split
            · intro h; simp [unsupported] at h
            · intro h; cases h
          | halt y w2 => intro h; cases h
        | halt x w1 => intro h; cases h
      · intro h; cases h
    · intro h; cases h
  case call c =>
    obtain ⟨callee, args, ats⟩ := c
    cases callee <;> simp only [Bool.false_eq_true] at h
    rename_i b
    cases b <;> simp only [Bool.false_eq_true] at h <;> exact run_v
  all_goals first | exact run_v | exact run_u | (simp only; done)

/-- What may be said of D where operation i comes up. -/
def Here (ops : Array Oper) (b : Array Nat) (i : Nat) (D : Nat → Bool) : Prop := (∀ j, j < ops.size → (b.getD i 0).testBit j = true → D j = true) ∧ (∀ j, j < ops.size → (b.getD j 0).testBit i = true → D j = false)

theorem stepOK_of_quiet {b : Array Nat} {K : (Nat → Bool) → World → Prop} {C : World → Prop} {i : Nat} (hC : ∀ D w, Here ops b i D → K D w → C w) {o : Oper} {a : Act} {R : Act → Prop} (hp : plainOp o = true) (hKi : ∀ D w, K D w → K (upd D i) w)
    (h : if Region.wanted o (yielded ops a.tmps) then o.quiet P a C R else R (a.put o.dst undef)) : ∃ v, StepOK P ops b K i o a v ∧ R (a.put o.dst v) := by
  split at h
  · rename_i hw
    obtain ⟨v, h1, h2⟩ := h
    refine ⟨v, ?_, h2⟩
    unfold StepOK
    rw [if_pos hw]
    intro D w hb hb2 _ hK
    have h3 := h1 w (hC D w ⟨hb, hb2⟩ hK)
    have hne := fun f args w' => plain_noEnter (P := P) hp a.eval w w' f args
    unfold Oper.quietAt at h3
    unfold OpDoes Oper.wp
    generalize (execOp a.eval o).run P w = r at *
    cases r with
    | ok n w' =>
      cases n <;> first | exact h3.elim | skip
      case value u => obtain ⟨rfl, rfl⟩ := h3; exact ⟨rfl, hKi D _ hK⟩
      case skip => obtain ⟨rfl, rfl⟩ := h3; exact ⟨rfl, hKi D _ hK⟩
      case enter f args => exact absurd rfl (hne f args w')
    | halt x w' => exact h3.elim
  · rename_i hw
    exact ⟨undef, by unfold StepOK; rw [if_neg hw]; exact ⟨rfl, fun D w _ _ _ hK => hKi D w hK⟩, h⟩

theorem text_seg {b : Array Nat} {K : (Nat → Bool) → World → Prop} {C : World → Prop} {R : Act → Prop} : ∀ (l : List Oper) (i n : Nat) (a : Act), (∀ j, i ≤ j → j < i + l.length → ∀ D w, Here ops b j D → K D w → C w) → (∀ j, j < l.length → l[j]? = ops[i + j]?) → l.all plainOp = true →
    (∀ j, i ≤ j → j < i + l.length → ∀ D w, K D w → K (upd D j) w) → wpQuiet P ops C R l a → (∀ a', R a' → Text P ops b K Q n (i + l.length) a') → Text P ops b K Q (n + l.length) i a
  | [], i, n, a, _, _, _, _, h, hn => hn a h
  | o :: l, i, n, a, hC, hl, hp, hK, h, hn => by
    have h0 : ops[i]? = some o := by simpa using (hl 0 (by simp)).symm
    simp only [List.all_cons, Bool.and_eq_true] at hp
    obtain ⟨v, h1, h2⟩ := stepOK_of_quiet (b := b) (hC i (Nat.le_refl _) (by simp)) hp.1 (hK i (Nat.le_refl _) (by simp)) h
    show Text P ops b K Q (n + l.length + 1) i a
    unfold Text
    rw [h0]
    refine ⟨v, h1, text_seg l (i + 1) n _ (fun j hj1 hj2 => hC j (by omega) (by simp; omega)) (fun j hj => ?_) hp.2 (fun j hj1 hj2 => hK j (by omega) (by simp; omega)) h2 fun a' ha' => ?_⟩
    · have := hl (j + 1) (by simp; omega)
      simpa [Nat.add_assoc, Nat.add_comm 1 j] using this
    · have := hn a' ha'
      have e : i + 1 + l.length = i + (o :: l).length := by simp; omega
      rw [e]; exact this

/-- A world that may stand there while those of p are done and those of q are not. -/
structure Sub (K : (Nat → Bool) → World → Prop) (p q : List Nat) where
  val : World
  prop : ∃ D, K D val ∧ (∀ e ∈ p, D e = true) ∧ ∀ e ∈ q, D e = false
def SubC (K : (Nat → Bool) → World → Prop) (p q : List Nat) (w : World) : Prop := ∃ s : Sub K p q, w = s.val

/-- The walk of a region in the text's order: between the operations at the places E (those that turn the world) all are quiet; with each place, what is done and what is not yet done ahead of it. -/
def Segs (P : Program) (ops : Array Oper) (b : Array Nat) (K : (Nat → Bool) → World → Prop) (Q : Exit → Act → World → Prop) (z : List Nat × List Nat) : List (Nat × List Nat × List Nat) → Nat → List Oper → Act → Prop
  | [], _, l, a => wpQuiet P ops (fun w => ∃ s : Sub K z.1 z.2, w = s.val) (fun a' => ∀ w, K (fun j => decide (j < ops.size)) w → Q .normal a' w) l a
  | (e, p, q) :: E, i, l, a => wpQuiet P ops (fun w => ∃ s : Sub K p q, w = s.val) (fun a' => match l.drop (e - i) with
      | [] => False
      | o :: r => ∃ v, StepOK P ops b K e o a' v ∧ Segs P ops b K Q z E (e + 1) r (a'.put o.dst v)) (l.take (e - i)) a

def sideOK (ops : Array Oper) (b : Array Nat) (p q : List Nat) (i n : Nat) : Bool :=
  (List.range n).all fun j => (p.all fun e => decide (e < ops.size) && (b.getD (i + j) 0).testBit e) && q.all fun e => decide (e < ops.size) && (b.getD e 0).testBit (i + j)
theorem sideOK_here {b : Array Nat} {p q : List Nat} {i n : Nat} (h : sideOK ops b p q i n = true) {j : Nat} (h1 : i ≤ j) (h2 : j < i + n) {D : Nat → Bool} (hD : Here ops b j D) : (∀ e ∈ p, D e = true) ∧ ∀ e ∈ q, D e = false := by
  have h3 := List.all_eq_true.1 h (j - i) (List.mem_range.2 (by omega))
  rw [show i + (j - i) = j by omega] at h3
  simp only [Bool.and_eq_true, List.all_eq_true, decide_eq_true_eq] at h3
  exact ⟨fun e he => hD.1 e (h3.1 e he).1 (h3.1 e he).2, fun e he => hD.2 e (h3.2 e he).1 (h3.2 e he).2⟩

/-- The places rise, and between them nothing is a call. -/
def segsOK (ops : Array Oper) (b : Array Nat) (z : List Nat × List Nat) : List (Nat × List Nat × List Nat) → Nat → List Oper → Bool
  | [], i, l => l.all plainOp && sideOK ops b z.1 z.2 i l.length
  | (e, p, q) :: E, i, l => decide (i ≤ e) && decide (e - i < l.length) && (l.take (e - i)).all plainOp && sideOK ops b p q i (e - i) && segsOK ops b z E (e + 1) (l.drop (e - i + 1))

theorem segsOK_ge {b : Array Nat} {z : List Nat × List Nat} : ∀ (E : List (Nat × List Nat × List Nat)) (i : Nat) (l : List Oper), segsOK ops b z E i l = true → ∀ x ∈ E, i ≤ x.1
  | [], _, _, _, x, hx => by cases hx
  | (e, p, q) :: E, i, l, h, x, hx => by
    simp only [segsOK, Bool.and_eq_true, decide_eq_true_eq] at h
    obtain ⟨⟨⟨⟨hie, _⟩, _⟩, _⟩, h2⟩ := h
    rcases List.mem_cons.1 hx with rfl | hx
    · exact hie
    · have := segsOK_ge E (e + 1) _ h2 x hx; omega

theorem text_segs {b : Array Nat} {K : (Nat → Bool) → World → Prop} {z : List Nat × List Nat} : ∀ (E : List (Nat × List Nat × List Nat)) (i : Nat) (l : List Oper) (a : Act), i + l.length = ops.size → (∀ j, j < l.length → l[j]? = ops[i + j]?) → segsOK ops b z E i l = true →
    (∀ j, i ≤ j → j ∉ E.map (·.1) → ∀ D w, K D w → K (upd D j) w) → Segs P ops b K Q z E i l a → Text P ops b K Q l.length i a
  | [], i, l, a, hs, hl, hE, hK, h => by
    simp only [segsOK, Bool.and_eq_true] at hE
    have := text_seg (b := b) (Q := Q) l i 0 a (fun j h1 h2 D w hD hk => ⟨⟨w, D, hk, sideOK_here hE.2 h1 h2 hD⟩, rfl⟩) hl hE.1 (fun j h1 _ => hK j h1 (by simp)) h (fun a' ha' => ha')
    simpa using this
  | (e, p, q) :: E, i, l, a, hs, hl, hE, hK, h => by
    simp only [segsOK, Bool.and_eq_true, decide_eq_true_eq] at hE
    obtain ⟨⟨⟨⟨hie, hlt⟩, hp⟩, hsd⟩, hE'⟩ := hE
    have hge := segsOK_ge E _ _ hE'
    unfold Segs at h
    have hd : l.drop (e - i) = l[e - i] :: l.drop (e - i + 1) := List.drop_eq_getElem_cons hlt
    have hlen : (l.take (e - i)).length = e - i := by simp; omega
    have key := text_seg (b := b) (Q := Q) (l.take (e - i)) i (l.length - (e - i)) a (fun j h1 h2 D w hD hk => ⟨⟨w, D, hk, sideOK_here hsd h1 (by rw [hlen] at h2; exact h2) hD⟩, rfl⟩) (fun j hj => by rw [hlen] at hj; rw [List.getElem?_take_of_lt hj]; exact hl j (by omega)) hp (fun j h1 h2 => by rw [hlen] at h2; exact hK j h1 (fun hm => by
        rcases List.mem_cons.1 hm with rfl | hm
        · omega
        · obtain ⟨x, hx, rfl⟩ := List.mem_map.1 hm
          have := hge x hx; omega)) h
      (fun a' ha' => by
        rw [hd] at ha'
        obtain ⟨v, h1, h2⟩ := ha'
        rw [hlen]
        have e1 : l.length - (e - i) = (l.drop (e - i + 1)).length + 1 := by simp; omega
        rw [e1, show i + (e - i) = e from by omega]
        unfold Text
        have ho : ops[e]? = some l[e - i] := by
          have := hl (e - i) hlt
          rw [show i + (e - i) = e from by omega] at this
          rw [← this]; exact List.getElem?_eq_getElem hlt
        rw [ho]
        exact ⟨v, h1, text_segs E (e + 1) _ _ (by simp; omega) (fun j hj => by
          rw [List.getElem?_drop]
          have := hl (e - i + 1 + j) (by simp at hj; omega)
          rw [this]; congr 1; omega) hE' (fun j h3 h4 => hK j (by omega) (by simp only [List.map_cons, List.mem_cons, not_or]; exact ⟨by omega, h4⟩)) h2⟩)
    rw [hlen, show l.length - (e - i) + (e - i) = l.length from by omega] at key
    exact key

/-- A region that draws its order, walked in the text's order; E: the places of those that turn the world, each with what is done and what is not done ahead of it; z: the same behind the last. -/
theorem wp_segs {id : Nat} {l : List Oper} {a : Act} {w : World} (E : List (Nat × List Nat × List Nat)) (z : List Nat × List Nat) (K : (Nat → Bool) → World → Prop) (hm : P.follows .mixedOrders = true) (hb : befOK l.toArray (bef l.toArray) = true) (hso : slotsOK l.toArray (bef l.toArray) = true) (hns : noSel l.toArray = true)
    (hlow : (l.toArray.toList.zipIdx.all fun (o, i) => o.after.all fun e => !Region.binds .any e || decide (e.on < i)) = true) (hE : segsOK l.toArray (bef l.toArray) z E 0 l = true)
    (h0 : K (fun _ => false) w.drew) (hKE : ∀ j, j ∉ E.map (·.1) → ∀ D w, K D w → K (upd D j) w) (h : Segs P l.toArray (bef l.toArray) K Q z E 0 l a) : (Code.region id l.toArray true).wp P Q a w := by
  refine wp_free (bef l.toArray) K hm hb hso hns hlow h0 ?_
  have := text_segs (P := P) (Q := Q) (b := bef l.toArray) (K := K) (ops := l.toArray) E 0 l a (by simp) (fun j _ => by simp) hE (fun j _ hj => hKE j hj) h
  simpa using this

/-- A call of a named Go function. -/
theorem stepOK_call {ops : Array Oper} {b : Array Nat} {K : (Nat → Bool) → World → Prop} {i : Nat} {o : Oper} {a : Act} {v : Value} (f : FuncId) (xs : Array Operand) (ts : Array TypeId) (hg : Region.wanted o (yielded ops a.tmps) = true) (hop : o.op = .call ⟨.value (.func f), xs, ts⟩)
    (hf : (match P.funcs[f]? with | some fn => decide (fn.name ≠ "runtime.NumGoroutine") && fn.body.isSome | none => false) = true) (args : Array Value) (ha : xs.map a.eval = args)
    (h : ∀ D w, (∀ j, j < ops.size → (b.getD i 0).testBit j = true → D j = true) → (∀ j, j < ops.size → (b.getD j 0).testBit i = true → D j = false) → D i = false → K D w → Calls P f args w fun e w' => e = .returned v ∧ K (upd D i) w') : StepOK P ops b K i o a v := by
  unfold StepOK
  rw [if_pos hg]
  intro D w hb hb2 hi hK
  unfold OpDoes Oper.wp
  have hrun : (execOp a.eval o).run P w = .ok (.enter f args) w := by
    obtain ⟨dst, op, type, pos, after, guard⟩ := o
    simp only at hop
    subst hop
    rw [execOp_call_go]
    simp only [Array.empty_append, Array.append_empty, ha]
    unfold callFunc
    cases hfn : P.funcs[f]? with
    | none => rw [hfn] at hf; cases hf
    | some fn =>
      rw [hfn] at hf
      simp only [Bool.and_eq_true, decide_eq_true_eq] at hf
      have hbn : fn.body.isNone = false := by cases h9 : fn.body <;> simp [h9] at hf ⊢
      have hpr : (program).run P w = .ok P w := rfl
      simp only [Sem.run_bind, hpr, Result.andThen_ok, hfn]
      rw [if_neg (by simpa using hf.1), if_neg (by simp [hbn])]
      rfl
  rw [hrun]
  exact Calls.mono (P := P) (h D w hb hb2 hi hK) fun e w' he => by
    obtain ⟨rfl, h2⟩ := he
    exact ⟨rfl, h2⟩
/-- Any other operation that turns the world: its run is known. -/
theorem stepOK_run {ops : Array Oper} {b : Array Nat} {K : (Nat → Bool) → World → Prop} {i : Nat} {o : Oper} {a : Act} {v : Value} (hg : Region.wanted o (yielded ops a.tmps) = true)
    (h : ∀ D w, (∀ j, j < ops.size → (b.getD i 0).testBit j = true → D j = true) → (∀ j, j < ops.size → (b.getD j 0).testBit i = true → D j = false) → D i = false → K D w → ∃ w', (execOp a.eval o).run P w = .ok (.value v) w' ∧ K (upd D i) w') : StepOK P ops b K i o a v := by
  unfold StepOK
  rw [if_pos hg]
  intro D w hb hb2 hi hK
  obtain ⟨w', hrun, hk⟩ := h D w hb hb2 hi hK
  unfold OpDoes Oper.wp
  rw [hrun]
  exact ⟨rfl, hk⟩
/-- A store, a map's update: what yields nothing. -/
theorem stepOK_skip {ops : Array Oper} {b : Array Nat} {K : (Nat → Bool) → World → Prop} {i : Nat} {o : Oper} {a : Act} (hg : Region.wanted o (yielded ops a.tmps) = true)
    (h : ∀ D w, (∀ j, j < ops.size → (b.getD i 0).testBit j = true → D j = true) → (∀ j, j < ops.size → (b.getD j 0).testBit i = true → D j = false) → D i = false → K D w → ∃ w', (execOp a.eval o).run P w = .ok .skip w' ∧ K (upd D i) w') : StepOK P ops b K i o a undef := by
  unfold StepOK
  rw [if_pos hg]
  intro D w hb hb2 hi hK
  obtain ⟨w', hrun, hk⟩ := h D w hb hb2 hi hK
  unfold OpDoes Oper.wp
  rw [hrun]
  exact ⟨rfl, hk⟩
section
variable {a : Act} {w w' : World} {o : Oper} {v : Value}
theorem run_box_any {P : Program} {s : Sem Value} (h : execOp a.eval o = (do pure (Next.value (← s)))) (hr : s.run P w = .ok v w') : (execOp a.eval o).run P w = .ok (.value v) w' := by
  rw [h, Sem.run_bind, hr]; rfl
theorem run_skip_any {P : Program} {s : Sem Unit} (h : execOp a.eval o = (do s; pure Next.skip)) (hr : s.run P w = .ok () w') : (execOp a.eval o).run P w = .ok .skip w' := by
  rw [h, Sem.run_bind, hr]; rfl
end
/-- A region where one operation alone turns the world: before it, behind it. -/
def k1K (w0 w1 : World) (i : Nat) (D : Nat → Bool) (w : World) : Prop := w = if D i then w1 else w0
theorem k1K_out (w0 w1 : World) (i j : Nat) (hj : ¬ j = i) (D : Nat → Bool) (u : World) (hK : k1K w0 w1 i D u) : k1K w0 w1 i (upd D j) u := by
  unfold k1K at hK ⊢
  unfold upd
  have q1 : (i == j) = false := by simp; omega
  rw [q1, Bool.or_false]; exact hK
theorem k1K_1 {w0 w1 u : World} {i : Nat} {D : Nat → Bool} {α : Type} {run : World → Result α} {v : α} (hi : D i = false) (hK : k1K w0 w1 i D u) (hr : run w0 = .ok v w1) : ∃ w', run u = .ok v w' ∧ k1K w0 w1 i (upd D i) w' := by
  unfold k1K at hK
  rw [hi] at hK
  simp only [Bool.false_eq_true, if_false] at hK
  subst hK
  exact ⟨_, hr, by unfold k1K upd; simp⟩
theorem k1K_end {w0 w1 u : World} {i : Nat} {D : Nat → Bool} (hi : D i = true) (hK : k1K w0 w1 i D u) : u = w1 := by unfold k1K at hK; rw [hi, if_pos rfl] at hK; exact hK
theorem k1K_load {w0 w1 : World} {i : Nat} {X : World → Prop} (h0 : X w0) (s : Sub (k1K w0 w1 i) [] [i]) : X s.val := by
  obtain ⟨u, D, hu, _, hq⟩ := s
  have h16 := hq i (by simp)
  unfold k1K at hu
  rw [h16, if_neg (by decide)] at hu
  show X u
  rw [hu]; exact h0
theorem k1K_any {w0 w1 : World} {i : Nat} {X : World → Prop} (h0 : X w0) (h1 : X w1) {p q : List Nat} (s : Sub (k1K w0 w1 i) p q) : X s.val := by
  obtain ⟨u, D, hu, _⟩ := s
  unfold k1K at hu
  show X u
  rw [hu]; split
  · exact h1
  · exact h0
theorem k1K_ne (w0 w1 : World) (i : Nat) : Nonempty (Sub (k1K w0 w1 i) [] [i]) := ⟨⟨w0, fun _ => false, rfl, by simp, by simp⟩⟩
theorem k1K_ne0 (w0 w1 : World) (i : Nat) : Nonempty (Sub (k1K w0 w1 i) [] []) := ⟨⟨w0, fun _ => false, rfl, by simp, by simp⟩⟩
section
variable {P : Program} {ops : Array Oper} {Q : Exit → Act → World → Prop} {rest : List Oper} {o : Oper} {a : Act} {w w' : World} {v : Value}
/-- In a region that draws nothing: an operation whose run is known. -/
theorem wpList_run (hgd : o.guard = none) {s : Sem Value} (hs : execOp a.eval o = (do pure (Next.value (← s)))) (hr : s.run P w = .ok v w') (h : wpList P ops Q rest (a.put o.dst v) w') : wpList P ops Q (o :: rest) a w := by
  refine wpList_plain hgd fun K hK => ?_
  unfold Oper.wp
  rw [run_box_any hs hr]
  exact hK _ _ h
theorem wpList_runU (hgd : o.guard = none) {s : Sem Unit} (hs : execOp a.eval o = (do s; pure Next.skip)) (hr : s.run P w = .ok () w') (h : wpList P ops Q rest (a.put o.dst undef) w') : wpList P ops Q (o :: rest) a w := by
  refine wpList_plain hgd fun K hK => ?_
  unfold Oper.wp
  rw [run_skip_any hs hr]
  exact hK _ _ h
end
end Go.Proofs.Ythbbiobffoihaaa
