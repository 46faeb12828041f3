import Derived.Test.YtphikmdgdbdaiaaFree
/- A region that draws its order, in which the order of some operations matters: split by it, then walk in the text's order. -/
namespace Go.Proofs.Ytphikmdgdbdaiaa
open Go
variable {P : Program} {ops : Array Oper} {Q : Exit → Act → World → Prop}
/-- An order that may be drawn. -/
def Sched (ops : Array Oper) : Array Bool → List Nat → Prop
  | listed, [] => Region.ready .any ops listed = []
  | listed, i :: L => i ∈ Region.ready .any ops listed ∧ Sched ops (listed.setIfInBounds i true) L
/-- Along it, each pair's first comes behind its second. -/
def OrdX (X : List (Nat × Nat)) : Array Bool → List Nat → Prop
  | _, [] => True
  | listed, i :: L => (∀ e ∈ X, e.1 = i → listed.getD e.2 false = true) ∧ OrdX X (listed.setIfInBounds i true) L
theorem ready_nil_of_fuel {listed : Array Bool} (hs : listed.size = ops.size) (h : unl ops.size listed ≤ 0) : Region.ready .any ops listed = [] := by
  cases hr : Region.ready .any ops listed with
  | nil => rfl
  | cons i l =>
    have hm : i ∈ Region.ready .any ops listed := by rw [hr]; simp
    obtain ⟨hl, o, ho, _⟩ := mem_ready.1 hm
    have hlt : i < ops.size := (Array.getElem?_eq_some_iff.1 ho).1
    have hl0 : listed.getD i false = false := by
      simp [Array.getD, hs, hlt] at hl ⊢
      exact hl
    have := unl_set hlt hs hl0
    omega
theorem sched_linearise : ∀ (fuel t : Nat) (listed : Array Bool), listed.size = ops.size → unl ops.size listed ≤ fuel → Sched ops listed (Region.linearise.go .any ops fuel t listed []) := by
  intro fuel
  induction fuel with
  | zero => intro t listed hs hf; simp only [Region.linearise.go, List.reverse_nil, Sched]; exact ready_nil_of_fuel hs hf
  | succ fuel ih =>
    intro t listed hs hf
    simp only [Region.linearise.go]
    change Sched ops listed (match (Region.ready .any ops listed)[t % (Region.ready .any ops listed).length]? with
      | some i => Region.linearise.go .any ops fuel (t / (Region.ready .any ops listed).length) (listed.setIfInBounds i true) [i]
      | none => [].reverse)
    cases hi : (Region.ready .any ops listed)[t % (Region.ready .any ops listed).length]? with
    | none =>
      have hnil : Region.ready .any ops listed = [] := by
        cases hr : Region.ready .any ops listed with
        | nil => rfl
        | cons x xs =>
          rw [hr] at hi
          have hlt : t % (x :: xs).length < (x :: xs).length := Nat.mod_lt _ (by simp)
          simp at hi
          simp at hlt
          omega
      exact hnil
    | some i =>
      simp only []
      rw [linearise_go_acc, List.reverse_singleton, List.singleton_append]
      have hm := List.mem_of_getElem? hi
      obtain ⟨hl, o, ho, _⟩ := mem_ready.1 hm
      have hlt : i < ops.size := (Array.getElem?_eq_some_iff.1 ho).1
      have hl0 : listed.getD i false = false := by
        simp [Array.getD, hs, hlt] at hl ⊢
        exact hl
      have := unl_set hlt hs hl0
      exact ⟨hm, ih _ _ (by simp [hs]) (by omega)⟩
/-- The region's way from here, whatever the order, of those in which X holds. -/
def wpX (P : Program) (ops : Array Oper) (Q : Exit → Act → World → Prop) (X : List (Nat × Nat)) (a : Act) (w : World) : Prop := ∀ L, Sched ops (Array.replicate ops.size false) L → OrdX X (Array.replicate ops.size false) L → wpOps P ops Q L a w
theorem ordX_nil : ∀ (L : List Nat) (listed : Array Bool), OrdX [] listed L
  | [], _ => trivial
  | _ :: L, _ => ⟨(fun _ h => by cases h), ordX_nil L _⟩
theorem wp_drawX {id : Nat} {a : Act} {w : World} (hm : P.follows .mixedOrders = true) (h : wpX P ops Q [] a w.drew) : (Code.region id ops true).wp P Q a w :=
  wp_region_draw fun t => by
    simp only [Region.schedule, hm, Bool.true_or, if_true]
    exact h _ (sched_linearise ops.size t _ (by simp) (Nat.le_trans List.countP_le_length (by simp))) (ordX_nil _ _)
theorem ordX_set {x y : Nat} : ∀ (L : List Nat) (listed : Array Bool), x < listed.size → listed.getD x false = true → OrdX [(y, x)] listed L
  | [], _, _, _ => trivial
  | i :: L, listed, hx, h => ⟨fun e he _ => by simp at he; subst he; exact h, ordX_set L _ (by simpa using hx) (getD_set_true h)⟩
theorem ordX_or {x y : Nat} (hxy : x ≠ y) : ∀ (L : List Nat) (listed : Array Bool), x < listed.size → y < listed.size → OrdX [(y, x)] listed L ∨ OrdX [(x, y)] listed L
  | [], _, _, _ => .inl trivial
  | i :: L, listed, hx, hy => by
    by_cases h1 : i = x
    · subst h1
      refine .inl ⟨fun e he h => by simp at he; subst he; exact absurd h.symm hxy, ordX_set L _ (by simpa using hx) (by simp [Array.getD, hx])⟩
    · by_cases h2 : i = y
      · subst h2
        refine .inr ⟨fun e he h => by simp at he; subst he; exact absurd h hxy, ordX_set L _ (by simpa using hy) (by simp [Array.getD, hy])⟩
      · rcases ordX_or hxy L (listed.setIfInBounds i true) (by simpa using hx) (by simpa using hy) with h | h
        · exact .inl ⟨fun e he h' => by simp at he; subst he; exact absurd h'.symm h2, h⟩
        · exact .inr ⟨fun e he h' => by simp at he; subst he; exact absurd h'.symm h1, h⟩
theorem ordX_cons {e : Nat × Nat} {X : List (Nat × Nat)} : ∀ (L : List Nat) (listed : Array Bool), OrdX [e] listed L → OrdX X listed L → OrdX (e :: X) listed L
  | [], _, _, _ => trivial
  | i :: L, _, h1, h2 => ⟨fun e' he h => by
      rcases List.mem_cons.1 he with rfl | he
      · exact h1.1 _ (by simp) h
      · exact h2.1 e' he h, ordX_cons L _ h1.2 h2.2⟩
/-- x ahead of y, or y ahead of x. -/
theorem wpX_split {X : List (Nat × Nat)} {a : Act} {w : World} (x y : Nat) (hxy : (decide (x < ops.size) && decide (y < ops.size) && decide (x ≠ y)) = true) (h1 : wpX P ops Q ((y, x) :: X) a w) (h2 : wpX P ops Q ((x, y) :: X) a w) : wpX P ops Q X a w := by
  intro L hs hX
  simp only [Bool.and_eq_true, decide_eq_true_eq] at hxy
  rcases ordX_or hxy.2 L (Array.replicate ops.size false) (by simpa using hxy.1.1) (by simpa using hxy.1.2) with h | h
  · exact h1 L hs (ordX_cons L _ h hX)
  · exact h2 L hs (ordX_cons L _ h hX)

/-- What must come ahead, by the region and by X. -/
def addEdge (n : Nat) (b : Array Nat) (e : Nat × Nat) : Array Nat := ((List.range n).map fun k => if k = e.1 || (b.getD k 0).testBit e.1 then (b.getD k 0) ||| (1 <<< e.2) ||| (b.getD e.2 0) else b.getD k 0).toArray
def befX (ops : Array Oper) : List (Nat × Nat) → Array Nat
  | [] => bef ops
  | e :: X => addEdge ops.size (befX ops X) e
def pairsOK (n : Nat) (X : List (Nat × Nat)) : Bool := X.all fun e => decide (e.1 < n) && decide (e.2 < n)
def ClosedB (n : Nat) (b : Array Nat) (D : Nat → Bool) : Prop := ∀ i, i < n → D i = true → ∀ j, j < n → (b.getD i 0).testBit j = true → D j = true
theorem addEdge_bit {n : Nat} {b : Array Nat} {e : Nat × Nat} {k m : Nat} (hk : k < n) (h : ((addEdge n b e).getD k 0).testBit m = true) : (b.getD k 0).testBit m = true ∨ ((k = e.1 ∨ (b.getD k 0).testBit e.1 = true) ∧ (m = e.2 ∨ (b.getD e.2 0).testBit m = true)) := by
  have hg : (addEdge n b e).getD k 0 = if k = e.1 || (b.getD k 0).testBit e.1 then (b.getD k 0) ||| (1 <<< e.2) ||| (b.getD e.2 0) else b.getD k 0 := by
    unfold addEdge
    rw [Array.getD_eq_getD_getElem?]
    simp [hk]
  rw [hg] at h
  split at h
  · rename_i hc
    simp only [Bool.or_eq_true, decide_eq_true_eq] at hc
    rw [Nat.testBit_or, Nat.testBit_or, Bool.or_eq_true, Bool.or_eq_true] at h
    rcases h with (h | h) | h
    · exact .inl h
    · refine .inr ⟨hc, .inl ?_⟩
      rw [Nat.testBit_shiftLeft] at h
      simp only [Bool.and_eq_true, decide_eq_true_eq] at h
      have h2 : (m - e.2) = 0 := by
        have := h.2
        rcases Nat.eq_zero_or_pos (m - e.2) with q | q
        · exact q
        · rw [Nat.testBit_eq_decide_div_mod_eq, Nat.div_eq_of_lt (Nat.one_lt_two_pow (by omega))] at this; simp at this
      have := h.1; omega
    · exact .inr ⟨hc, .inr h⟩
  · exact .inl h
theorem befX_closed (X : List (Nat × Nat)) (hp : pairsOK ops.size X = true) {D : Nat → Bool} (h0 : ClosedB ops.size (bef ops) D) (hX : ∀ e ∈ X, D e.1 = true → D e.2 = true) :
    ClosedB ops.size (befX ops X) D ∧ ∀ k, k < ops.size → (∀ j, j < ops.size → ((bef ops).getD k 0).testBit j = true → D j = true) → (∀ e ∈ X, e.1 = k → D e.2 = true) → ∀ j, j < ops.size → ((befX ops X).getD k 0).testBit j = true → D j = true := by
  induction X with
  | nil => exact ⟨h0, fun k _ h _ => h⟩
  | cons e X ih =>
    simp only [pairsOK, List.all_cons, Bool.and_eq_true, decide_eq_true_eq] at hp
    obtain ⟨i1, i2⟩ := ih hp.2 (fun e' he => hX e' (List.mem_cons_of_mem _ he))
    have he := hX e (by simp)
    refine ⟨fun k hk hD m hm hb => ?_, fun k hk hall hpair m hm hb => ?_⟩
    · rcases addEdge_bit hk hb with h | ⟨h1, h2⟩
      · exact i1 k hk hD m hm h
      · have hd1 : D e.1 = true := by
          rcases h1 with h1 | h1
          · rw [← h1]; exact hD
          · exact i1 k hk hD _ hp.1.1 h1
        have hd2 := he hd1
        rcases h2 with h2 | h2
        · rw [h2]; exact hd2
        · exact i1 _ hp.1.2 hd2 m hm h2
    · have q := i2 k hk hall (fun e' he' => hpair e' (List.mem_cons_of_mem _ he'))
      rcases addEdge_bit hk hb with h | ⟨h1, h2⟩
      · exact q m hm h
      · have hd2 : D e.2 = true := by
          rcases h1 with h1 | h1
          · exact hpair e (by simp) h1.symm
          · exact he (q _ hp.1.1 h1)
        rcases h2 with h2 | h2
        · rw [h2]; exact hd2
        · exact i1 _ hp.1.2 hd2 m hm h2

theorem way_stepX {b : Array Nat} (hso : slotsOK ops b = true) (hns : noSel ops = true) {val : Nat → Value} {df : List Deferred} {T : Array Value}
    {K : (Nat → Bool) → World → Prop}
    (hK : ∀ i o, ops[i]? = some o → StepOK P ops b K i o (fr ops val df T (fun j => decide (j < i)) i) (val i))
    {listed : Array Bool} {a : Act} {w : World} (h : Way ops val df T K listed a w) {i : Nat} (hi : i ∈ Region.ready .any ops listed)
    (hpre0 : ∀ j, j < ops.size → (b.getD i 0).testBit j = true → listed.getD j false = true) (hcb : ClosedB ops.size b fun j => listed.getD j false) :
    wpOp P ops Q i (Way ops val df T K (listed.setIfInBounds i true)) a w := by
  obtain ⟨hl, o, ho, hall⟩ := mem_ready.1 hi
  have hlt : i < ops.size := (Array.getElem?_eq_some_iff.1 ho).1
  have hl0 : listed.getD i false = false := by
    have := h.size
    simp [Array.getD, this, hlt] at hl ⊢
    exact hl
  have hDs : (fun j => (listed.setIfInBounds i true).getD j false) = upd (fun j => listed.getD j false) i := by
    funext j
    unfold upd
    by_cases e : i = j
    · subst e; simp [Array.getD, h.size, hlt]
    · rw [getD_set_ne false e]; simp [Ne.symm e]
  have hpre : ∀ j, j < ops.size → (b.getD i 0).testBit j = true → (fun j => listed.getD j false) j = true := hpre0
  have hcl : Closed ops fun j => (listed.setIfInBounds i true).getD j false := by
    intro j p hp hj e he hbind
    by_cases hij : i = j
    · subst hij
      rw [ho] at hp; injection hp with hp; subst hp
      exact getD_set_true (hall e he hbind)
    · have hj' : listed.getD j false = true := by
        have hj2 : (listed.setIfInBounds i true).getD j false = true := hj
        rw [getD_set_ne false hij] at hj2; exact hj2
      exact getD_set_true (h.closed j p hp hj' e he hbind)
  have hbefore : ∀ j p, ops[j]? = some p → listed.getD j false = true → ∀ k, k < ops.size → (b.getD j 0).testBit k = true → listed.getD k false = true := fun j p hp hj k hk hbit =>
    hcb j (Array.getElem?_eq_some_iff.1 hp).1 hj k hk hbit
  have hpost : ∀ j, j < ops.size → (b.getD j 0).testBit i = true → (fun j => listed.getD j false) j = false := fun j hj hbit => by
    cases hx : listed.getD j false with
    | false => exact hx
    | true =>
      have := hbefore j _ (Array.getElem?_eq_getElem hj) hx i hlt hbit
      rw [hl0] at this; cases this
  have hsi := List.all_eq_true.1 hso i (List.mem_range.2 hlt)
  simp only [ho] at hsi
  have hslot : ∀ t, t ∈ o.looksAt ops ∨ o.dst = some t → ∀ j p, ops[j]? = some p → p.dst = some t → j ≠ i → listed.getD j false = decide (j < i) := by
    intro t ht j p hp hd hne
    have hj : j < ops.size := (Array.getElem?_eq_some_iff.1 hp).1
    have h1 := List.all_eq_true.1 hsi j (List.mem_range.2 hj)
    simp only [hp, hd] at h1
    have hn : (j == i) = false := by simp [hne]
    have hin : ((o.looksAt ops).contains t || o.dst == some t) = true := by
      rcases ht with ht | ht
      · simp [ht]
      · simp [ht]
    rw [hn, hin] at h1
    simp only [Bool.not_true, Bool.false_or] at h1
    by_cases hji : j < i
    · rw [if_pos hji] at h1
      rw [decide_eq_true hji]; exact hpre j hj h1
    · rw [if_neg hji] at h1
      rw [decide_eq_false hji]
      cases hx : listed.getD j false with
      | false => rfl
      | true =>
        have := hbefore j p hp hx i hlt h1
        rw [hl0] at this; cases this
  have hput : (a.put o.dst (val i)) = fr ops val df T (fun j => (listed.setIfInBounds i true).getD j false) ops.size := by
    obtain ⟨n, hn⟩ : ∃ n, ops.size = i + 1 + n := ⟨ops.size - (i + 1), by omega⟩
    rw [h.frame, hDs, hn]
    refine fr_put ho hl0 n fun j p hj hp hs hd => ?_
    obtain ⟨t, ht⟩ := Option.isSome_iff_exists.1 hs
    have := hslot t (.inr (by rw [← hd, ht])) j p hp ht (by omega)
    rw [this]; simp; omega
  have hsl : ∀ t, t ∈ o.looksAt ops → a.tmps[t]? = (fr ops val df T (fun j => decide (j < i)) i).tmps[t]? := by
    intro t ht
    rw [h.frame]
    obtain ⟨n, hn⟩ : ∃ n, ops.size = i + n := ⟨ops.size - i, by omega⟩
    rw [← fr_cut i n, ← hn]
    refine (fr_slot _ _ t ops.size fun j p _ hp hd => ?_).1
    by_cases hji : j = i
    · subst hji; rw [hl0]; simp
    · exact hslot t (.inl ht) j p hp hd hji
  have hevals : execOp a.eval o = execOp (fr ops val df T (fun j => decide (j < i)) i).eval o := by
    refine execOp_congr o (fun cs bb => ?_) fun x hx => ?_
    · intro e
      have := Array.all_eq_true_iff_forall_mem.1 hns o (Array.mem_of_getElem? ho)
      rw [e] at this; cases this
    · cases x with
      | tmp t =>
        have := hsl t (List.mem_append_left _ (List.mem_filterMap.2 ⟨.tmp t, by simpa using hx, rfl⟩))
        simp only [Act.eval, Array.getD_eq_getD_getElem?, this]
      | _ => rfl
  have hwant : Region.wanted o (yielded ops a.tmps) = Region.wanted o (yielded ops (fr ops val df T (fun j => decide (j < i)) i).tmps) := by
    unfold Region.wanted
    cases hg : o.guard with
    | none => rfl
    | some gw =>
      obtain ⟨g, want⟩ := gw
      simp only
      congr 1
      unfold yielded
      cases ht : (ops[g]?).bind (·.dst) with
      | none => rfl
      | some t =>
        have := hsl t (List.mem_append_right _ (by simp [hg, ht]))
        simp only [Option.bind_some, this]
  have hstep := hK i o ho
  unfold StepOK at hstep
  rw [← hwant] at hstep
  have fin : ∀ w', K (upd (fun j => listed.getD j false) i) w' → Way ops val df T K (listed.setIfInBounds i true) (a.put o.dst (val i)) w' := fun w' hw' =>
    ⟨by simp [h.size], hcl, hput, by rw [hDs]; exact hw'⟩
  unfold wpOp
  simp only [ho]
  split
  · rename_i hw
    rw [if_pos hw] at hstep
    have h1 := hstep _ w hpre hpost hl0 h.holds
    refine .inl ?_
    have hsz : a.tmps.size = (fr ops val df T (fun j => decide (j < i)) i).tmps.size := by rw [h.frame, fr_size, fr_size]
    unfold OpDoes at h1
    unfold Oper.wp at h1 ⊢
    rw [← hevals] at h1
    have hnd := Array.all_eq_true_iff_forall_mem.1 hns o (Array.mem_of_getElem? ho)
    have hpp : ∀ v' w', (fr ops val df T (fun j => decide (j < i)) i).put o.dst v' = (fr ops val df T (fun j => decide (j < i)) i).put o.dst (val i) → K (upd (fun j => listed.getD j false) i) w' → Way ops val df T K (listed.setIfInBounds i true) (a.put o.dst v') w' := fun v' w' e h2 => by
      rw [put_same hsz e]; exact fin _ h2
    generalize hr : (execOp a.eval o).run P w = r at h1
    cases r with
    | ok n w' =>
      cases n <;> first | exact h1.elim | skip
      case value v => exact hpp _ _ h1.1 h1.2
      case skip => exact hpp _ _ h1.1 h1.2
      case enter f args =>
        refine Calls.mono (P := P) h1 fun e w'' he => ?_
        cases e with
        | returned v => exact hpp _ _ he.1 he.2
        | panicked c => exact he.elim
        | outgrown => obtain ⟨_, _, h9⟩ := he; exact h9.elim
      case row row args =>
        refine Rows.mono h1 fun v w'' he => ?_
        exact hpp _ _ he.1 he.2
      case defer d =>
        exfalso
        have h3 := congrArg Act.defers h1.1
        have : ∀ (x : Act) (u : Value), (x.put o.dst u).defers = x.defers := fun x u => by cases o.dst <;> rfl
        rw [this, this] at h3
        have h4 := congrArg List.length h3
        simp at h4
    | halt x w' => cases x <;> exact h1.elim
  · rename_i hw
    rw [if_neg hw] at hstep
    obtain ⟨hv, h1⟩ := hstep
    have := fin w (h1 _ w hpre hpost hl0 h.holds)
    rw [hv] at this
    exact this


theorem way_allX {X : List (Nat × Nat)} (hb : befOK ops (bef ops) = true) (hp : pairsOK ops.size X = true) (hso : slotsOK ops (befX ops X) = true) (hns : noSel ops = true) (hlow : (ops.toList.zipIdx.all fun (o, i) => o.after.all fun e => !Region.binds .any e || decide (e.on < i)) = true)
    {val : Nat → Value} {df : List Deferred} {T : Array Value} {K : (Nat → Bool) → World → Prop}
    (hK : ∀ i o, ops[i]? = some o → StepOK P ops (befX ops X) K i o (fr ops val df T (fun j => decide (j < i)) i) (val i))
    (hend : ∀ w, K (fun i => decide (i < ops.size)) w → Q .normal (fr ops val df T (fun j => decide (j < ops.size)) ops.size) w) :
    ∀ (L : List Nat) (listed : Array Bool) (a : Act) (w : World), Sched ops listed L → OrdX X listed L → (∀ e ∈ X, listed.getD e.1 false = true → listed.getD e.2 false = true) → Way ops val df T K listed a w → wpOps P ops Q L a w := by
  have done : ∀ (listed : Array Bool) (a : Act) (w : World), Way ops val df T K listed a w → Region.ready .any ops listed = [] → Q .normal a w := by
    intro listed a w h hr
    have hallL : ∀ i, i < ops.size → listed.getD i false = true := by
      intro i
      induction i using Nat.strongRecOn with
      | _ i ih =>
        intro hi
        cases hx : listed.getD i false with
        | true => rfl
        | false =>
          have ho : ops[i]? = some ops[i] := Array.getElem?_eq_getElem hi
          have hm : i ∈ Region.ready .any ops listed := by
            refine mem_ready.2 ⟨?_, _, ho, fun e he hbind => ?_⟩
            · have := h.size
              simp [Array.getD, this, hi] at hx ⊢
              exact hx
            · have hz : (ops[i], i) ∈ ops.toList.zipIdx := by
                rw [List.mem_zipIdx_iff_getElem?]; simp
              have h1 := List.all_eq_true.1 hlow _ hz
              have h2 := Array.all_eq_true_iff_forall_mem.1 h1 e he
              rw [hbind] at h2
              have h3 : e.on < i := by simp at h2; exact h2
              exact ih e.on h3 (by omega)
          rw [hr] at hm; cases hm
    have hD : (fun i => listed.getD i false) = fun i => decide (i < ops.size) := by
      funext i
      by_cases hi : i < ops.size
      · rw [hallL i hi, decide_eq_true hi]
      · rw [decide_eq_false hi]; have := h.size; simp [Array.getD, this, hi]
    have h1 := h.holds
    have h2 := h.frame
    rw [hD] at h1 h2
    rw [h2]
    exact hend w h1
  intro L
  induction L with
  | nil => intro listed a w hs _ _ h; exact done _ _ _ h hs
  | cons i L ih =>
    intro listed a w hs hX hpx h
    rw [wpOps_cons]
    obtain ⟨hi, hs2⟩ := hs
    obtain ⟨hl, o, ho, hall⟩ := mem_ready.1 hi
    have hlt : i < ops.size := (Array.getElem?_eq_some_iff.1 ho).1
    have hc0 : ClosedB ops.size (bef ops) fun j => listed.getD j false := fun j hj hd k hk hbit =>
      bef_closed hb h.closed j _ (Array.getElem?_eq_getElem hj) (h.closed j _ (Array.getElem?_eq_getElem hj) hd) k hk hbit
    obtain ⟨c1, c2⟩ := befX_closed X hp hc0 hpx
    have hpre := c2 i hlt (fun j hj hbit => bef_closed hb h.closed i o ho hall j hj hbit) (fun e he h' => hX.1 e he h')
    refine wpOp_mono (fun a' w' h' => ih _ a' w' hs2 hX.2 (fun e he hd => ?_) h') (way_stepX hso hns hK h hi hpre c1)
    by_cases hie : i = e.1
    · exact getD_set_true (hX.1 e he hie.symm)
    · rw [getD_set_ne false hie] at hd
      exact getD_set_true (hpx e he hd)
/-- As wp_segs, of the orders in which X holds. -/
theorem wp_segsX {X : List (Nat × Nat)} {l : List Oper} {a : Act} {w : World} (E : List (Nat × List Nat × List Nat)) (z : List Nat × List Nat) (K : (Nat → Bool) → World → Prop) (hb : befOK l.toArray (bef l.toArray) = true) (hp : pairsOK l.toArray.size X = true) (hso : slotsOK l.toArray (befX l.toArray X) = true) (hns : noSel l.toArray = true)
    (hlow : (l.toArray.toList.zipIdx.all fun (o, i) => o.after.all fun e => !Region.binds .any e || decide (e.on < i)) = true) (hE : segsOK l.toArray (befX l.toArray X) z E 0 l = true)
    (h0 : K (fun _ => false) w) (hKE : ∀ j, j ∉ E.map (·.1) → ∀ D w, K D w → K (upd D j) w) (h : Segs P l.toArray (befX l.toArray X) K Q z E 0 l a) : wpX P l.toArray Q X a w := by
  intro L hs hX
  have ht := text_segs (P := P) (Q := Q) (b := befX l.toArray X) (K := K) (ops := l.toArray) E 0 l a (by simp) (fun j _ => by simp) hE (fun j _ hj => hKE j hj) h
  have ht : Text P l.toArray (befX l.toArray X) K Q l.toArray.size 0 a := by simpa using ht
  obtain ⟨val, h1, h2⟩ := text_val (df := a.defers) (T := a.tmps) l.toArray.size 0 a (by omega) (fun _ => undef) (fun j o hj => by omega) rfl ht
  have hD : (fun i => (Array.replicate l.toArray.size false).getD i false) = fun _ => false := by
    funext i; simp [Array.getD]
  have hD' : ∀ i, (Array.replicate l.toArray.size false).getD i false = false := fun i => congrFun hD i
  refine way_allX hb hp hso hns hlow h1 h2 L _ a w hs hX (fun e _ h => by rw [hD'] at h; cases h) ⟨by simp, ?_, ?_, ?_⟩
  · rw [hD]; intro i o _ h; cases h
  · rw [hD]
    have : ∀ k, fr l.toArray val a.defers a.tmps (fun _ => false) k = a := by
      intro k
      induction k with
      | zero => rfl
      | succ k ih => rw [fr_succ]; split <;> simp [ih]
    exact (this _).symm
  · rw [hD]; exact h0

/-! Operations that turn the world one behind the other, in a sure order (that X makes sure) -/
/-- c: their places, in that order; W k: the world behind the first k. -/
def chK (W : Nat → World) (c : List Nat) (D : Nat → Bool) (w : World) : Prop := w = W (c.takeWhile D).length
theorem tw_len : ∀ (c : List Nat) (D : Nat → Bool) (k : Nat), k ≤ c.length → (∀ j ∈ c.take k, D j = true) → (∀ j, c[k]? = some j → D j = false) → (c.takeWhile D).length = k
  | [], D, k, h, _, _ => by simp at h; simp [h]
  | x :: c, D, 0, _, _, h => by rw [List.takeWhile_cons, if_neg (by rw [h x (by simp)]; decide)]; rfl
  | x :: c, D, k + 1, hk, h1, h2 => by
    rw [List.takeWhile_cons, if_pos (h1 x (by simp)), List.length_cons, tw_len c D k (by simpa using hk) (fun j hj => h1 j (by simp [hj])) (fun j hj => h2 j (by simpa using hj))]
def chPos (n : Nat) (b : Array Nat) (c : List Nat) (k i : Nat) : Bool := (c[k]? == some i) && (c.take k).all (fun j => decide (j < n) && (b.getD i 0).testBit j) && (c.drop (k + 1)).all (fun j => decide (j < n) && (b.getD j 0).testBit i && decide (j ≠ i))
theorem chK_step {b : Array Nat} {n : Nat} {W : Nat → World} {c : List Nat} {D : Nat → Bool} {u : World} {α : Type} {run : World → Result α} {v : α} (k i : Nat) (hb : ∀ j, j < n → (b.getD i 0).testBit j = true → D j = true) (hb2 : ∀ j, j < n → (b.getD j 0).testBit i = true → D j = false) (hi : D i = false)
    (hK : chK W c D u) (hpos : chPos n b c k i = true) (hr : run (W k) = .ok v (W (k + 1))) : ∃ w', run u = .ok v w' ∧ chK W c (upd D i) w' := by
  simp only [chPos, Bool.and_eq_true, List.all_eq_true, decide_eq_true_eq, beq_iff_eq] at hpos
  obtain ⟨⟨hk, h1⟩, h2⟩ := hpos
  have hkl : k < c.length := (List.getElem?_eq_some_iff.1 hk).1
  have e1 := tw_len c D k (by omega) (fun j hj => hb j (h1 j hj).1 (h1 j hj).2) (fun j hj => by rw [hk] at hj; injection hj with hj; rw [← hj]; exact hi)
  have e2 := tw_len c (upd D i) (k + 1) (by omega) (fun j hj => by
    rw [List.take_add_one, hk] at hj
    unfold upd
    rcases List.mem_append.1 hj with hj | hj
    · rw [hb j (h1 j hj).1 (h1 j hj).2]; rfl
    · simp at hj; rw [hj]; simp) (fun j hj => by
    have hm : j ∈ c.drop (k + 1) := List.mem_of_getElem? (i := 0) (by rw [List.getElem?_drop]; simpa using hj)
    obtain ⟨⟨q1, q2⟩, q3⟩ := h2 j hm
    unfold upd
    rw [hb2 j q1 q2]; simp [q3])
  unfold chK at hK ⊢
  rw [e1] at hK
  subst hK
  exact ⟨_, hr, by rw [e2]⟩
theorem chK_out {W : Nat → World} {c : List Nat} (j : Nat) (hj : j ∉ c) (D : Nat → Bool) (u : World) (hK : chK W c D u) : chK W c (upd D j) u := by
  have : ∀ c : List Nat, j ∉ c → c.takeWhile (upd D j) = c.takeWhile D := by
    intro c
    induction c with
    | nil => intro _; rfl
    | cons x c ih =>
      intro h
      simp only [List.mem_cons, not_or] at h
      have e : upd D j x = D x := by unfold upd; simp [Ne.symm h.1]
      rw [List.takeWhile_cons, List.takeWhile_cons, e, ih h.2]
  unfold chK at hK ⊢
  rw [this c hj]; exact hK
theorem chK_end {W : Nat → World} {c : List Nat} {D : Nat → Bool} {u : World} (h : c.all D = true) (hK : chK W c D u) : u = W c.length := by
  unfold chK at hK
  rwa [tw_len c D c.length (Nat.le_refl _) (fun j hj => List.all_eq_true.1 h j (by simpa using hj)) (fun j hj => by simp at hj)] at hK
theorem chK_start {W : Nat → World} {c : List Nat} {w : World} (h : W 0 = w) : chK W c (fun _ => false) w := by
  unfold chK
  have : (c.takeWhile fun _ => false) = [] := by cases c <;> simp
  rw [this]; exact h.symm
/-- What holds of each world ahead of the one at place e. -/
theorem chK_load {W : Nat → World} {c : List Nat} {X : World → Prop} (m e : Nat) (he : c[m]? = some e) (h : ∀ k, k ≤ m → X (W k)) {p q : List Nat} (hq : e ∈ q) (s : Sub (chK W c) p q) : X s.val := by
  obtain ⟨u, D, hu, _, hn⟩ := s
  have hD := hn e hq
  unfold chK at hu
  show X u
  rw [hu]
  refine h _ ?_
  have key : ∀ (c : List Nat) (m : Nat), c[m]? = some e → (c.takeWhile D).length ≤ m := by
    intro c
    induction c with
    | nil => intro m h; simp at h
    | cons x c ih =>
      intro m h
      cases m with
      | zero => simp at h; rw [List.takeWhile_cons, if_neg (by rw [h, hD]; decide)]; simp
      | succ m =>
        rw [List.takeWhile_cons]
        split
        · have := ih m (by simpa using h); simp; omega
        · simp
  exact key c m he
theorem chK_any {W : Nat → World} {c : List Nat} {X : World → Prop} (h : ∀ k, k ≤ c.length → X (W k)) {p q : List Nat} (s : Sub (chK W c) p q) : X s.val := by
  obtain ⟨u, D, hu, _⟩ := s
  unfold chK at hu
  show X u
  rw [hu]
  exact h _ (List.takeWhile_prefix D).length_le
theorem chK_ne (W : Nat → World) (c : List Nat) (q : List Nat) : Nonempty (Sub (chK W c) [] q) := ⟨⟨W 0, fun _ => false, chK_start rfl, by simp, by simp⟩⟩
end Go.Proofs.Ytphikmdgdbdaiaa
