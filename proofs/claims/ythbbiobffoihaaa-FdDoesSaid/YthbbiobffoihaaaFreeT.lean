import Derived.Test.YthbbiobffoihaaaFree
/- A region in any order, walked once in the order of the text, where what some operations yield is not known ahead (θ): calls, blocks that are made. -/
namespace Go.Proofs.Ythbbiobffoihaaa
open Go
set_option linter.unusedVariables false
variable {P : Program} {ops : Array Oper} {Q : Exit → Act → World → Prop}

/-- What those of S that are done have yielded. -/
def res (S : List Nat) (θ : Nat → Value) (D : Nat → Bool) (j : Nat) : Value := if S.contains j && D j then θ j else undef
def rst (E : List Nat) (D : Nat → Bool) (j : Nat) : Bool := E.contains j && D j
def setV (ρ : Nat → Value) (i : Nat) (v : Value) (j : Nat) : Value := if j = i then v else ρ j

def DetOK (P : Program) (ops : Array Oper) (b : Array Nat) (S E : List Nat) (K : (Nat → Value) → (Nat → Bool) → World → Prop) (θ : Nat → Value) (i : Nat) (o : Oper) (a : Act) (v : Value) : Prop :=
  if Region.wanted o (yielded ops a.tmps) then ∀ D w, Here ops b i D → D i = false → K (res S θ D) (rst E D) w → ∃ n w', (execOp a.eval o).run P w = .ok n w' ∧ (n = .value v ∨ (n = .skip ∧ v = undef)) ∧ K (res S θ D) (rst E (upd D i)) w'
  else v = undef ∧ ∀ D w, Here ops b i D → D i = false → K (res S θ D) (rst E D) w → K (res S θ D) (rst E (upd D i)) w

def ThOK (P : Program) (ops : Array Oper) (b : Array Nat) (S E : List Nat) (Φ : Nat → Value → Prop) (K : (Nat → Value) → (Nat → Bool) → World → Prop) (θ : Nat → Value) (i : Nat) (o : Oper) (a : Act) : Prop :=
  Region.wanted o (yielded ops a.tmps) = true ∧ ∀ D w, Here ops b i D → D i = false → K (res S θ D) (rst E D) w → o.wp P a w (fun a' w' => ∃ v, Φ i v ∧ a' = a.put o.dst v ∧ K (setV (res S θ D) i v) (rst E (upd D i)) w') fun _ _ _ => False

structure WayT (ops : Array Oper) (S E : List Nat) (Φ : Nat → Value → Prop) (val : (Nat → Value) → Nat → Value) (df : List Deferred) (T : Array Value) (K : (Nat → Value) → (Nat → Bool) → World → Prop) (listed : Array Bool) (a : Act) (w : World) : Prop where
  size : listed.size = ops.size
  closed : Closed ops fun i => listed.getD i false
  way : ∃ θ, (∀ i, S.contains i = true → Φ i (θ i)) ∧ (∀ θ', (∀ i, S.contains i = true → Φ i (θ' i)) → (∀ j, S.contains j = true → listed.getD j false = true → θ' j = θ j) → a = fr ops (val θ') df T (fun i => listed.getD i false) ops.size) ∧ K (res S θ fun i => listed.getD i false) (rst E fun i => listed.getD i false) w

theorem res_agree {S : List Nat} {θ θ' : Nat → Value} {D : Nat → Bool} (h : ∀ j, S.contains j = true → D j = true → θ' j = θ j) : res S θ' D = res S θ D := by
  funext j
  unfold res
  split
  · rename_i hj
    rw [Bool.and_eq_true] at hj
    exact h j hj.1 hj.2
  · rfl
theorem res_upd_not {S : List Nat} {θ : Nat → Value} {D : Nat → Bool} {i : Nat} (h : S.contains i = false) : res S θ (upd D i) = res S θ D := by
  funext j
  unfold res upd
  by_cases hj : j = i
  · subst hj; rw [h]; simp
  · have : (j == i) = false := by simpa using hj
    rw [this, Bool.or_false]
theorem res_upd {S : List Nat} {θ : Nat → Value} {D : Nat → Bool} {i : Nat} {v : Value} (h : S.contains i = true) (hD : D i = false) : res S (setV θ i v) (upd D i) = setV (res S θ D) i v := by
  funext j
  unfold res upd setV
  by_cases hj : j = i
  · subst hj; rw [h]; simp
  · have : (j == i) = false := by simpa using hj
    rw [this, Bool.or_false]; simp [hj]

theorem way_stepT {b : Array Nat} {S E : List Nat} {Φ : Nat → Value → Prop} (hb : befOK ops b = true) (hso : slotsOK ops b = true) (hns : noSel ops = true) {val : (Nat → Value) → Nat → Value} {df : List Deferred} {T : Array Value}
    {K : (Nat → Value) → (Nat → Bool) → World → Prop}
    (hK : ∀ θ, (∀ i, S.contains i = true → Φ i (θ i)) → ∀ i o, ops[i]? = some o → if S.contains i then val θ i = θ i ∧ ThOK P ops b S E Φ K θ i o (fr ops (val θ) df T (fun j => decide (j < i)) i) else DetOK P ops b S E K θ i o (fr ops (val θ) df T (fun j => decide (j < i)) i) (val θ i))
    {listed : Array Bool} {a : Act} {w : World} (h : WayT ops S E Φ val df T K listed a w) {i : Nat} (hi : i ∈ Region.ready .any ops listed) :
    wpOp P ops Q i (WayT ops S E Φ val df T K (listed.setIfInBounds i true)) a w := by
  obtain ⟨hl, o, ho, hall⟩ := mem_ready.1 hi
  have hlt : i < ops.size := (Array.getElem?_eq_some_iff.1 ho).1
  have hl0 : listed.getD i false = false := by
    have := h.size
    simp [Array.getD, this, hlt] at hl ⊢
    exact hl
  have hDs : (fun j => (listed.setIfInBounds i true).getD j false) = upd (fun j => listed.getD j false) i := by
    funext j
    unfold upd
    by_cases e : i = j
    · subst e; simp [Array.getD, h.size, hlt]
    · rw [getD_set_ne false e]; simp [Ne.symm e]
  have hpre : ∀ j, j < ops.size → (b.getD i 0).testBit j = true → (fun j => listed.getD j false) j = true := bef_closed hb h.closed i o ho hall
  have hcl : Closed ops fun j => (listed.setIfInBounds i true).getD j false := by
    intro j p hp hj e he hbind
    by_cases hij : i = j
    · subst hij
      rw [ho] at hp; injection hp with hp; subst hp
      exact getD_set_true (hall e he hbind)
    · have hj' : listed.getD j false = true := by
        have hj2 : (listed.setIfInBounds i true).getD j false = true := hj
        rw [getD_set_ne false hij] at hj2; exact hj2
      exact getD_set_true (h.closed j p hp hj' e he hbind)
  have hbefore : ∀ j p, ops[j]? = some p → listed.getD j false = true → ∀ k, k < ops.size → (b.getD j 0).testBit k = true → listed.getD k false = true := fun j p hp hj k hk hbit =>
    bef_closed hb h.closed j p hp (h.closed j p hp hj) k hk hbit
  have hpost : ∀ j, j < ops.size → (b.getD j 0).testBit i = true → (fun j => listed.getD j false) j = false := fun j hj hbit => by
    cases hx : listed.getD j false with
    | false => exact hx
    | true =>
      have := hbefore j _ (Array.getElem?_eq_getElem hj) hx i hlt hbit
      rw [hl0] at this; cases this
  have hhere : Here ops b i fun j => listed.getD j false := ⟨hpre, hpost⟩
  have hsi := List.all_eq_true.1 hso i (List.mem_range.2 hlt)
  simp only [ho] at hsi
  have hslot : ∀ t, t ∈ o.looksAt ops ∨ o.dst = some t → ∀ j p, ops[j]? = some p → p.dst = some t → j ≠ i → listed.getD j false = decide (j < i) := by
    intro t ht j p hp hd hne
    have hj : j < ops.size := (Array.getElem?_eq_some_iff.1 hp).1
    have h1 := List.all_eq_true.1 hsi j (List.mem_range.2 hj)
    simp only [hp, hd] at h1
    have hn : (j == i) = false := by simp [hne]
    have hin : ((o.looksAt ops).contains t || o.dst == some t) = true := by
      rcases ht with ht | ht
      · simp [ht]
      · simp [ht]
    rw [hn, hin] at h1
    simp only [Bool.not_true, Bool.false_or] at h1
    by_cases hji : j < i
    · rw [if_pos hji] at h1
      rw [decide_eq_true hji]; exact hpre j hj h1
    · rw [if_neg hji] at h1
      rw [decide_eq_false hji]
      cases hx : listed.getD j false with
      | false => rfl
      | true =>
        have := hbefore j p hp hx i hlt h1
        rw [hl0] at this; cases this
  obtain ⟨θ, hΦ, hfr, hKw⟩ := h.way
  have hput : ∀ θ', a = fr ops (val θ') df T (fun i => listed.getD i false) ops.size → (a.put o.dst (val θ' i)) = fr ops (val θ') df T (fun j => (listed.setIfInBounds i true).getD j false) ops.size := by
    intro θ' hf
    obtain ⟨n, hn⟩ : ∃ n, ops.size = i + 1 + n := ⟨ops.size - (i + 1), by omega⟩
    rw [hf, hDs, hn]
    refine fr_put ho hl0 n fun j p hj hp hs hd => ?_
    obtain ⟨t, ht⟩ := Option.isSome_iff_exists.1 hs
    have := hslot t (.inr (by rw [← hd, ht])) j p hp ht (by omega)
    rw [this]; simp; omega
  have hsl : ∀ θ', a = fr ops (val θ') df T (fun i => listed.getD i false) ops.size → ∀ t, t ∈ o.looksAt ops → a.tmps[t]? = (fr ops (val θ') df T (fun j => decide (j < i)) i).tmps[t]? := by
    intro θ' hf t ht
    rw [hf]
    obtain ⟨n, hn⟩ : ∃ n, ops.size = i + n := ⟨ops.size - i, by omega⟩
    rw [← fr_cut i n, ← hn]
    refine (fr_slot _ _ t ops.size fun j p _ hp hd => ?_).1
    by_cases hji : j = i
    · subst hji; rw [hl0]; simp
    · exact hslot t (.inl ht) j p hp hd hji
  have hevals : ∀ θ', a = fr ops (val θ') df T (fun i => listed.getD i false) ops.size → execOp a.eval o = execOp (fr ops (val θ') df T (fun j => decide (j < i)) i).eval o := by
    intro θ' hf
    refine execOp_congr o (fun cs bb => ?_) fun x hx => ?_
    · intro e
      have := Array.all_eq_true_iff_forall_mem.1 hns o (Array.mem_of_getElem? ho)
      rw [e] at this; cases this
    · cases x with
      | tmp t =>
        have := hsl θ' hf t (List.mem_append_left _ (List.mem_filterMap.2 ⟨.tmp t, by simpa using hx, rfl⟩))
        simp only [Act.eval, Array.getD_eq_getD_getElem?, this]
      | _ => rfl
  have hwant : ∀ θ', a = fr ops (val θ') df T (fun i => listed.getD i false) ops.size → Region.wanted o (yielded ops a.tmps) = Region.wanted o (yielded ops (fr ops (val θ') df T (fun j => decide (j < i)) i).tmps) := by
    intro θ' hf
    unfold Region.wanted
    cases hg : o.guard with
    | none => rfl
    | some gw =>
      obtain ⟨g, want⟩ := gw
      simp only
      congr 1
      unfold yielded
      cases ht : (ops[g]?).bind (·.dst) with
      | none => rfl
      | some t =>
        have := hsl θ' hf t (List.mem_append_right _ (by simp [hg, ht]))
        simp only [Option.bind_some, this]
  have hsz : ∀ θ', a = fr ops (val θ') df T (fun i => listed.getD i false) ops.size → a.tmps.size = (fr ops (val θ') df T (fun j => decide (j < i)) i).tmps.size := fun θ' hf => by rw [fr_size]; conv => lhs; rw [hf, fr_size]
  have hself := hfr θ hΦ fun _ _ _ => rfl
  cases hS : S.contains i with
  | true =>
    have hstep := hK θ hΦ i o ho
    rw [if_pos hS] at hstep
    obtain ⟨_, hw0, hstep⟩ := hstep
    rw [← hwant θ hself] at hw0
    unfold wpOp
    simp only [ho]
    rw [if_pos hw0]
    refine .inl ?_
    have h1 := hstep _ w hhere hl0 hKw
    unfold Oper.wp at h1 ⊢
    rw [← hevals θ hself] at h1
    have hnd := Array.all_eq_true_iff_forall_mem.1 hns o (Array.mem_of_getElem? ho)
    have hpp : ∀ v' w', (∃ v, Φ i v ∧ (fr ops (val θ) df T (fun j => decide (j < i)) i).put o.dst v' = (fr ops (val θ) df T (fun j => decide (j < i)) i).put o.dst v ∧ K (setV (res S θ fun j => listed.getD j false) i v) (rst E (upd (fun j => listed.getD j false) i)) w') → WayT ops S E Φ val df T K (listed.setIfInBounds i true) (a.put o.dst v') w' := fun v' w' ⟨v, hv, e, h2⟩ => by
      rw [put_same (hsz θ hself) e]
      refine ⟨by simp [h.size], hcl, setV θ i v, fun j hj => ?_, fun θ' hΦ' hag => ?_, ?_⟩
      · unfold setV
        split
        · rename_i e; rw [e]; exact hv
        · exact hΦ j hj
      · have hag0 : ∀ j, S.contains j = true → listed.getD j false = true → θ' j = θ j := fun j hj hd => by
          have hji : j ≠ i := fun e => by rw [e, hl0] at hd; cases hd
          have := hag j hj (getD_set_true hd)
          rw [this]; unfold setV; rw [if_neg hji]
        have hf' := hfr θ' hΦ' hag0
        have hvi : θ' i = v := by
          have hset : (listed.setIfInBounds i true).getD i false = true := by
            have := congrFun hDs i
            simp only [upd] at this
            rw [this]; simp
          have := hag i hS hset
          rw [this]; unfold setV; rw [if_pos rfl]
        have hval := hK θ' hΦ' i o ho
        rw [if_pos hS] at hval
        rw [← hput θ' hf', hval.1, hvi]
      · rw [hDs, res_upd hS hl0]; exact h2
    generalize hr : (execOp a.eval o).run P w = r at h1
    cases r with
    | ok n w' =>
      cases n <;> first | exact h1.elim | skip
      case value v => exact hpp _ _ h1
      case skip => exact hpp _ _ h1
      case enter f args =>
        refine Calls.mono (P := P) h1 fun e w'' he => ?_
        cases e with
        | returned v => exact hpp _ _ he
        | panicked c => exact he.elim
        | outgrown => obtain ⟨_, _, h9⟩ := he; exact h9.elim
      case row row args =>
        refine Rows.mono h1 fun v w'' he => ?_
        exact hpp _ _ he
      case defer d =>
        exfalso
        obtain ⟨v, _, h1, _⟩ := h1
        have h3 := congrArg Act.defers h1
        have : ∀ (x : Act) (u : Value), (x.put o.dst u).defers = x.defers := fun x u => by cases o.dst <;> rfl
        rw [this, this] at h3
        have h4 := congrArg List.length h3
        simp at h4
    | halt x w' => cases x <;> exact h1.elim
  | false =>
    have hstepA : ∀ θ', (∀ i, S.contains i = true → Φ i (θ' i)) → DetOK P ops b S E K θ' i o (fr ops (val θ') df T (fun j => decide (j < i)) i) (val θ' i) := fun θ' hΦ' => by
      have := hK θ' hΦ' i o ho
      rwa [if_neg (by rw [hS]; exact Bool.false_ne_true)] at this
    have hagree : ∀ θ' : Nat → Value, (∀ j, S.contains j = true → (listed.setIfInBounds i true).getD j false = true → θ' j = θ j) → ∀ j, S.contains j = true → listed.getD j false = true → θ' j = θ j := fun θ' hag j hj hd => hag j hj (getD_set_true hd)
    have fin : ∀ v' w', (∀ θ', (∀ i, S.contains i = true → Φ i (θ' i)) → (∀ j, S.contains j = true → listed.getD j false = true → θ' j = θ j) → val θ' i = v') → K (res S θ fun j => listed.getD j false) (rst E (upd (fun j => listed.getD j false) i)) w' → WayT ops S E Φ val df T K (listed.setIfInBounds i true) (a.put o.dst v') w' := fun v' w' hv hw' =>
      ⟨by simp [h.size], hcl, θ, hΦ, fun θ' hΦ' hag => by
        have hag0 := hagree θ' hag
        rw [← hput θ' (hfr θ' hΦ' hag0), hv θ' hΦ' hag0], by rw [hDs, res_upd_not hS]; exact hw'⟩
    unfold wpOp
    simp only [ho]
    have hst := hstepA θ hΦ
    split
    · rename_i hw
      refine .inl ?_
      unfold DetOK at hst
      rw [if_pos (by rw [← hwant θ hself]; exact hw)] at hst
      obtain ⟨n, w', hrun, hn, hk⟩ := hst _ w hhere hl0 hKw
      rw [← hevals θ hself] at hrun
      have hsame : ∀ θ', (∀ i, S.contains i = true → Φ i (θ' i)) → (∀ j, S.contains j = true → listed.getD j false = true → θ' j = θ j) → (n = .value (val θ' i) ∨ (n = .skip ∧ val θ' i = undef)) := fun θ' hΦ' hag => by
        have hf' := hfr θ' hΦ' hag
        have h9 := hstepA θ' hΦ'
        unfold DetOK at h9
        rw [if_pos (by rw [← hwant θ' hf']; exact hw)] at h9
        obtain ⟨n2, w2, hrun2, hn2, _⟩ := h9 _ w hhere hl0 (by rw [res_agree hag]; exact hKw)
        rw [← hevals θ' hf', hrun] at hrun2
        injection hrun2 with e1 _
        rw [e1]; exact hn2
      unfold Oper.wp
      rw [hrun]
      rcases hn with hn | ⟨hn, hv0⟩
      · rw [hn]
        exact fin _ _ (fun θ' hΦ' hag => by
          rcases hsame θ' hΦ' hag with e | ⟨e, _⟩
          · rw [hn] at e; injection e with e; exact e.symm
          · rw [hn] at e; cases e) hk
      · rw [hn]
        exact fin _ _ (fun θ' hΦ' hag => by
          rcases hsame θ' hΦ' hag with e | ⟨_, e⟩
          · rw [hn] at e; cases e
          · exact e) hk
    · rename_i hw
      have hund : ∀ θ', (∀ i, S.contains i = true → Φ i (θ' i)) → (∀ j, S.contains j = true → listed.getD j false = true → θ' j = θ j) → val θ' i = undef := fun θ' hΦ' hag => by
        have hf' := hfr θ' hΦ' hag
        have h9 := hstepA θ' hΦ'
        unfold DetOK at h9
        rw [if_neg (by rw [← hwant θ' hf']; exact hw)] at h9
        exact h9.1
      unfold DetOK at hst
      rw [if_neg (by rw [← hwant θ hself]; exact hw)] at hst
      exact fin _ _ hund (hst.2 _ w hhere hl0 hKw)

theorem way_allT {b : Array Nat} {S E : List Nat} {Φ : Nat → Value → Prop} (hb : befOK ops b = true) (hso : slotsOK ops b = true) (hns : noSel ops = true) (hlow : (ops.toList.zipIdx.all fun (o, i) => o.after.all fun e => !Region.binds .any e || decide (e.on < i)) = true)
    {val : (Nat → Value) → Nat → Value} {df : List Deferred} {T : Array Value} {K : (Nat → Value) → (Nat → Bool) → World → Prop}
    (hK : ∀ θ, (∀ i, S.contains i = true → Φ i (θ i)) → ∀ i o, ops[i]? = some o → if S.contains i then val θ i = θ i ∧ ThOK P ops b S E Φ K θ i o (fr ops (val θ) df T (fun j => decide (j < i)) i) else DetOK P ops b S E K θ i o (fr ops (val θ) df T (fun j => decide (j < i)) i) (val θ i))
    (hend : ∀ θ, (∀ i, S.contains i = true → Φ i (θ i)) → ∀ w, K (res S θ fun i => decide (i < ops.size)) (rst E fun i => decide (i < ops.size)) w → Q .normal (fr ops (val θ) df T (fun j => decide (j < ops.size)) ops.size) w) :
    ∀ (fuel : Nat) (listed : Array Bool) (a : Act) (w : World), unl ops.size listed ≤ fuel → WayT ops S E Φ val df T K listed a w → wpAny P .any ops Q fuel listed a w := by
  have done : ∀ (listed : Array Bool) (a : Act) (w : World), WayT ops S E Φ val df T K listed a w → Region.ready .any ops listed = [] → Q .normal a w := by
    intro listed a w h hr
    have hallL : ∀ i, i < ops.size → listed.getD i false = true := by
      intro i
      induction i using Nat.strongRecOn with
      | _ i ih =>
        intro hi
        cases hx : listed.getD i false with
        | true => rfl
        | false =>
          have ho : ops[i]? = some ops[i] := Array.getElem?_eq_getElem hi
          have hm : i ∈ Region.ready .any ops listed := by
            refine mem_ready.2 ⟨?_, _, ho, fun e he hbind => ?_⟩
            · have := h.size
              simp [Array.getD, this, hi] at hx ⊢
              exact hx
            · have hz : (ops[i], i) ∈ ops.toList.zipIdx := by
                rw [List.mem_zipIdx_iff_getElem?]; simp
              have h1 := List.all_eq_true.1 hlow _ hz
              have h2 := Array.all_eq_true_iff_forall_mem.1 h1 e he
              rw [hbind] at h2
              have h3 : e.on < i := by simp at h2; exact h2
              exact ih e.on h3 (by omega)
          rw [hr] at hm; cases hm
    have hD : (fun i => listed.getD i false) = fun i => decide (i < ops.size) := by
      funext i
      by_cases hi : i < ops.size
      · rw [hallL i hi, decide_eq_true hi]
      · rw [decide_eq_false hi]; have := h.size; simp [Array.getD, this, hi]
    obtain ⟨θ, hΦ, h2, h1⟩ := h.way
    have h2 := h2 θ hΦ fun _ _ _ => rfl
    rw [hD] at h1 h2
    rw [h2]
    exact hend θ hΦ w h1
  intro fuel
  induction fuel with
  | zero =>
    intro listed a w hf h
    have hr : Region.ready .any ops listed = [] := by
      cases hr : Region.ready .any ops listed with
      | nil => rfl
      | cons i l =>
        have hm : i ∈ Region.ready .any ops listed := by rw [hr]; simp
        obtain ⟨hl, o, ho, _⟩ := mem_ready.1 hm
        have hlt : i < ops.size := (Array.getElem?_eq_some_iff.1 ho).1
        have hl0 : listed.getD i false = false := by
          have := h.size
          simp [Array.getD, this, hlt] at hl ⊢
          exact hl
        have := unl_set hlt h.size hl0
        omega
    exact ⟨hr, done _ _ _ h hr⟩
  | succ fuel ih =>
    intro listed a w hf h
    refine ⟨done _ _ _ h, fun i hi => wpOp_mono (fun a' w' h' => ih _ a' w' ?_ h') (way_stepT hb hso hns hK h hi)⟩
    obtain ⟨hl, o, ho, _⟩ := mem_ready.1 hi
    have hlt : i < ops.size := (Array.getElem?_eq_some_iff.1 ho).1
    have hl0 : listed.getD i false = false := by
      have := h.size
      simp [Array.getD, this, hlt] at hl ⊢
      exact hl
    have := unl_set hlt h.size hl0
    omega

/-- The operations in the order of the text, θ given. -/
def TextT (P : Program) (ops : Array Oper) (b : Array Nat) (S E : List Nat) (Φ : Nat → Value → Prop) (K : (Nat → Value) → (Nat → Bool) → World → Prop) (Q : Exit → Act → World → Prop) (θ : Nat → Value) : Nat → Nat → Act → Prop
  | 0, _, a => ∀ w, K (res S θ fun j => decide (j < ops.size)) (rst E fun j => decide (j < ops.size)) w → Q .normal a w
  | n + 1, i, a => match ops[i]? with
    | none => False
    | some o => if S.contains i then ThOK P ops b S E Φ K θ i o a ∧ TextT P ops b S E Φ K Q θ n (i + 1) (a.put o.dst (θ i))
      else ∃ v, DetOK P ops b S E K θ i o a v ∧ TextT P ops b S E Φ K Q θ n (i + 1) (a.put o.dst v)

/-- What is shown of operation i. -/
def OneT (P : Program) (ops : Array Oper) (b : Array Nat) (S E : List Nat) (Φ : Nat → Value → Prop) (K : (Nat → Value) → (Nat → Bool) → World → Prop) (θ : Nat → Value) (i : Nat) (o : Oper) (a : Act) (v : Value) : Prop :=
  if S.contains i then v = θ i ∧ ThOK P ops b S E Φ K θ i o a else DetOK P ops b S E K θ i o a v

theorem textT_val {b : Array Nat} {S E : List Nat} {Φ : Nat → Value → Prop} {K : (Nat → Value) → (Nat → Bool) → World → Prop} {df : List Deferred} {T : Array Value} {θ : Nat → Value} : ∀ (n i : Nat) (a : Act), i + n = ops.size → ∀ (val0 : Nat → Value), (∀ j o, j < i → ops[j]? = some o → OneT P ops b S E Φ K θ j o (fr ops val0 df T (fun l => decide (l < j)) j) (val0 j)) → a = fr ops val0 df T (fun l => decide (l < i)) i → TextT P ops b S E Φ K Q θ n i a →
    ∃ val : Nat → Value, (∀ j o, ops[j]? = some o → OneT P ops b S E Φ K θ j o (fr ops val df T (fun l => decide (l < j)) j) (val j)) ∧ (∀ w, K (res S θ fun j => decide (j < ops.size)) (rst E fun j => decide (j < ops.size)) w → Q .normal (fr ops val df T (fun j => decide (j < ops.size)) ops.size) w)
  | 0, i, a, hi, val0, h0, ha, h => ⟨val0, fun j o ho => h0 j o (by have := (Array.getElem?_eq_some_iff.1 ho).1; omega) ho, fun w hw => by
      have hi' : i = ops.size := by omega
      have := h w hw
      rw [ha, hi'] at this
      exact this⟩
  | n + 1, i, a, hi, val0, h0, ha, h => by
    have hlt : i < ops.size := by omega
    have ho : ops[i]? = some ops[i] := Array.getElem?_eq_getElem hlt
    unfold TextT at h
    rw [ho] at h
    simp only at h
    obtain ⟨v, h1, h2⟩ : ∃ v, OneT P ops b S E Φ K θ i ops[i] a v ∧ TextT P ops b S E Φ K Q θ n (i + 1) (a.put (ops[i]).dst v) := by
      unfold OneT
      split at h
      · rename_i hS; exact ⟨θ i, by rw [if_pos hS]; exact ⟨rfl, h.1⟩, h.2⟩
      · rename_i hS; obtain ⟨v, h1, h2⟩ := h; exact ⟨v, by rw [if_neg hS]; exact h1, h2⟩
    have same : ∀ j, j ≤ i → fr ops (fun l => if l = i then v else val0 l) df T (fun l => decide (l < j)) j = fr ops val0 df T (fun l => decide (l < j)) j := by
      intro j hj
      have key : ∀ (D : Nat → Bool) k, k ≤ i → fr ops (fun l => if l = i then v else val0 l) df T D k = fr ops val0 df T D k := by
        intro D k
        induction k with
        | zero => intro _; rfl
        | succ k ih =>
          intro hk
          rw [fr_succ, fr_succ, ih (by omega), if_neg (by omega)]
      exact key _ j hj
    refine textT_val n (i + 1) _ (by omega) (fun l => if l = i then v else val0 l) (fun j o hj ho' => ?_) ?_ h2
    · rw [same j (by omega)]
      by_cases hji : j = i
      · subst hji
        rw [ho] at ho'; injection ho' with ho'; subst ho'
        rw [if_pos rfl, ← ha]; exact h1
      · rw [if_neg hji]; exact h0 j o (by omega) ho'
    · rw [fr_succ, ho]
      simp only [decide_eq_true (Nat.lt_succ_self i), if_true]
      rw [fr_congr (fun l => decide (l < i + 1)) (fun l => decide (l < i)) i (fun j hj => by simp [hj]; omega), same i (Nat.le_refl _), ← ha]

theorem wp_freeT {id : Nat} {a : Act} {w : World} (b : Array Nat) {S E : List Nat} {Φ : Nat → Value → Prop} (K : (Nat → Value) → (Nat → Bool) → World → Prop) (hm : P.follows .mixedOrders = true) (hb : befOK ops b = true) (hso : slotsOK ops b = true) (hns : noSel ops = true)
    (hlow : (ops.toList.zipIdx.all fun (o, i) => o.after.all fun e => !Region.binds .any e || decide (e.on < i)) = true)
    (hΦ0 : ∀ i, S.contains i = true → ∃ v, Φ i v)
    (h0 : K (fun _ => undef) (fun _ => false) { w with drawn := w.drawn + 1 }) (h : ∀ θ, (∀ i, S.contains i = true → Φ i (θ i)) → TextT P ops b S E Φ K Q θ ops.size 0 a) : (Code.region id ops true).wp P Q a w := by
  refine wp_region_any hm ?_
  have hex : ∀ θ, ∃ val : Nat → Value, (∀ i, S.contains i = true → Φ i (θ i)) → (∀ j o, ops[j]? = some o → OneT P ops b S E Φ K θ j o (fr ops val a.defers a.tmps (fun l => decide (l < j)) j) (val j)) ∧ (∀ w, K (res S θ fun j => decide (j < ops.size)) (rst E fun j => decide (j < ops.size)) w → Q .normal (fr ops val a.defers a.tmps (fun j => decide (j < ops.size)) ops.size) w) := by
    intro θ
    by_cases hΦ : ∀ i, S.contains i = true → Φ i (θ i)
    · obtain ⟨val, h1⟩ := textT_val (df := a.defers) (T := a.tmps) ops.size 0 a (by omega) (fun _ => undef) (fun j o hj => by omega) rfl (h θ hΦ)
      exact ⟨val, fun _ => h1⟩
    · exact ⟨fun _ => undef, fun h => absurd h hΦ⟩
  obtain ⟨val, hval⟩ := Classical.skolem.1 hex
  have hD : (fun i => (Array.replicate ops.size false).getD i false) = fun _ => false := by
    funext i; simp [Array.getD]
  obtain ⟨θ0, hθ0⟩ : ∃ θ : Nat → Value, ∀ i, S.contains i = true → Φ i (θ i) := by
    have : ∀ i, ∃ v, S.contains i = true → Φ i v := fun i => by
      by_cases hS : S.contains i = true
      · obtain ⟨v, hv⟩ := hΦ0 i hS; exact ⟨v, fun _ => hv⟩
      · exact ⟨undef, fun h => absurd h hS⟩
    exact Classical.skolem.1 this
  refine way_allT (S := S) (E := E) (Φ := Φ) (val := val) (df := a.defers) (T := a.tmps) (K := K) hb hso hns hlow (fun θ hΦ i o ho => ?_) (fun θ hΦ => (hval θ hΦ).2) ops.size _ a _ ?_ ⟨by simp, ?_, θ0, hθ0, fun θ' _ _ => ?_, ?_⟩
  · exact (hval θ hΦ).1 i o ho
  · exact Nat.le_trans List.countP_le_length (by simp)
  · rw [hD]; intro i o _ h; cases h
  · rw [hD]
    have : ∀ k, fr ops (val θ') a.defers a.tmps (fun _ => false) k = a := by
      intro k
      induction k with
      | zero => rfl
      | succ k ih => rw [fr_succ]; split <;> simp [ih]
    exact (this _).symm
  · rw [hD]
    have e1 : res S θ0 (fun _ => false) = fun _ => undef := by funext j; simp [res]
    have e2 : rst E (fun _ => false) = fun _ => false := by funext j; simp [rst]
    rw [e1, e2]; exact h0

/-! The words for a proof -/
/-- A world of which C holds. -/
structure Wd (C : World → Prop) where
  val : World
  prop : C val
def SegsT (P : Program) (ops : Array Oper) (b : Array Nat) (S E : List Nat) (Φ : Nat → Value → Prop) (K : (Nat → Value) → (Nat → Bool) → World → Prop) (Q : Exit → Act → World → Prop) (C : World → Prop) (θ : Nat → Value) : List Nat → Nat → List Oper → Act → Prop
  | [], _, l, a => wpQuiet P ops (fun w => ∃ s : Wd C, w = s.val) (fun a' => ∀ w, K (res S θ fun j => decide (j < ops.size)) (rst E fun j => decide (j < ops.size)) w → Q .normal a' w) l a
  | e :: es, i, l, a => wpQuiet P ops (fun w => ∃ s : Wd C, w = s.val) (fun a' => match l.drop (e - i) with
      | [] => False
      | o :: r => if S.contains e then ThOK P ops b S E Φ K θ e o a' ∧ SegsT P ops b S E Φ K Q C θ es (e + 1) r (a'.put o.dst (θ e)) else ∃ v, DetOK P ops b S E K θ e o a' v ∧ SegsT P ops b S E Φ K Q C θ es (e + 1) r (a'.put o.dst v)) (l.take (e - i)) a
/-- The places rise, and between them all is plain. -/
def segsOKT (S E : List Nat) : List Nat → Nat → List Oper → Bool
  | [], i, l => l.all plainOp && (List.range l.length).all fun j => !E.contains (i + j) && !S.contains (i + j)
  | e :: es, i, l => decide (i ≤ e) && decide (e - i < l.length) && (l.take (e - i)).all plainOp && ((List.range (e - i)).all fun j => !E.contains (i + j) && !S.contains (i + j)) && segsOKT S E es (e + 1) (l.drop (e - i + 1))
theorem rst_upd_not {E : List Nat} {D : Nat → Bool} {i : Nat} (h : E.contains i = false) : rst E (upd D i) = rst E D := by
  funext j
  unfold rst upd
  by_cases hj : j = i
  · subst hj; rw [h]; simp
  · have : (j == i) = false := by simpa using hj
    rw [this, Bool.or_false]
theorem rst_upd {E : List Nat} {D : Nat → Bool} {i : Nat} (h : E.contains i = true) : rst E (upd D i) = upd (rst E D) i := by
  funext j
  unfold rst upd
  by_cases hj : j = i
  · subst hj; rw [h]; simp
  · have : (j == i) = false := by simpa using hj
    rw [this, Bool.or_false, Bool.or_false]
theorem detOK_of_quiet {b : Array Nat} {S E : List Nat} {K : (Nat → Value) → (Nat → Bool) → World → Prop} {C : World → Prop} {θ : Nat → Value} {i : Nat} (hC : ∀ ρ D w, K ρ D w → C w) {o : Oper} {a : Act} {R : Act → Prop} (hp : plainOp o = true) (hE : E.contains i = false)
    (h : if Region.wanted o (yielded ops a.tmps) then o.quiet P a C R else R (a.put o.dst undef)) : ∃ v, DetOK P ops b S E K θ i o a v ∧ R (a.put o.dst v) := by
  split at h
  · rename_i hw
    obtain ⟨v, h1, h2⟩ := h
    have hdec : (∃ D w, K (res S θ D) (rst E D) w) ∨ ¬ ∃ D w, K (res S θ D) (rst E D) w := Classical.em _
    rcases hdec with ⟨D0, w0, hk0⟩ | hno
    · -- what it yields, as a step or as nothing
      have hne := fun f args w w' => plain_noEnter (P := P) hp a.eval w w' f args
      have hq := fun w hw => h1 w hw
      by_cases hskip : ∃ D w w', K (res S θ D) (rst E D) w ∧ (execOp a.eval o).run P w = .ok .skip w'
      · obtain ⟨D1, w1, w1', hk1, hr1⟩ := hskip
        have h3 := hq w1 (hC _ _ _ hk1)
        unfold Oper.quietAt at h3
        rw [hr1] at h3
        have hvu : v = undef := h3.2
        refine ⟨v, ?_, h2⟩
        unfold DetOK
        rw [if_pos hw]
        intro D w hb hi hK
        have h3 := hq w (hC _ _ _ hK)
        unfold Oper.quietAt at h3
        generalize hr : (execOp a.eval o).run P w = r at *
        cases r with
        | ok n w' =>
          cases n <;> first | exact h3.elim | skip
          case value u => obtain ⟨rfl, rfl⟩ := h3; exact ⟨_, _, rfl, .inl rfl, by rw [rst_upd_not hE]; exact hK⟩
          case skip => obtain ⟨rfl, _⟩ := h3; exact ⟨_, _, rfl, .inr ⟨rfl, hvu⟩, by rw [rst_upd_not hE]; exact hK⟩
          case enter f args => exact absurd hr (hne f args w w')
        | halt x w' => exact h3.elim
      · refine ⟨v, ?_, h2⟩
        unfold DetOK
        rw [if_pos hw]
        intro D w hb hi hK
        have h3 := hq w (hC _ _ _ hK)
        unfold Oper.quietAt at h3
        generalize hr : (execOp a.eval o).run P w = r at *
        cases r with
        | ok n w' =>
          cases n <;> first | exact h3.elim | skip
          case value u => obtain ⟨rfl, rfl⟩ := h3; exact ⟨_, _, rfl, .inl rfl, by rw [rst_upd_not hE]; exact hK⟩
          case skip => exact absurd ⟨D, w, w', hK, hr⟩ hskip
          case enter f args => exact absurd hr (hne f args w w')
        | halt x w' => exact h3.elim
    · refine ⟨v, ?_, h2⟩
      unfold DetOK
      rw [if_pos hw]
      intro D w _ _ hK
      exact absurd ⟨D, w, hK⟩ hno
  · rename_i hw
    exact ⟨undef, by unfold DetOK; rw [if_neg hw]; exact ⟨rfl, fun D w _ _ hK => by rw [rst_upd_not hE]; exact hK⟩, h⟩
theorem textT_seg {b : Array Nat} {S E : List Nat} {Φ : Nat → Value → Prop} {K : (Nat → Value) → (Nat → Bool) → World → Prop} {C : World → Prop} {θ : Nat → Value} {R : Act → Prop} (hC : ∀ ρ D w, K ρ D w → C w) : ∀ (l : List Oper) (i n : Nat) (a : Act), (∀ j, j < l.length → l[j]? = ops[i + j]?) → l.all plainOp = true →
    ((List.range l.length).all fun j => !E.contains (i + j) && !S.contains (i + j)) = true → wpQuiet P ops C R l a → (∀ a', R a' → TextT P ops b S E Φ K Q θ n (i + l.length) a') → TextT P ops b S E Φ K Q θ (n + l.length) i a
  | [], i, n, a, _, _, _, h, hn => hn a h
  | o :: l, i, n, a, hl, hp, hK, h, hn => by
    have h0 : ops[i]? = some o := by simpa using (hl 0 (by simp)).symm
    simp only [List.all_cons, Bool.and_eq_true] at hp
    have hes : E.contains i = false ∧ S.contains i = false := by
      have := List.all_eq_true.1 hK 0 (List.mem_range.2 (by simp))
      simpa using this
    obtain ⟨v, h1, h2⟩ := detOK_of_quiet (b := b) (S := S) (θ := θ) hC hp.1 hes.1 h
    show TextT P ops b S E Φ K Q θ (n + l.length + 1) i a
    unfold TextT
    rw [h0]
    simp only
    rw [if_neg (by rw [hes.2]; exact Bool.false_ne_true)]
    refine ⟨v, h1, textT_seg hC l (i + 1) n _ (fun j hj => ?_) hp.2 ?_ h2 fun a' ha' => ?_⟩
    · have := hl (j + 1) (by simp; omega)
      simpa [Nat.add_assoc, Nat.add_comm 1 j] using this
    · refine List.all_eq_true.2 fun j hj => ?_
      have := List.all_eq_true.1 hK (j + 1) (List.mem_range.2 (by simp; exact List.mem_range.1 hj))
      rwa [show i + (j + 1) = i + 1 + j by omega] at this
    · have := hn a' ha'
      have e : i + 1 + l.length = i + (o :: l).length := by simp; omega
      rw [e]; exact this
theorem textT_segs {b : Array Nat} {S E : List Nat} {Φ : Nat → Value → Prop} {K : (Nat → Value) → (Nat → Bool) → World → Prop} {C : World → Prop} {θ : Nat → Value} (hC : ∀ ρ D w, K ρ D w → C w) : ∀ (es : List Nat) (i : Nat) (l : List Oper) (a : Act), i + l.length = ops.size → (∀ j, j < l.length → l[j]? = ops[i + j]?) → segsOKT S E es i l = true →
    SegsT P ops b S E Φ K Q C θ es i l a → TextT P ops b S E Φ K Q θ l.length i a
  | [], i, l, a, hs, hl, hE, h => by
    simp only [segsOKT, Bool.and_eq_true] at hE
    have hC' : ∀ ρ D w, K ρ D w → ∃ s : Wd C, w = s.val := fun ρ D w hk => ⟨⟨w, hC ρ D w hk⟩, rfl⟩
    have := textT_seg (b := b) (Φ := Φ) (Q := Q) hC' l i 0 a hl hE.1 hE.2 h (fun a' ha' => ha')
    simpa using this
  | e :: es, i, l, a, hs, hl, hE, h => by
    simp only [segsOKT, Bool.and_eq_true, decide_eq_true_eq] at hE
    obtain ⟨⟨⟨⟨hie, hlt⟩, hp⟩, hsd⟩, hE'⟩ := hE
    unfold SegsT at h
    have hd : l.drop (e - i) = l[e - i] :: l.drop (e - i + 1) := List.drop_eq_getElem_cons hlt
    have hlen : (l.take (e - i)).length = e - i := by simp; omega
    have hC' : ∀ ρ D w, K ρ D w → ∃ s : Wd C, w = s.val := fun ρ D w hk => ⟨⟨w, hC ρ D w hk⟩, rfl⟩
    have key := textT_seg (b := b) (Φ := Φ) (Q := Q) hC' (l.take (e - i)) i (l.length - (e - i)) a (fun j hj => by rw [hlen] at hj; rw [List.getElem?_take_of_lt hj]; exact hl j (by omega)) hp (by rw [hlen]; exact hsd) h
      (fun a' ha' => by
        rw [hd] at ha'
        rw [hlen]
        have e1 : l.length - (e - i) = (l.drop (e - i + 1)).length + 1 := by simp; omega
        rw [e1, show i + (e - i) = e from by omega]
        have ho : ops[e]? = some l[e - i] := by
          have := hl (e - i) hlt
          rw [show i + (e - i) = e from by omega] at this
          rw [← this]; exact List.getElem?_eq_getElem hlt
        have go : ∀ a2, SegsT P ops b S E Φ K Q C θ es (e + 1) (l.drop (e - i + 1)) a2 → TextT P ops b S E Φ K Q θ (l.drop (e - i + 1)).length (e + 1) a2 := fun a2 h2 => textT_segs hC es (e + 1) _ _ (by simp; omega) (fun j hj => by
          rw [List.getElem?_drop]
          have := hl (e - i + 1 + j) (by simp at hj; omega)
          rw [this]; congr 1; omega) hE' h2
        unfold TextT
        rw [ho]
        simp only at ha' ⊢
        split at ha'
        · rename_i hS
          rw [if_pos hS]
          exact ⟨ha'.1, go _ ha'.2⟩
        · rename_i hS
          rw [if_neg hS]
          obtain ⟨v, h1, h2⟩ := ha'
          exact ⟨v, h1, go _ h2⟩)
    rw [hlen, show l.length - (e - i) + (e - i) = l.length from by omega] at key
    exact key
/-- A region that draws its order, walked in the text's order; E: the places that turn the world or yield what is not known ahead (S: these). K ρ D w: what holds when just D are done, ρ: what they yielded. C: what the rest reads by. -/
theorem wp_theta {id : Nat} {l : List Oper} {a : Act} {w : World} (S E : List Nat) (Φ : Nat → Value → Prop) (K : (Nat → Value) → (Nat → Bool) → World → Prop) (C : World → Prop) (hm : P.follows .mixedOrders = true) (hb : befOK l.toArray (bef l.toArray) = true) (hso : slotsOK l.toArray (bef l.toArray) = true) (hns : noSel l.toArray = true)
    (hlow : (l.toArray.toList.zipIdx.all fun (o, i) => o.after.all fun e => !Region.binds .any e || decide (e.on < i)) = true) (hE : segsOKT S E E 0 l = true)
    (hΦ0 : ∀ i, S.contains i = true → ∃ v, Φ i v) (h0 : K (fun _ => undef) (fun _ => false) w.drew) (hC : ∀ ρ D w, K ρ D w → C w)
    (h : ∀ θ : Nat → Value, (∀ i, S.contains i = true → Φ i (θ i)) → SegsT P l.toArray (bef l.toArray) S E Φ K Q C θ E 0 l a) : (Code.region id l.toArray true).wp P Q a w := by
  refine wp_freeT (S := S) (E := E) (Φ := Φ) (bef l.toArray) K hm hb hso hns hlow hΦ0 h0 fun θ hΦ => ?_
  have := textT_segs (P := P) (Q := Q) (b := bef l.toArray) (Φ := Φ) (K := K) (ops := l.toArray) hC E 0 l a (by simp) (fun j _ => by simp) hE (h θ hΦ)
  simpa using this
/-- What may be said where operation i is come to: p are done, q are not. -/
def pqOK (ops : Array Oper) (b : Array Nat) (E : List Nat) (p q : List Nat) (i : Nat) : Bool :=
  E.contains i && (p.all fun e => E.contains e && decide (e < ops.size) && (b.getD i 0).testBit e) && q.all fun e => decide (e < ops.size) && (b.getD e 0).testBit i
structure Pq (S : List Nat) (θ : Nat → Value) (p q : List Nat) (i : Nat) (ρ : Nat → Value) (D : Nat → Bool) : Prop where
  now : D i = false
  did : ∀ j ∈ p, D j = true
  not : ∀ j ∈ q, D j = false
  gave : ∀ j ∈ p, S.contains j = true → ρ j = θ j
theorem pq_of {b : Array Nat} {S E p q : List Nat} {i : Nat} (h : pqOK ops b E p q i = true) {θ : Nat → Value} {D : Nat → Bool} (hD : Here ops b i D) (hi : D i = false) : Pq S θ p q i (res S θ D) (rst E D) := by
  simp only [pqOK, Bool.and_eq_true, List.all_eq_true, decide_eq_true_eq] at h
  obtain ⟨⟨hE, hp⟩, hq⟩ := h
  have h1 : ∀ j ∈ p, D j = true := fun j hj => hD.1 j (hp j hj).1.2 (hp j hj).2
  refine ⟨?_, fun j hj => ?_, fun j hj => ?_, fun j hj hS => ?_⟩
  · unfold rst; rw [hi, Bool.and_false]
  · unfold rst; rw [h1 j hj, (hp j hj).1.1]; rfl
  · unfold rst; rw [hD.2 j (hq j hj).1 (hq j hj).2, Bool.and_false]
  · unfold res; rw [hS, h1 j hj]; rfl
section
variable {b : Array Nat} {S E : List Nat} {Φ : Nat → Value → Prop} {K : (Nat → Value) → (Nat → Bool) → World → Prop} {θ : Nat → Value} {i : Nat} {o : Oper} {a : Act} {v : Value}
/-- A call of a named Go function; what it yields is not known ahead. -/
theorem thOK_call (p q : List Nat) (f : FuncId) (xs : Array Operand) (ts : Array TypeId) (hg : Region.wanted o (yielded ops a.tmps) = true) (hop : o.op = .call ⟨.value (.func f), xs, ts⟩)
    (hf : (match P.funcs[f]? with | some fn => decide (fn.name ≠ "runtime.NumGoroutine") && fn.body.isSome | none => false) = true) (args : Array Value) (ha : xs.map a.eval = args) (hpq : pqOK ops b E p q i = true)
    (h : ∀ ρ D w, Pq S θ p q i ρ D → K ρ D w → Calls P f args w fun e w' => ∃ v, e = .returned v ∧ Φ i v ∧ K (setV ρ i v) (upd D i) w') : ThOK P ops b S E Φ K θ i o a := by
  have hiE : E.contains i = true := by simp only [pqOK, Bool.and_eq_true] at hpq; exact hpq.1.1
  refine ⟨hg, fun D w hD hi hK => ?_⟩
  unfold Oper.wp
  have hrun : (execOp a.eval o).run P w = .ok (.enter f args) w := by
    obtain ⟨dst, op, type, pos, after, guard⟩ := o
    simp only at hop
    subst hop
    rw [execOp_call_go]
    simp only [Array.empty_append, Array.append_empty, ha]
    unfold callFunc
    cases hfn : P.funcs[f]? with
    | none => rw [hfn] at hf; cases hf
    | some fn =>
      rw [hfn] at hf
      simp only [Bool.and_eq_true, decide_eq_true_eq] at hf
      have hbn : fn.body.isNone = false := by cases h9 : fn.body <;> simp [h9] at hf ⊢
      have hpr : (program).run P w = .ok P w := rfl
      simp only [Sem.run_bind, hpr, Result.andThen_ok, hfn]
      rw [if_neg (by simpa using hf.1), if_neg (by simp [hbn])]
      rfl
  rw [hrun]
  exact Calls.mono (P := P) (h _ _ w (pq_of hpq hD hi) hK) fun e w' ⟨v, he, hv, h2⟩ => by
    subst he
    exact ⟨v, hv, rfl, by rw [rst_upd hiE]; exact h2⟩
/-- Any other operation; what it yields is not known ahead. -/
theorem thOK_run (p q : List Nat) (hg : Region.wanted o (yielded ops a.tmps) = true) (hpq : pqOK ops b E p q i = true)
    (h : ∀ ρ D w, Pq S θ p q i ρ D → K ρ D w → ∃ v w', (execOp a.eval o).run P w = .ok (.value v) w' ∧ Φ i v ∧ K (setV ρ i v) (upd D i) w') : ThOK P ops b S E Φ K θ i o a := by
  have hiE : E.contains i = true := by simp only [pqOK, Bool.and_eq_true] at hpq; exact hpq.1.1
  refine ⟨hg, fun D w hD hi hK => ?_⟩
  obtain ⟨v, w', hrun, hv, h2⟩ := h _ _ w (pq_of hpq hD hi) hK
  unfold Oper.wp
  rw [hrun]
  exact ⟨v, hv, rfl, by rw [rst_upd hiE]; exact h2⟩
/-- An operation whose value is known. -/
theorem detOK_run (p q : List Nat) (hg : Region.wanted o (yielded ops a.tmps) = true) (hpq : pqOK ops b E p q i = true)
    (h : ∀ ρ D w, Pq S θ p q i ρ D → K ρ D w → ∃ w', (execOp a.eval o).run P w = .ok (.value v) w' ∧ K ρ (upd D i) w') : DetOK P ops b S E K θ i o a v := by
  have hiE : E.contains i = true := by simp only [pqOK, Bool.and_eq_true] at hpq; exact hpq.1.1
  unfold DetOK
  rw [if_pos hg]
  intro D w hD hi hK
  obtain ⟨w', hrun, h2⟩ := h _ _ w (pq_of hpq hD hi) hK
  exact ⟨_, w', hrun, .inl rfl, by rw [rst_upd hiE]; exact h2⟩
/-- A store, a map's update. -/
theorem detOK_skip (p q : List Nat) (hg : Region.wanted o (yielded ops a.tmps) = true) (hpq : pqOK ops b E p q i = true)
    (h : ∀ ρ D w, Pq S θ p q i ρ D → K ρ D w → ∃ w', (execOp a.eval o).run P w = .ok .skip w' ∧ K ρ (upd D i) w') : DetOK P ops b S E K θ i o a undef := by
  have hiE : E.contains i = true := by simp only [pqOK, Bool.and_eq_true] at hpq; exact hpq.1.1
  unfold DetOK
  rw [if_pos hg]
  intro D w hD hi hK
  obtain ⟨w', hrun, h2⟩ := h _ _ w (pq_of hpq hD hi) hK
  exact ⟨_, w', hrun, .inr ⟨rfl, rfl⟩, by rw [rst_upd hiE]; exact h2⟩
end
end Go.Proofs.Ythbbiobffoihaaa
