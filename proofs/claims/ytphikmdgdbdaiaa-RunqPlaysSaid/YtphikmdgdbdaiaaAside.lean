import Derived.Test.YtphikmdgdbdaiaaTurn
/- Queues beside blocks that no call touches. -/
namespace Go.Proofs.Ytphikmdgdbdaiaa
open Go.RowKit
set_option linter.unusedVariables false
set_option linter.unusedSimpArgs false
/-- The queues behind the pointer g, made since w0; none of the blocks of B is theirs. -/
structure QJ (B : Nat → Prop) (w0 w : World) (g : Nat) (S : QS) : Prop where
  ok : ∃ a, a.g = g ∧ QOk w a S ∧ ∀ k, a.foot k → w0.heap.size ≤ k ∧ ¬ B k
  bl : Below w0.heap.size w0 w
  bb : ∀ k, B k → k < w.heap.size
def Kp (B : Nat → Prop) (w w' : World) : Prop := ∀ k, B k → w'.heap[k]? = w.heap[k]?
section
variable {B : Nat → Prop} {w0 w w' : World} {g : Nat} {S S' : QS}
theorem QJ.qw (h : QJ B w0 w g S) : QW S := by obtain ⟨a, _, q, _⟩ := h.ok; exact q.w
theorem QJ.qi (h : QJ B w0 w g S) : QI w0 w g S := by
  obtain ⟨a, q1, q2, q3⟩ := h.ok
  exact ⟨⟨a, q1, q2, fun k hk => (q3 k hk).1⟩, h.bl⟩
theorem QJ.look (h : QJ B w0 w g S) (hb : Below w.heap.size w w') : QJ B w0 w' g S ∧ Kp B w w' := by
  obtain ⟨a, q1, q2, q3⟩ := h.ok
  exact ⟨⟨⟨a, q1, q2.below hb, q3⟩, h.bl.trans (hb.mono h.bl.size), fun k hk => Nat.lt_of_lt_of_le (h.bb k hk) hb.size⟩, fun k hk => hb.block k (h.bb k hk)⟩
/-- A block of B is written. -/
theorem QJ.write (h : QJ B w0 w g S) {F : Nat → Prop} (hc : Ch F w w') (hF : ∀ k, F k → B k) (hB : ∀ k, F k → w0.heap.size ≤ k) : QJ B w0 w' g S := by
  obtain ⟨a, q1, q2, q3⟩ := h.ok
  exact ⟨⟨a, q1, ⟨q2.r.ch hc fun k hk hf => (q3 k hk).2 (hF k hf), q2.w⟩, q3⟩, h.bl.trans (hc.below (fun k hk hf => by have := hB k hf; omega) h.bl.size), fun k hk => Nat.lt_of_lt_of_le (h.bb k hk) hc.size⟩
theorem QJ.use {f : FuncId} {args : Array Value} {R : Ending → QS → Prop} (h : QJ B w0 w g S)
    (hc : ∀ a, a.g = g → QOk w a S → Calls Try.prog f args w fun e w' => ∃ a' S', R e S' ∧ QOk w' a' S' ∧ Mv w a w' a') : Calls Try.prog f args w fun e w' => ∃ S', R e S' ∧ QJ B w0 w' g S' ∧ Kp B w w' := by
  obtain ⟨a, q1, q2, q3⟩ := h.ok
  exact (hc a q1 q2).mono fun e w' ⟨a', S', r1, r2, r3⟩ => ⟨S', r1, ⟨⟨a', r3.g.trans q1, r2, fun k hk => (r3.new k hk).elim (q3 k) fun q => ⟨Nat.le_trans h.bl.size q, fun hb => by have := h.bb k hb; omega⟩⟩,
    h.bl.trans (r3.ch.below (fun k hk hf => by have := (q3 k hf).1; omega) h.bl.size), fun k hk => Nat.lt_of_lt_of_le (h.bb k hk) r3.ch.size⟩, fun k hk => r3.ch.block k (h.bb k hk) fun hf => (q3 k hf).2 hk⟩
theorem QI.aside (h : QI w0 w g S) (o : Obj) : QJ (· = w.heap.size) w0 (w.alloc o) g S := by
  obtain ⟨a, q1, q2, q3⟩ := h.ok
  refine ⟨⟨a, q1, q2.alloc o, fun k hk => ⟨q3 k hk, fun e => by have := q2.r.foot_lt hk; omega⟩⟩, (h.alloc o).bl, fun k hk => by rw [hk]; simp⟩
theorem QJ.aside (h : QJ B w0 w g S) (o : Obj) : QJ (fun k => B k ∨ k = w.heap.size) w0 (w.alloc o) g S := by
  obtain ⟨a, q1, q2, q3⟩ := h.ok
  refine ⟨⟨a, q1, q2.alloc o, fun k hk => ⟨(q3 k hk).1, fun e => e.elim (q3 k hk).2 fun e => by have := q2.r.foot_lt hk; omega⟩⟩, (h.qi.alloc o).bl, fun k hk => hk.elim (fun q => by have := h.bb k q; simp; omega) fun q => by rw [q]; simp⟩
theorem putJ (h : QJ B w0 w g S) (i t : Int) : Calls Try.prog 11 #[.pointer (some ⟨g, 0, none⟩), .int .i64 i, .int .i64 t] w fun e w' => e = .returned (.int .i64 (putF S i t).1) ∧ QJ B w0 w' g (putF S i t).2 ∧ Kp B w w' :=
  (h.use (R := fun e S' => e = .returned (.int .i64 (putF S i t).1) ∧ S' = (putF S i t).2) fun a hg q => by rw [← hg]; exact (put_any q i t).mono fun e w' ⟨a', q1, q2, q3⟩ => ⟨a', _, ⟨q1, rfl⟩, q2, q3⟩).mono fun e w' ⟨S', ⟨q1, q2⟩, q3, q4⟩ => ⟨q1, q2 ▸ q3, q4⟩
theorem wakeJ (h : QJ B w0 w g S) (t : Int) : Calls Try.prog 18 #[.pointer (some ⟨g, 0, none⟩), .int .i64 t] w fun e w' => e = .returned (.tuple #[.int .i64 (wakeF S t).1.1, .int .i64 (wakeF S t).1.2]) ∧ QJ B w0 w' g (wakeF S t).2 ∧ Kp B w w' :=
  (h.use (R := fun e S' => e = .returned (.tuple #[.int .i64 (wakeF S t).1.1, .int .i64 (wakeF S t).1.2]) ∧ S' = (wakeF S t).2) fun a hg q => by rw [← hg]; exact (wake_any' q t).mono fun e w' ⟨a', q1, q2, q3⟩ => ⟨a', _, ⟨q1, rfl⟩, q2, q3⟩).mono fun e w' ⟨S', ⟨q1, q2⟩, q3, q4⟩ => ⟨q1, q2 ▸ q3, q4⟩
theorem nextJ (h : QJ B w0 w g S) (i : Int) : Calls Try.prog 12 #[.pointer (some ⟨g, 0, none⟩), .int .i64 i] w fun e w' => e = .returned (.tuple #[.int .i64 (nextF S i).1.1, .bool (nextF S i).1.2]) ∧ QJ B w0 w' g (nextF S i).2 ∧ Kp B w w' :=
  (h.use (R := fun e S' => e = .returned (.tuple #[.int .i64 (nextF S i).1.1, .bool (nextF S i).1.2]) ∧ S' = (nextF S i).2) fun a hg q => by rw [← hg]; exact (next_any q i).mono fun e w' ⟨a', q1, q2, q3⟩ => ⟨a', _, ⟨q1, rfl⟩, q2, q3⟩).mono fun e w' ⟨S', ⟨q1, q2⟩, q3, q4⟩ => ⟨q1, q2 ▸ q3, q4⟩
theorem tickJ (h : QJ B w0 w g S) (i : Int) : Calls Try.prog 13 #[.pointer (some ⟨g, 0, none⟩), .int .i64 i] w fun e w' => e = .returned (.bool (tickF S i).1) ∧ QJ B w0 w' g (tickF S i).2 ∧ Kp B w w' :=
  (h.use (R := fun e S' => e = .returned (.bool (tickF S i).1) ∧ S' = (tickF S i).2) fun a hg q => by rw [← hg]; exact (tick_any q i).mono fun e w' ⟨a', q1, q2, q3⟩ => ⟨a', _, ⟨q1, rfl⟩, q2, q3⟩).mono fun e w' ⟨S', ⟨q1, q2⟩, q3, q4⟩ => ⟨q1, q2 ▸ q3, q4⟩
theorem sleepJ (h : QJ B w0 w g S) (i : Int) : Calls Try.prog 16 #[.pointer (some ⟨g, 0, none⟩), .int .i64 i] w fun e w' => e = .returned (.tuple #[.int .i64 (sleepF S i).1.1, .int .i64 (sleepF S i).1.2]) ∧ QJ B w0 w' g (sleepF S i).2 ∧ Kp B w w' :=
  (h.use (R := fun e S' => e = .returned (.tuple #[.int .i64 (sleepF S i).1.1, .int .i64 (sleepF S i).1.2]) ∧ S' = (sleepF S i).2) fun a hg q => by rw [← hg]; exact (sleep_any q i).mono fun e w' ⟨a', q1, q2, q3⟩ => ⟨a', _, ⟨q1, rfl⟩, q2, q3⟩).mono fun e w' ⟨S', ⟨q1, q2⟩, q3, q4⟩ => ⟨q1, q2 ▸ q3, q4⟩
theorem removeJ (h : QJ B w0 w g S) (t : Int) : Calls Try.prog 19 #[.pointer (some ⟨g, 0, none⟩), .int .i64 t] w fun e w' => e = .returned (.bool (removeF S t).1) ∧ QJ B w0 w' g (removeF S t).2 ∧ Kp B w w' :=
  (h.use (R := fun e S' => e = .returned (.bool (removeF S t).1) ∧ S' = (removeF S t).2) fun a hg q => by rw [← hg]; exact (remove_any q t).mono fun e w' ⟨a', q1, q2, q3⟩ => ⟨a', _, ⟨q1, rfl⟩, q2, q3⟩).mono fun e w' ⟨S', ⟨q1, q2⟩, q3, q4⟩ => ⟨q1, q2 ▸ q3, q4⟩
end
/-! All threads run: the plain part -/
/-- Behind r rounds, and the first h harts of another: nobody runs beside a queue, the threads are 1 .. n, and one that has not run stands so near the front that it will in time. -/
structure Fair (S : QS) (n : Nat) (ran : List Bool) (r h : Nat) : Prop where
  alone : ∀ k, S.R k ≠ 0 → S.Q k = []
  hi : ∀ k t, t ∈ hs S k → t ≤ (n : Int)
  len : ran.length = n + 1
  near : ∀ t : Nat, 1 ≤ t → t ≤ n → ran[t]? = some false → ∃ k p, (S.Q k)[p]? = some (t : Int) ∧ p + r + (if k < h then 1 else 0) < n
theorem Fair.all {S : QS} {n : Nat} {ran : List Bool} {r h : Nat} (f : Fair S n ran r h) (hr : n ≤ r) {t : Nat} (h1 : 1 ≤ t) (h2 : t ≤ n) : ran[t]? = some true := by
  have hlt : t < ran.length := by rw [f.len]; omega
  cases hx : ran[t]? with
  | none => rw [List.getElem?_eq_none_iff] at hx; omega
  | some b =>
    cases b with
    | true => rfl
    | false => obtain ⟨k, p, _, q2⟩ := f.near t h1 h2 hx; omega
/-- A round is over. -/
theorem Fair.round {S : QS} {n : Nat} {ran : List Bool} {r : Nat} (W : QW S) (f : Fair S n ran r S.n) : Fair S n ran (r + 1) 0 := by
  refine ⟨f.alone, f.hi, f.len, fun t h1 h2 h3 => ?_⟩
  obtain ⟨k, p, q1, q2⟩ := f.near t h1 h2 h3
  have hk : k < S.n := by
    rcases Nat.lt_or_ge k S.n with h | h
    · exact h
    · rw [(W.out k h).2] at q1; simp at q1
  rw [if_pos hk] at q2
  exact ⟨k, p, q1, by simp; omega⟩
/-- What one hart does in a round: the state behind Next, the thread that runs, the state behind Tick. -/
theorem Fair.turn {S : QS} {n : Nat} {ran : List Bool} {r h : Nat} (W : QW S) (f : Fair S n ran r h) (hh : h < S.n) :
    ∃ x : Nat, runF (nextF S h).2 h = x ∧ x ≤ n ∧ Fair (tickF (nextF S h).2 h).2 n (ran.set x true) r (h + 1) ∧ (tickF (nextF S h).2 h).2.n = S.n := by
  have hin : inH S h := ⟨by omega, by omega⟩
  have hht : ((h : Int)).toNat = h := by omega
  -- what stays of a state in which hart h changes alone
  by_cases hR : 0 < S.R h
  · have hn : nextF S h = ((0, false), S) := by unfold nextF; rw [hht, if_pos (.inr hR)]
    have hq := f.alone h (by omega)
    have ht : tickF S h = (false, S) := by unfold tickF; rw [hht, if_pos (.inr (.inr hq))]
    rw [hn, ht]
    have hm : S.R h ∈ hs S h := by unfold hs; rw [if_pos hR]; simp
    have hle := f.hi h _ hm
    refine ⟨(S.R h).toNat, by show runF S h = _; unfold runF; rw [if_pos hin, hht]; omega, by omega, ⟨f.alone, f.hi, by simpa using f.len, fun t h1 h2 h3 => ?_⟩, rfl⟩
    rw [List.getElem?_set] at h3
    split at h3
    · split at h3 <;> cases h3
    · obtain ⟨k, p, q1, q2⟩ := f.near t h1 h2 h3
      refine ⟨k, p, q1, ?_⟩
      by_cases e : k = h
      · subst e; rw [hq] at q1; simp at q1
      · have : (k < h + 1) = (k < h) := by simp; omega
        simp only [this]; exact q2
  · have h0 : S.R h = 0 := by have := W.r0 h; omega
    have hnot : ¬ (¬ inH S h ∨ 0 < S.R h) := by simp [hin, h0]
    cases hq : S.Q h with
    | cons x l =>
      have hn : nextF S h = ((x, true), takeS S h x l) := by unfold nextF; rw [hht, if_neg hnot, hq]
      rw [hn]
      have hx1 : 1 ≤ x := W.pos h x (by rw [hq]; simp)
      have hxm : x ∈ hs S h := by unfold hs; rw [hq]; simp
      have hxn := f.hi h x hxm
      have hR1 : (takeS S h x l).R h = x := by simp [takeS, QS.setM, QS.setR]
      have hQ1 : (takeS S h x l).Q h = l := by simp [takeS, QS.setM, QS.setR, QS.setQ]
      have hQk : ∀ k, k ≠ h → (takeS S h x l).Q k = S.Q k := fun k hk => by simp [takeS, QS.setM, QS.setR, QS.setQ, hk]
      have hRk : ∀ k, k ≠ h → (takeS S h x l).R k = S.R k := fun k hk => by simp [takeS, QS.setM, QS.setR, QS.setQ, hk]
      have hin1 : inH (takeS S h x l) h := hin
      have hhs : ∀ k, hs (takeS S h x l) k = hs S k := fun k => by
        by_cases e : k = h
        · subst e; unfold hs; rw [hR1, hQ1, if_pos (by omega), hq, h0]; simp
        · unfold hs; rw [hQk k e, hRk k e]
      refine ⟨x.toNat, by unfold runF; rw [if_pos hin1, hht, hR1]; omega, by omega, ?_⟩
      have near' : ∀ (Q' : Nat → List Int), (∀ k, k ≠ h → Q' k = S.Q k) → (∀ (p : Nat) (t : Int), l[p]? = some t → (Q' h)[p]? = some t) → ∀ t : Nat, 1 ≤ t → t ≤ n → (ran.set x.toNat true)[t]? = some false → ∃ k p, (Q' k)[p]? = some (t : Int) ∧ p + r + (if k < h + 1 then 1 else 0) < n := by
        intro Q' e1 e2 t h1 h2 h3
        rw [List.getElem?_set] at h3
        split at h3
        · split at h3 <;> cases h3
        · rename_i hne
          obtain ⟨k, p, q1, q2⟩ := f.near t h1 h2 h3
          by_cases e : k = h
          · subst e
            rw [hq] at q1
            cases p with
            | zero => simp at q1; omega
            | succ p => exact ⟨k, p, e2 p t (by simpa using q1), by rw [if_pos (by omega)]; rw [if_neg (by omega)] at q2; omega⟩
          · have : (k < h + 1) = (k < h) := by simp; omega
            exact ⟨k, p, by rw [e1 k e]; exact q1, by simp only [this]; exact q2⟩
      by_cases hl : l = []
      · have ht : tickF (takeS S h x l) h = (false, takeS S h x l) := by unfold tickF; rw [hht, if_pos (.inr (.inr (by rw [hQ1, hl])))]
        rw [ht]
        refine ⟨⟨fun k hk => ?_, fun k t ht => by rw [hhs] at ht; exact f.hi k t ht, by simpa using f.len, near' _ hQk (fun p t q => by rw [hQ1]; exact q)⟩, rfl⟩
        by_cases e : k = h
        · subst e; rw [hQ1, hl]
        · rw [hQk k e]; rw [hRk k e] at hk; exact f.alone k hk
      · have hno : ¬ (¬ inH (takeS S h x l) h ∨ (takeS S h x l).R h = 0 ∨ (takeS S h x l).Q h = []) := by
          rw [hR1, hQ1]; simp [hin1, hl]; omega
        have ht : tickF (takeS S h x l) h = (true, ((takeS S h x l).setQ h (l ++ [x])).setR h 0) := by unfold tickF; rw [hht, if_neg hno, hR1, hQ1]
        rw [ht]
        refine ⟨⟨fun k hk => ?_, fun k t ht => ?_, by simpa using f.len, near' _ (fun k hk => ?_) (fun p t q => ?_)⟩, rfl⟩
        · by_cases e : k = h
          · subst e; simp [QS.setR] at hk
          · simp only [QS.setR, QS.setQ, if_neg e] at hk ⊢
            rw [hQk k e]; rw [hRk k e] at hk; exact f.alone k hk
        · rw [hs_setR, hs_setQ] at ht
          by_cases e : k = h
          · subst e
            rw [if_pos rfl, if_neg (by omega)] at ht
            simp only [QS.setQ, if_pos, List.nil_append, List.mem_append, List.mem_singleton] at ht
            rcases ht with q | q
            · exact f.hi k t (by unfold hs; rw [hq]; simp [q])
            · rw [q]; exact hxn
          · rw [if_neg e, if_neg e, hhs] at ht; exact f.hi k t ht
        · simp only [QS.setR, QS.setQ, if_neg hk]; exact hQk k hk
        · simp only [QS.setR, QS.setQ, if_pos]
          rw [List.getElem?_append_left (List.getElem?_eq_some_iff.1 q).1]; exact q
    | nil =>
      rcases List.eq_nil_or_concat (S.Q (lng S S.n)) with hb | ⟨l, t, hb⟩
      · have hn : nextF S h = ((0, false), S) := by unfold nextF; rw [hht, if_neg hnot, hq, hb]; rfl
        have ht : tickF S h = (false, S) := by unfold tickF; rw [hht, if_pos (.inr (.inl h0))]
        rw [hn, ht]
        refine ⟨0, by unfold runF; rw [if_pos hin, hht, h0]; rfl, by omega, ⟨f.alone, f.hi, by simpa using f.len, fun t h1 h2 h3 => ?_⟩, rfl⟩
        rw [List.getElem?_set_ne (by omega)] at h3
        obtain ⟨k, p, q1, q2⟩ := f.near t h1 h2 h3
        refine ⟨k, p, q1, ?_⟩
        by_cases e : k = h
        · subst e; rw [hq] at q1; simp at q1
        · have : (k < h + 1) = (k < h) := by simp; omega
          simp only [this]; exact q2
      · rw [List.concat_eq_append] at hb
        have hn : nextF S h = ((t, true), stealS S h t l) := by unfold nextF; rw [hht, if_neg hnot, hq, hb]; simp
        rw [hn]
        generalize hbb : lng S S.n = b at *
        have ht1 : 1 ≤ t := W.pos b t (by rw [hb]; simp)
        have htm : t ∈ hs S b := by unfold hs; rw [hb]; simp
        have htn := f.hi b t htm
        have hne : b ≠ h := fun e => by rw [e, hq] at hb; simp at hb
        have hR1 : (stealS S h t l).R h = t := by simp [stealS, QS.setM, QS.setR]
        have hRk : ∀ k, k ≠ h → (stealS S h t l).R k = S.R k := fun k hk => by simp [stealS, QS.setM, QS.setR, QS.setQ, hk]
        have hQb : (stealS S h t l).Q b = l := by simp [stealS, QS.setM, QS.setR, QS.setQ, hbb]
        have hQk : ∀ k, k ≠ b → (stealS S h t l).Q k = S.Q k := fun k hk => by simp [stealS, QS.setM, QS.setR, QS.setQ, hbb, hk]
        have hQh : (stealS S h t l).Q h = [] := by rw [hQk h (Ne.symm hne), hq]
        have hin1 : inH (stealS S h t l) h := hin
        have ht : tickF (stealS S h t l) h = (false, stealS S h t l) := by unfold tickF; rw [hht, if_pos (.inr (.inr hQh))]
        rw [ht]
        refine ⟨t.toNat, by unfold runF; rw [if_pos hin1, hht, hR1]; omega, by omega, ⟨fun k hk => ?_, fun k x hx => ?_, by simpa using f.len, fun x h1 h2 h3 => ?_⟩, rfl⟩
        · by_cases e : k = h
          · subst e; exact hQh
          · rw [hRk k e] at hk
            have := f.alone k hk
            by_cases e2 : k = b
            · subst e2; rw [hb] at this; simp at this
            · rw [hQk k e2]; exact this
        · have hxx : x = t ∨ x ∈ hs S k := by
            unfold hs at hx ⊢
            rcases List.mem_append.1 hx with q | q
            · by_cases e : k = h
              · subst e; rw [hR1, if_pos (by omega)] at q
                exact .inl (by simpa using q)
              · rw [hRk k e] at q; exact .inr (List.mem_append_left _ q)
            · by_cases e : k = b
              · subst e; rw [hQb] at q; exact .inr (List.mem_append_right _ (by rw [hb]; simp [q]))
              · rw [hQk k e] at q; exact .inr (List.mem_append_right _ q)
          rcases hxx with e | e
          · rw [e]; exact htn
          · exact f.hi k x e
        · rw [List.getElem?_set] at h3
          split at h3
          · split at h3 <;> cases h3
          · rename_i hnx
            obtain ⟨k, p, q1, q2⟩ := f.near x h1 h2 h3
            have hkh : k ≠ h := fun e => by rw [e, hq] at q1; simp at q1
            have hlt : (k < h + 1) = (k < h) := by simp; omega
            refine ⟨k, p, ?_, by simp only [hlt]; exact q2⟩
            by_cases e : k = b
            · subst e
              rw [hQb]; rw [hb] at q1
              rcases Nat.lt_or_ge p l.length with hp | hp
              · rwa [List.getElem?_append_left hp] at q1
              · rw [List.getElem?_append_right hp] at q1
                have : p - l.length = 0 := by have := (List.getElem?_eq_some_iff.1 q1).1; simp at this; omega
                rw [this] at q1; simp at q1; omega
            · rw [hQk k e]; exact q1
end Go.Proofs.Ytphikmdgdbdaiaa
