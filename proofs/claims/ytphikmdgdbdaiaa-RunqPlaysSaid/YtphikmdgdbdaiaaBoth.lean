import Derived.Test.YtphikmdgdbdaiaaRefRem
/- The queues and the reference, side by side. -/
namespace Go.Proofs.Ytphikmdgdbdaiaa
open Go.RowKit Go.BigFrame
set_option linter.unusedVariables false
set_option linter.unusedSimpArgs false
attribute [local go_sem] szIs_lit row_at row_past row_alloc nf_alloc row_set nf_set row_cell nf_cell row_drew nf_drew row_drewN nf_drewN cell_setRow frozen_setRow nlt1 nlt2 nlt3 nlt4 nne1 nne2 nne3 nen1 nen2 nen3
/-- Both side by side, apart from the blocks B; what the real ones say, what the reference says. -/
structure DU (B : Nat → Prop) (w0 w : World) (g x : Nat) (S T : QS) : Prop where
  ok : ∃ (a : QA) (r : RA), a.g = g ∧ r.x = x ∧ QOk w a S ∧ RR w r T ∧ QW T ∧ (∀ k, a.foot k → w0.heap.size ≤ k ∧ ¬ B k ∧ ¬ r.foot T.n k) ∧ ∀ k, r.foot T.n k → w0.heap.size ≤ k ∧ ¬ B k
  bl : Below w0.heap.size w0 w
  bb : ∀ k, B k → k < w.heap.size
section
variable {B : Nat → Prop} {w0 w w' : World} {g x : Nat} {S T S' T' : QS}
theorem DU.qw (h : DU B w0 w g x S T) : QW S := by obtain ⟨a, r, _, _, q, _⟩ := h.ok; exact q.w
theorem DU.qj (h : DU B w0 w g x S T) : QJ B w0 w g S := by
  obtain ⟨a, r, q1, _, q2, _, _, q3, _⟩ := h.ok
  exact ⟨⟨a, q1, q2, fun k hk => ⟨(q3 k hk).1, (q3 k hk).2.1⟩⟩, h.bl, h.bb⟩
theorem DU.look (h : DU B w0 w g x S T) (hb : Below w.heap.size w w') : DU B w0 w' g x S T := by
  obtain ⟨a, r, q1, q2, q3, q4, q5, q6, q7⟩ := h.ok
  exact ⟨⟨a, r, q1, q2, q3.below hb, q4.below hb, q5, q6, q7⟩, h.bl.trans (hb.mono h.bl.size), fun k hk => Nat.lt_of_lt_of_le (h.bb k hk) hb.size⟩
theorem DU.drew (h : DU B w0 w g x S T) : DU B w0 w.drew g x S T := h.look (Below.drew (Below.refl _ _))
theorem DU.weak (h : DU B w0 w g x S T) {B' : Nat → Prop} (hB : ∀ k, B' k → B k) : DU B' w0 w g x S T := by
  obtain ⟨a, r, q1, q2, q3, q4, q5, q6, q7⟩ := h.ok
  exact ⟨⟨a, r, q1, q2, q3, q4, q5, fun k hk => ⟨(q6 k hk).1, fun e => (q6 k hk).2.1 (hB k e), (q6 k hk).2.2⟩, fun k hk => ⟨(q7 k hk).1, fun e => (q7 k hk).2 (hB k e)⟩⟩, h.bl, fun k hk => h.bb k (hB k hk)⟩
/-- Blocks above what stood at w1 are written. -/
theorem DU.write (h : DU B w0 w g x S T) {F : Nat → Prop} (hc : Ch F w w') (hF : ∀ k, F k → w0.heap.size ≤ k) (hN : ∀ k, F k → B k) : DU B w0 w' g x S T := by
  obtain ⟨a, r, q1, q2, q3, q4, q5, q6, q7⟩ := h.ok
  exact ⟨⟨a, r, q1, q2, ⟨q3.r.ch hc fun k hk hf => (q6 k hk).2.1 (hN k hf), q3.w⟩, q4.ch hc (fun k hk hf => (q7 k hk).2 (hN k hf)), q5, q6, q7⟩, h.bl.trans (hc.below (fun k hk hf => by have := hF k hf; omega) h.bl.size), fun k hk => Nat.lt_of_lt_of_le (h.bb k hk) hc.size⟩
/-- A block is put aside. -/
theorem DU.aside (h : DU B w0 w g x S T) {N : Nat} (hb : Below w.heap.size w w') {B' : Nat → Prop} (hB : ∀ k, B' k → w.heap.size ≤ k ∧ k < w'.heap.size) : DU B' w0 w' g x S T := by
  obtain ⟨a, r, q1, q2, q3, q4, q5, q6, q7⟩ := h.ok
  exact ⟨⟨a, r, q1, q2, q3.below hb, q4.below hb, q5, fun k hk => ⟨(q6 k hk).1, fun e => by have := q3.r.foot_lt hk; have := (hB k e).1; omega, (q6 k hk).2.2⟩, fun k hk => ⟨(q7 k hk).1, fun e => by have := q4.foot_lt hk; have := (hB k e).1; omega⟩⟩,
    h.bl.trans (hb.mono h.bl.size), fun k hk => (hB k hk).2⟩
theorem DU.useQ {f : FuncId} {args : Array Value} {R : Ending → QS → Prop} (h : DU B w0 w g x S T)
    (hc : ∀ a, a.g = g → QOk w a S → Calls Try.prog f args w fun e w' => ∃ a' S', R e S' ∧ QOk w' a' S' ∧ Mv w a w' a') : Calls Try.prog f args w fun e w' => ∃ S', R e S' ∧ DU B w0 w' g x S' T ∧ Kp B w w' := by
  obtain ⟨a, r, q1, q2, q3, q4, q5, q6, q7⟩ := h.ok
  exact (hc a q1 q3).mono fun e w' ⟨a', S', r1, r2, r3⟩ => ⟨S', r1, ⟨⟨a', r, r3.g.trans q1, q2, r2, q4.ch r3.ch (fun k hk hf => (q6 k hf).2.2 hk), q5, fun k hk => (r3.new k hk).elim (q6 k) fun q => ⟨Nat.le_trans h.bl.size q, fun hb => by have := h.bb k hb; omega, fun hf => by have := q4.foot_lt hf; omega⟩, q7⟩,
    h.bl.trans (r3.ch.below (fun k hk hf => by have := (q6 k hf).1; omega) h.bl.size), fun k hk => Nat.lt_of_lt_of_le (h.bb k hk) r3.ch.size⟩, fun k hk => r3.ch.block k (h.bb k hk) fun hf => (q6 k hf).2.1 hk⟩
theorem DU.useR {f : FuncId} {args : Array Value} {R : Ending → Prop} (h : DU B w0 w g x S T) (hn : T'.n = T.n) (hW : QW T')
    (hc : ∀ r, r.x = x → RR w r T → QW T → Calls Try.prog f args w fun e w' => ∃ r', R e ∧ RR w' r' T' ∧ Mr T.n w r w' r') : Calls Try.prog f args w fun e w' => R e ∧ DU B w0 w' g x S T' ∧ Kp B w w' := by
  obtain ⟨a, r, q1, q2, q3, q4, q5, q6, q7⟩ := h.ok
  have hh : r.foot T.n r.hb := .inr (.inl rfl)
  exact (hc r q2 q4 q5).mono fun e w' ⟨r', r1, r2, r3⟩ => ⟨r1, ⟨⟨a, r', q1, r3.x.trans q2, ⟨q3.r.ch r3.ch (fun k hk hf => (q6 k hk).2.2 (by rw [hf]; exact hh)), q3.w⟩, r2, hW, fun k hk => ⟨(q6 k hk).1, (q6 k hk).2.1, fun hf => by
      rw [hn] at hf
      rcases r3.new k hf with q | q
      · exact (q6 k hk).2.2 q
      · have := q3.r.foot_lt hk; omega⟩, fun k hk => by
      rw [hn] at hk
      rcases r3.new k hk with q | q
      · exact q7 k q
      · exact ⟨Nat.le_trans h.bl.size q, fun hb => by have := h.bb k hb; omega⟩⟩,
    h.bl.trans (r3.ch.below (fun k hk hf => by have := (q7 _ (hf ▸ hh)).1; omega) h.bl.size), fun k hk => Nat.lt_of_lt_of_le (h.bb k hk) r3.ch.size⟩, fun k hk => r3.ch.block k (h.bb k hk) fun hf => (q7 _ (hf ▸ hh)).2 hk⟩
theorem putD (h : DU B w0 w g x S T) (i t : Int) : Calls Try.prog 11 #[.pointer (some ⟨g, 0, none⟩), .int .i64 i, .int .i64 t] w fun e w' => e = .returned (.int .i64 (putF S i t).1) ∧ DU B w0 w' g x (putF S i t).2 T ∧ Kp B w w' :=
  (h.useQ (R := fun e S' => e = .returned (.int .i64 (putF S i t).1) ∧ S' = (putF S i t).2) fun a hg q => by rw [← hg]; exact (put_any q i t).mono fun e w' ⟨a', q1, q2, q3⟩ => ⟨a', _, ⟨q1, rfl⟩, q2, q3⟩).mono fun e w' ⟨S', ⟨q1, q2⟩, q3, q4⟩ => ⟨q1, q2 ▸ q3, q4⟩
theorem rputD (h : DU B w0 w g x S T) (i t : Int) (hW : QW (putF T i t).2) : Calls Try.prog 31 #[.pointer (some ⟨x, 0, none⟩), .int .i64 i, .int .i64 t] w fun e w' => e = .returned (.int .i64 (putF T i t).1) ∧ DU B w0 w' g x S (putF T i t).2 ∧ Kp B w w' :=
  h.useR (R := fun e => e = .returned (.int .i64 (putF T i t).1)) (putF_n T i t) hW fun r hx q hq => by rw [← hx]; exact rput_ok q hq i t
theorem wakeD (h : DU B w0 w g x S T) (t : Int) : Calls Try.prog 18 #[.pointer (some ⟨g, 0, none⟩), .int .i64 t] w fun e w' => e = .returned (.tuple #[.int .i64 (wakeF S t).1.1, .int .i64 (wakeF S t).1.2]) ∧ DU B w0 w' g x (wakeF S t).2 T ∧ Kp B w w' :=
  (h.useQ (R := fun e S' => e = .returned (.tuple #[.int .i64 (wakeF S t).1.1, .int .i64 (wakeF S t).1.2]) ∧ S' = (wakeF S t).2) fun a hg q => by rw [← hg]; exact (wake_any' q t).mono fun e w' ⟨a', q1, q2, q3⟩ => ⟨a', _, ⟨q1, rfl⟩, q2, q3⟩).mono fun e w' ⟨S', ⟨q1, q2⟩, q3, q4⟩ => ⟨q1, q2 ▸ q3, q4⟩
theorem rwakeD (h : DU B w0 w g x S T) (t : Int) (hW : QW (wakeF T t).2) : Calls Try.prog 32 #[.pointer (some ⟨x, 0, none⟩), .int .i64 t] w fun e w' => e = .returned (.tuple #[.int .i64 (wakeF T t).1.1, .int .i64 (wakeF T t).1.2]) ∧ DU B w0 w' g x S (wakeF T t).2 ∧ Kp B w w' :=
  h.useR (R := fun e => e = .returned (.tuple #[.int .i64 (wakeF T t).1.1, .int .i64 (wakeF T t).1.2])) (wakeF_n T t) hW fun r hx q hq => by rw [← hx]; exact rwake_ok q hq t
theorem nextD (h : DU B w0 w g x S T) (i : Int) : Calls Try.prog 12 #[.pointer (some ⟨g, 0, none⟩), .int .i64 i] w fun e w' => e = .returned (.tuple #[.int .i64 (nextF S i).1.1, .bool (nextF S i).1.2]) ∧ DU B w0 w' g x (nextF S i).2 T ∧ Kp B w w' :=
  (h.useQ (R := fun e S' => e = .returned (.tuple #[.int .i64 (nextF S i).1.1, .bool (nextF S i).1.2]) ∧ S' = (nextF S i).2) fun a hg q => by rw [← hg]; exact (next_any q i).mono fun e w' ⟨a', q1, q2, q3⟩ => ⟨a', _, ⟨q1, rfl⟩, q2, q3⟩).mono fun e w' ⟨S', ⟨q1, q2⟩, q3, q4⟩ => ⟨q1, q2 ▸ q3, q4⟩
theorem rnextD (h : DU B w0 w g x S T) (i : Int) (hW : QW (nextF T i).2) : Calls Try.prog 33 #[.pointer (some ⟨x, 0, none⟩), .int .i64 i] w fun e w' => e = .returned (.tuple #[.int .i64 (nextF T i).1.1, .bool (nextF T i).1.2]) ∧ DU B w0 w' g x S (nextF T i).2 ∧ Kp B w w' :=
  h.useR (R := fun e => e = .returned (.tuple #[.int .i64 (nextF T i).1.1, .bool (nextF T i).1.2])) (nextF_n T i) hW fun r hx q hq => by rw [← hx]; exact rnext_ok q hq i
theorem tickD (h : DU B w0 w g x S T) (i : Int) : Calls Try.prog 13 #[.pointer (some ⟨g, 0, none⟩), .int .i64 i] w fun e w' => e = .returned (.bool (tickF S i).1) ∧ DU B w0 w' g x (tickF S i).2 T ∧ Kp B w w' :=
  (h.useQ (R := fun e S' => e = .returned (.bool (tickF S i).1) ∧ S' = (tickF S i).2) fun a hg q => by rw [← hg]; exact (tick_any q i).mono fun e w' ⟨a', q1, q2, q3⟩ => ⟨a', _, ⟨q1, rfl⟩, q2, q3⟩).mono fun e w' ⟨S', ⟨q1, q2⟩, q3, q4⟩ => ⟨q1, q2 ▸ q3, q4⟩
theorem rtickD (h : DU B w0 w g x S T) (i : Int) (hW : QW (tickF T i).2) : Calls Try.prog 34 #[.pointer (some ⟨x, 0, none⟩), .int .i64 i] w fun e w' => e = .returned (.bool (tickF T i).1) ∧ DU B w0 w' g x S (tickF T i).2 ∧ Kp B w w' :=
  h.useR (R := fun e => e = .returned (.bool (tickF T i).1)) (tickF_n T i) hW fun r hx q hq => by rw [← hx]; exact rtick_ok q hq i
theorem sleepD (h : DU B w0 w g x S T) (i : Int) : Calls Try.prog 16 #[.pointer (some ⟨g, 0, none⟩), .int .i64 i] w fun e w' => e = .returned (.tuple #[.int .i64 (sleepF S i).1.1, .int .i64 (sleepF S i).1.2]) ∧ DU B w0 w' g x (sleepF S i).2 T ∧ Kp B w w' :=
  (h.useQ (R := fun e S' => e = .returned (.tuple #[.int .i64 (sleepF S i).1.1, .int .i64 (sleepF S i).1.2]) ∧ S' = (sleepF S i).2) fun a hg q => by rw [← hg]; exact (sleep_any q i).mono fun e w' ⟨a', q1, q2, q3⟩ => ⟨a', _, ⟨q1, rfl⟩, q2, q3⟩).mono fun e w' ⟨S', ⟨q1, q2⟩, q3, q4⟩ => ⟨q1, q2 ▸ q3, q4⟩
theorem rsleepD (h : DU B w0 w g x S T) (i : Int) (hW : QW (sleepF T i).2) : Calls Try.prog 35 #[.pointer (some ⟨x, 0, none⟩), .int .i64 i] w fun e w' => e = .returned (.tuple #[.int .i64 (sleepF T i).1.1, .int .i64 (sleepF T i).1.2]) ∧ DU B w0 w' g x S (sleepF T i).2 ∧ Kp B w w' :=
  h.useR (R := fun e => e = .returned (.tuple #[.int .i64 (sleepF T i).1.1, .int .i64 (sleepF T i).1.2])) (sleepF_n T i) hW fun r hx q hq => by rw [← hx]; exact rsleep_ok q i
theorem removeD (h : DU B w0 w g x S T) (t : Int) : Calls Try.prog 19 #[.pointer (some ⟨g, 0, none⟩), .int .i64 t] w fun e w' => e = .returned (.bool (removeF S t).1) ∧ DU B w0 w' g x (removeF S t).2 T ∧ Kp B w w' :=
  (h.useQ (R := fun e S' => e = .returned (.bool (removeF S t).1) ∧ S' = (removeF S t).2) fun a hg q => by rw [← hg]; exact (remove_any q t).mono fun e w' ⟨a', q1, q2, q3⟩ => ⟨a', _, ⟨q1, rfl⟩, q2, q3⟩).mono fun e w' ⟨S', ⟨q1, q2⟩, q3, q4⟩ => ⟨q1, q2 ▸ q3, q4⟩
theorem rremoveD (h : DU B w0 w g x S T) (t : Int) (hW : QW (removeF T t).2) : Calls Try.prog 36 #[.pointer (some ⟨x, 0, none⟩), .int .i64 t] w fun e w' => e = .returned (.bool (removeF T t).1) ∧ DU B w0 w' g x S (removeF T t).2 ∧ Kp B w w' :=
  h.useR (R := fun e => e = .returned (.bool (removeF T t).1)) (removeF_n T t) hW fun r hx q hq => by rw [← hx]; exact rremove_ok q hq t
end
end Go.Proofs.Ytphikmdgdbdaiaa
