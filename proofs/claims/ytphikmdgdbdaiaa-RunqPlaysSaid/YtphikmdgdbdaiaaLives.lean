import Derived.Test.YtphikmdgdbdaiaaMoves
import Derived.Test.YtphikmdgdbdaiaaKit
/- Queues made since w0; lives. -/
namespace Go.Proofs.Ytphikmdgdbdaiaa
open Go.RowKit Go.BigFrame
set_option linter.unusedVariables false
set_option linter.unusedSimpArgs false
attribute [local go_sem] szIs_lit row_at row_past row_alloc nf_alloc row_set nf_set row_cell nf_cell row_drew nf_drew row_drewN nf_drewN cell_setRow frozen_setRow nlt1 nlt2 nlt3 nlt4 nne1 nne2 nne3 nen1 nen2 nen3
/-- The queues behind the pointer g, made since w0. -/
structure QI (w0 w : World) (g : Nat) (S : QS) : Prop where
  ok : ∃ a, a.g = g ∧ QOk w a S ∧ ∀ k, a.foot k → w0.heap.size ≤ k
  bl : Below w0.heap.size w0 w
section
variable {w0 w w' : World} {g : Nat} {S S' : QS}
theorem QI.qw (h : QI w0 w g S) : QW S := by obtain ⟨a, _, q, _⟩ := h.ok; exact q.w
theorem QI.look (h : QI w0 w g S) (hb : Below w.heap.size w w') : QI w0 w' g S := by
  obtain ⟨a, q1, q2, q3⟩ := h.ok
  exact ⟨⟨a, q1, q2.below hb, q3⟩, h.bl.trans (hb.mono h.bl.size)⟩
theorem QI.alloc (h : QI w0 w g S) (o : Obj) : QI w0 (w.alloc o) g S := h.look ((Below.refl _ _).alloc (Nat.le_refl _) _)
theorem QI.drew (h : QI w0 w g S) : QI w0 w.drew g S := h.look (Below.drew (Below.refl _ _))
theorem QI.lt (h : QI w0 w g S) : g < w.heap.size := by obtain ⟨a, rfl, q2, q3⟩ := h.ok; exact q2.r.blk.lt
theorem QI.use {f : FuncId} {args : Array Value} {R : Ending → QS → Prop} (h : QI w0 w g S)
    (hc : ∀ a, a.g = g → QOk w a S → Calls Try.prog f args w fun e w' => ∃ a' S', R e S' ∧ QOk w' a' S' ∧ Mv w a w' a') : Calls Try.prog f args w fun e w' => ∃ S', R e S' ∧ QI w0 w' g S' := by
  obtain ⟨a, q1, q2, q3⟩ := h.ok
  exact (hc a q1 q2).mono fun e w' ⟨a', S', r1, r2, r3⟩ => ⟨S', r1, ⟨a', r3.g.trans q1, r2, fun k hk => (r3.new k hk).elim (q3 k) fun q => Nat.le_trans h.bl.size q⟩, h.bl.trans (r3.ch.below (fun k hk hf => by have := q3 k hf; omega) h.bl.size)⟩
theorem newI (n : Nat) (w : World) (h1 : 1 ≤ n) (h2 : n ≤ 8) : Calls Try.prog 9 #[.int .i64 (n : Int)] w fun e w' => ∃ g, e = .returned (.tuple #[.pointer (some ⟨g, 0, none⟩), .int .i64 0]) ∧ QI w w' g (S0 n) :=
  (new_ok n w h1 h2).mono fun e w' ⟨g, m, q1, q2, q3, q4, q5⟩ => ⟨g, q1, ⟨_, rfl, ⟨q2, QW.start h1 h2⟩, fun k hk => by
    rcases hk with rfl | rfl | ⟨h, _, hk⟩
    · exact q4
    · exact q5
    · simp [a0, blkOf] at hk⟩, q3⟩
theorem putI (h : QI w0 w g S) (i t : Int) : Calls Try.prog 11 #[.pointer (some ⟨g, 0, none⟩), .int .i64 i, .int .i64 t] w fun e w' => e = .returned (.int .i64 (putF S i t).1) ∧ QI w0 w' g (putF S i t).2 :=
  (h.use (R := fun e S' => e = .returned (.int .i64 (putF S i t).1) ∧ S' = (putF S i t).2) fun a hg q => by rw [← hg]; exact (put_any q i t).mono fun e w' ⟨a', q1, q2, q3⟩ => ⟨a', _, ⟨q1, rfl⟩, q2, q3⟩).mono fun e w' ⟨S', ⟨q1, q2⟩, q3⟩ => ⟨q1, q2 ▸ q3⟩
theorem wakeI (h : QI w0 w g S) (t : Int) : Calls Try.prog 18 #[.pointer (some ⟨g, 0, none⟩), .int .i64 t] w fun e w' => e = .returned (.tuple #[.int .i64 (wakeF S t).1.1, .int .i64 (wakeF S t).1.2]) ∧ QI w0 w' g (wakeF S t).2 :=
  (h.use (R := fun e S' => e = .returned (.tuple #[.int .i64 (wakeF S t).1.1, .int .i64 (wakeF S t).1.2]) ∧ S' = (wakeF S t).2) fun a hg q => by rw [← hg]; exact (wake_any' q t).mono fun e w' ⟨a', q1, q2, q3⟩ => ⟨a', _, ⟨q1, rfl⟩, q2, q3⟩).mono fun e w' ⟨S', ⟨q1, q2⟩, q3⟩ => ⟨q1, q2 ▸ q3⟩
theorem nextI (h : QI w0 w g S) (i : Int) : Calls Try.prog 12 #[.pointer (some ⟨g, 0, none⟩), .int .i64 i] w fun e w' => e = .returned (.tuple #[.int .i64 (nextF S i).1.1, .bool (nextF S i).1.2]) ∧ QI w0 w' g (nextF S i).2 :=
  (h.use (R := fun e S' => e = .returned (.tuple #[.int .i64 (nextF S i).1.1, .bool (nextF S i).1.2]) ∧ S' = (nextF S i).2) fun a hg q => by rw [← hg]; exact (next_any q i).mono fun e w' ⟨a', q1, q2, q3⟩ => ⟨a', _, ⟨q1, rfl⟩, q2, q3⟩).mono fun e w' ⟨S', ⟨q1, q2⟩, q3⟩ => ⟨q1, q2 ▸ q3⟩
theorem tickI (h : QI w0 w g S) (i : Int) : Calls Try.prog 13 #[.pointer (some ⟨g, 0, none⟩), .int .i64 i] w fun e w' => e = .returned (.bool (tickF S i).1) ∧ QI w0 w' g (tickF S i).2 :=
  (h.use (R := fun e S' => e = .returned (.bool (tickF S i).1) ∧ S' = (tickF S i).2) fun a hg q => by rw [← hg]; exact (tick_any q i).mono fun e w' ⟨a', q1, q2, q3⟩ => ⟨a', _, ⟨q1, rfl⟩, q2, q3⟩).mono fun e w' ⟨S', ⟨q1, q2⟩, q3⟩ => ⟨q1, q2 ▸ q3⟩
theorem sleepI (h : QI w0 w g S) (i : Int) : Calls Try.prog 16 #[.pointer (some ⟨g, 0, none⟩), .int .i64 i] w fun e w' => e = .returned (.tuple #[.int .i64 (sleepF S i).1.1, .int .i64 (sleepF S i).1.2]) ∧ QI w0 w' g (sleepF S i).2 :=
  (h.use (R := fun e S' => e = .returned (.tuple #[.int .i64 (sleepF S i).1.1, .int .i64 (sleepF S i).1.2]) ∧ S' = (sleepF S i).2) fun a hg q => by rw [← hg]; exact (sleep_any q i).mono fun e w' ⟨a', q1, q2, q3⟩ => ⟨a', _, ⟨q1, rfl⟩, q2, q3⟩).mono fun e w' ⟨S', ⟨q1, q2⟩, q3⟩ => ⟨q1, q2 ▸ q3⟩
theorem removeI (h : QI w0 w g S) (t : Int) : Calls Try.prog 19 #[.pointer (some ⟨g, 0, none⟩), .int .i64 t] w fun e w' => e = .returned (.bool (removeF S t).1) ∧ QI w0 w' g (removeF S t).2 :=
  (h.use (R := fun e S' => e = .returned (.bool (removeF S t).1) ∧ S' = (removeF S t).2) fun a hg q => by rw [← hg]; exact (remove_any q t).mono fun e w' ⟨a', q1, q2, q3⟩ => ⟨a', _, ⟨q1, rfl⟩, q2, q3⟩).mono fun e w' ⟨S', ⟨q1, q2⟩, q3⟩ => ⟨q1, q2 ▸ q3⟩
theorem queI (h : QI w0 w g S) (i : Int) : Calls Try.prog 14 #[.pointer (some ⟨g, 0, none⟩), .int .i64 i] w fun e w' => ∃ A c, e = .returned (.slice A (queF S i).length c) ∧ Rw w' 3 1 A (queF S i).length c (iv (queF S i)) ∧ QI w0 w' g S ∧ Below w.heap.size w w' ∧ (∀ k, blkOf A = some k → w.heap.size ≤ k) := by
  obtain ⟨a, q1, q2, q3⟩ := h.ok
  rw [← q1]
  exact (que_any q2 i).mono fun e w' ⟨A, c, r1, r2, r3, r4⟩ => ⟨A, c, r1, r2, q1 ▸ h.look r3, r3, r4⟩
theorem runI (h : QI w0 w g S) (i : Int) : Calls Try.prog 15 #[.pointer (some ⟨g, 0, none⟩), .int .i64 i] w fun e w' => e = .returned (.int .i64 (runF S i)) ∧ w = w' := by
  obtain ⟨a, q1, q2, q3⟩ := h.ok
  rw [← q1]; exact run_any q2 i
theorem whereI (h : QI w0 w g S) (t : Int) : Calls Try.prog 17 #[.pointer (some ⟨g, 0, none⟩), .int .i64 t] w fun e w' => e = .returned (.tuple #[.int .i64 (whereF S t).1, .bool (whereF S t).2]) ∧ w = w' := by
  obtain ⟨a, q1, q2, q3⟩ := h.ok
  rw [← q1]; exact where_any q2 t
theorem idleI (h : QI w0 w g S) : Calls Try.prog 23 #[.pointer (some ⟨g, 0, none⟩)] w fun e w' => e = .returned (.bool (decide (S.M.length = 0))) ∧ w = w' := by
  obtain ⟨a, q1, q2, q3⟩ := h.ok
  rw [← q1]; exact idle_any q2
end
def L1 : QS := putS (S0 2) 0 1
def L2 : QS := putS L1 0 2
def L3 : QS := putS L2 0 3
def L4 : QS := stealS L3 1 3 [1, 2]
def L5 : QS := takeS L4 0 1 [2]
def L6 : QS := (tickF L5 0).2
set_option maxRecDepth 100000 in
set_option maxHeartbeats 4000000 in
theorem lives_ok (w : World) : Calls Try.prog 10 #[] w fun e w' => e = .returned (.bool true) ∧ Below w.heap.size w w' := by
  go_enter Try.func10, Try.ntmps10
  go_wp2_with fail
  refine (newI 2 w (by omega) (by omega)).mono ?_
  rintro e w1 ⟨g, rfl, hI⟩
  have HI := Lib.hid hI
  clear hI
  go_wp2_with fail
  refine (putI HI.out 0 1).mono ?_
  rintro e w2 ⟨rfl, hI⟩
  have HI := Lib.hid (show QI w w2 g L1 from hI)
  rw [show putF (S0 2) 0 1 = (0, L1) by rfl]
  clear hI
  go_wp2_with fail
  refine (putI HI.out 0 2).mono ?_
  rintro e w3 ⟨rfl, hI⟩
  have HI := Lib.hid (show QI w w3 g L2 from hI)
  rw [show putF L1 0 2 = (0, L2) by rfl]
  clear hI
  go_wp2_with fail
  refine (putI HI.out 0 3).mono ?_
  rintro e w4 ⟨rfl, hI⟩
  have HI := Lib.hid (show QI w w4 g L3 from hI)
  rw [show putF L2 0 3 = (0, L3) by rfl]
  clear hI
  go_wp2_with fail
  refine (nextI HI.out 1).mono ?_
  rintro e w5 ⟨rfl, hI⟩
  have HI := Lib.hid (show QI w w5 g L4 from hI)
  rw [show nextF L3 1 = ((3, true), L4) by rfl]
  clear hI
  go_wp2_with fail
  refine (nextI HI.out 0).mono ?_
  rintro e w6 ⟨rfl, hI⟩
  have HI := Lib.hid (show QI w w6 g L5 from hI)
  rw [show nextF L4 0 = ((1, true), L5) by rfl]
  clear hI
  go_wp2_with fail
  refine (tickI HI.out 0).mono ?_
  rintro e w7 ⟨rfl, hI⟩
  have HI := Lib.hid (show QI w w7 g L6 from hI)
  rw [show (tickF L5 0).1 = true by rfl]
  clear hI
  go_wp2_with fail
  refine (queI HI.out 0).mono ?_
  rintro e w8 ⟨A, c, rfl, _, hI, _, _⟩
  have HI := Lib.hid hI
  rw [show (queF L6 0).length = 2 by rfl]
  clear hI
  go_wp2_with fail
  refine (queI HI.out 0).mono ?_
  rintro e w9 ⟨A, c, rfl, hr, hI, _, _⟩
  have HI := Lib.hid hI
  rw [show (queF L6 0) = [2, 1] by rfl] at hr ⊢
  obtain ⟨b, rfl⟩ := hr.some_ (by simp)
  have hc : w9.cell? ⟨b, 1, none⟩ = some (.int .i64 1) := hr.cell 1 (by simp)
  clear hI hr
  go_wp2_with fail
  go_ret
  exact ⟨by first | rfl | simp, HI.out.bl⟩
theorem livesI {w0 w : World} {g : Nat} {S : QS} (h : QI w0 w g S) : Calls Try.prog 10 #[] w fun e w' => e = .returned (.bool true) ∧ QI w0 w' g S :=
  (lives_ok w).mono fun e w' q => ⟨q.1, h.look q.2⟩
end Go.Proofs.Ytphikmdgdbdaiaa
