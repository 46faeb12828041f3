import Derived.Test.YtliliimdkkaocaaLives
/- The gate under way: one invariant, the contracts over it. -/
namespace Go.Proofs.Ytliliimdkkaocaa
open Go.RowKit
set_option linter.unusedVariables false
set_option linter.unusedSimpArgs false
/-- The gate at g, made since w0. -/
structure Inv (w0 wr : World) (g : Nat) (A : Option Addr) (c : Nat) (n live : Int) (L : List Seat) : Prop where
  wf : WF n live L
  ga : GateA wr w0.heap.size g A c n live L
  bl : Below w0.heap.size w0 wr
section
variable {w0 wr w' : World} {g c c' : Nat} {A A' : Option Addr} {n live live' : Int} {L L' : List Seat}
theorem Inv.step (h : Inv w0 wr g A c n live L) (h1 : WF n live' L') (h2 : GateA w' w0.heap.size g A' c' n live' L') (h3 : FrG wr w' g A A') : Inv w0 w' g A' c' n live' L' :=
  ⟨h1, h2, h.bl.trans (h3.below h.ga h.bl.size)⟩
theorem Inv.look (h : Inv w0 wr g A c n live L) (hb : Below wr.heap.size wr w') : Inv w0 w' g A c n live L := ⟨h.wf, h.ga.below hb, h.bl.trans (hb.mono h.bl.size)⟩
theorem Inv.alloc (h : Inv w0 wr g A c n live L) (o : Obj) : Inv w0 (wr.alloc o) g A c n live L := h.look ((Below.refl _ _).alloc (Nat.le_refl _) _)
theorem Inv.drew (h : Inv w0 wr g A c n live L) : Inv w0 wr.drew g A c n live L := ⟨h.wf, h.ga.drew, h.bl.trans (Below.drew (Below.refl _ _))⟩
theorem Inv.lt (h : Inv w0 wr g A c n live L) : g < wr.heap.size := h.ga.blk.lt
theorem Blk.frg {k : Nat} {cs : Array Value} (h : Blk wr k cs) (hf : FrG wr w' g A A') (hn : ¬ foot g A k) : Blk w' k cs ∧ ¬ foot g A' k := by
  have e := hf.block k h.lt hn
  refine ⟨⟨(row_heap e).trans h.1, (nf_heap e).trans h.2⟩, fun q => ?_⟩
  rcases q with rfl | q
  · exact hn (.inl rfl)
  · rcases hf.new k q with h2 | h2
    · exact hn (.inr h2)
    · have := h.lt; omega
theorem newI (w : World) (h1 : 1 ≤ n) (h2 : n ≤ 1073741824) : Calls Try.prog 12 #[.int .i64 n] w fun e w' => e = .returned (.tuple #[.pointer (some ⟨w.heap.size, 0, none⟩), .int .i64 0]) ∧ Inv w w' w.heap.size none 0 n 0 [] :=
  (new_ok n w h1 h2).mono fun e w' q => ⟨q.1, ⟨wf0 n h1 h2, q.2.1, q.2.2⟩⟩
theorem enterI (h : Inv w0 wr g A c n live L) (id m : Int) : Calls Try.prog 13 #[.pointer (some ⟨g, 0, none⟩), .int .i64 id, .int .i64 m] wr fun e w' => ∃ A' c', e = .returned (.tuple #[.bool (ent n live L id m).1, .int .i64 (ent n live L id m).2.1]) ∧ Inv w0 w' g A' c' n live (ent n live L id m).2.2 :=
  (enter_ok _ _ _ _ _ _ _ wr h.ga h.wf h.bl.size id m).mono fun e w' ⟨A', c', q1, q2, q3⟩ => ⟨A', c', q1, h.step (h.wf.ent id m) q2 q3⟩
theorem takeI (h : Inv w0 wr g A c n live L) (id m : Int) : Calls Try.prog 18 #[.pointer (some ⟨g, 0, none⟩), .int .i64 id, .int .i64 m] wr fun e w' => ∃ A' c', e = .returned (.int .i64 (tak live L id m).1) ∧ Inv w0 w' g A' c' n (tak live L id m).2.1 (tak live L id m).2.2 :=
  (take_ok _ _ _ _ _ _ _ wr h.ga h.wf h.bl.size id m).mono fun e w' ⟨A', c', q1, q2, q3⟩ => ⟨A', c', q1, h.step (h.wf.tak id m) q2 q3⟩
theorem giveI (h : Inv w0 wr g A c n live L) (m : Int) : Calls Try.prog 19 #[.pointer (some ⟨g, 0, none⟩), .int .i64 m] wr fun e w' => ∃ A' c' O co, e = .returned (.tuple #[.slice O (giv n live L m).1.length co, .int .i64 (giv n live L m).2.1]) ∧ Own w' wr.heap.size 3 O (giv n live L m).1.length co (fun j => .int .i64 ((giv n live L m).1.getD j 0)) ∧ Inv w0 w' g A' c' n (giv n live L m).2.2.1 (giv n live L m).2.2.2 :=
  (give_ok _ _ _ _ _ _ _ wr h.ga h.wf h.bl.size m).mono fun e w' ⟨O, co, q1, q2, q3, q4⟩ => ⟨A, c, O, co, q1, q2, h.step (h.wf.giv m) q3 q4⟩
theorem leaveI (h : Inv w0 wr g A c n live L) (id : Int) : Calls Try.prog 16 #[.pointer (some ⟨g, 0, none⟩), .int .i64 id] wr fun e w' => ∃ A' c' O co, e = .returned (.tuple #[.slice O (lea n live L id).1.length co, .int .i64 (lea n live L id).2.1]) ∧ Own w' wr.heap.size 3 O (lea n live L id).1.length co (fun j => .int .i64 ((lea n live L id).1.getD j 0)) ∧ Inv w0 w' g A' c' n live (lea n live L id).2.2 :=
  (leave_ok _ _ _ _ _ _ _ wr h.ga h.wf h.bl.size id).mono fun e w' ⟨A', c', O, co, q1, q2, q3, q4⟩ => ⟨A', c', O, co, q1, q2, h.step (h.wf.lea id) q3 q4⟩
theorem heapI (h : Inv w0 wr g A c n live L) : Calls Try.prog 17 #[.pointer (some ⟨g, 0, none⟩)] wr fun e w' => e = .returned (heapV n live (res L)) ∧ Inv w0 w' g A c n live L ∧ wr.heap.size ≤ w'.heap.size :=
  (heap_ok _ _ _ _ _ _ _ wr h.ga h.wf).mono fun e w' q => ⟨q.1, h.look q.2, q.2.size⟩
theorem seatsI (h : Inv w0 wr g A c n live L) : Calls Try.prog 14 #[.pointer (some ⟨g, 0, none⟩)] wr fun e w' => ∃ A' c', e = .returned (.slice A' L.length c') ∧ SeatsAt w' wr.heap.size A' c' L ∧ Inv w0 w' g A c n live L ∧ wr.heap.size ≤ w'.heap.size :=
  (seats_ok _ _ _ _ _ _ _ wr h.ga h.wf.len).mono fun e w' ⟨A', c', q1, q2, q3⟩ => ⟨A', c', q1, q2, h.look q3, q3.size⟩
/-- A copy of the seats, that no call touches. -/
structure Aside (w : World) (g : Nat) (A A3 : Option Addr) (c3 : Nat) (L : List Seat) : Prop where
  at_ : SeatsAt w 0 A3 c3 L
  ne : ∀ k, inB A3 = some k → ¬ foot g A k
theorem Aside.step {A3 : Option Addr} {c3 : Nat} {L3 : List Seat} (h : Aside wr g A A3 c3 L3) (hf : FrG wr w' g A A') : Aside w' g A' A3 c3 L3 :=
  ⟨h.at_.heap fun k hk => hf.block k (h.at_.lt k hk).2 (h.ne k hk), fun k hk hn => by
    rcases hn with rfl | hn
    · exact h.ne k hk (.inl rfl)
    · rcases hf.new k hn with h2 | h2
      · exact h.ne k hk (.inr h2)
      · have := (h.at_.lt k hk).2; omega⟩
theorem Aside.look {A3 : Option Addr} {c3 : Nat} {L3 : List Seat} (h : Aside wr g A A3 c3 L3) (hb : Below wr.heap.size wr w') : Aside w' g A A3 c3 L3 :=
  ⟨h.at_.heap fun k hk => hb.block k (h.at_.lt k hk).2, h.ne⟩
theorem Aside.alloc {A3 : Option Addr} {c3 : Nat} {L3 : List Seat} (h : Aside wr g A A3 c3 L3) (o : Obj) : Aside (wr.alloc o) g A A3 c3 L3 := h.look ((Below.refl _ _).alloc (Nat.le_refl _) _)
theorem seatsA (h : Inv w0 wr g A c n live L) : Calls Try.prog 14 #[.pointer (some ⟨g, 0, none⟩)] wr fun e w' => ∃ A' c', e = .returned (.slice A' L.length c') ∧ Aside w' g A A' c' L ∧ Inv w0 w' g A c n live L ∧ Below wr.heap.size wr w' :=
  (seats_ok _ _ _ _ _ _ _ wr h.ga h.wf.len).mono fun e w' ⟨A', c', q1, q2, q3⟩ => ⟨A', c', q1, ⟨⟨q2.1, q2.2.imp (fun h => h) fun ⟨a, b, c, d, _, e⟩ => ⟨a, b, c, d, Nat.zero_le _, e⟩⟩, fun k hk hf => by have := (q2.lt k hk).1; have := (h.ga.foot_lt hf).2; omega⟩, h.look q3, q3⟩
theorem livesI (h : Inv w0 wr g A c n live L) : Calls Try.prog 11 #[] wr fun e w' => e = .returned (.bool true) ∧ Inv w0 w' g A c n live L :=
  (lives_ok wr).mono fun e w' q => ⟨q.1, h.look q.2⟩
theorem stalledI (h : Inv w0 wr g A c n live L) : Calls Try.prog 15 #[.pointer (some ⟨g, 0, none⟩)] wr fun e w' => e = .returned (.bool (match L with | [] => false | s :: _ => s.w)) ∧ wr = w' := by
  cases L with
  | nil => exact stalled_no _ _ _ _ _ _ _ wr h.ga rfl
  | cons s r => exact stalled_at _ _ _ _ _ _ _ wr h.ga s rfl
end
end Go.Proofs.Ytliliimdkkaocaa
