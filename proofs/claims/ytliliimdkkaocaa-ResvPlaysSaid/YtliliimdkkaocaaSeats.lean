import Derived.Test.YtliliimdkkaocaaKit
import Derived.Test.YtliliimdkkaocaaPlain
/- Seats in memory: a row of structs; the gate. -/
namespace Go.Proofs.Ytliliimdkkaocaa
open Go.RowKit
set_option linter.unusedVariables false
set_option linter.unusedSimpArgs false
def Seat.cs (s : Seat) : List Value := [.int .i64 s.id, .int .i64 s.b, .int .i64 s.t, .bool s.w]
def flat (L : List Seat) : List Value := L.flatMap Seat.cs
theorem flat_cons (s : Seat) (L : List Seat) : flat (s :: L) = s.cs ++ flat L := by simp [flat]
theorem flat_app (L R : List Seat) : flat (L ++ R) = flat L ++ flat R := by simp [flat]
theorem flat_len (L : List Seat) : (flat L).length = L.length * 4 := by
  induction L with
  | nil => rfl
  | cons s r ih => rw [flat_cons, List.length_append, ih]; simp [Seat.cs]; omega
theorem flat_get : ∀ (L : List Seat) (i j : Nat) (s : Seat), L[i]? = some s → j < 4 → (flat L)[i * 4 + j]? = s.cs[j]?
  | [], i, j, s, h, hj => by simp at h
  | x :: r, 0, j, s, h, hj => by
    obtain rfl : x = s := by simpa using h
    rw [flat_cons, List.getElem?_append_left (by simp [Seat.cs]; omega)]
    simp
  | x :: r, i + 1, j, s, h, hj => by
    rw [flat_cons, List.getElem?_append_right (by simp [Seat.cs]; omega)]
    rw [← flat_get r i j s (by simpa using h) hj]
    congr 1
    simp [Seat.cs]; omega
theorem flat_set : ∀ (L : List Seat) (i j : Nat) (s s' : Seat) (u : Value), L[i]? = some s → j < 4 → s'.cs = s.cs.set j u → (flat L).set (i * 4 + j) u = flat (L.set i s')
  | [], i, j, s, s', u, h, hj, hu => by simp at h
  | x :: r, 0, j, s, s', u, h, hj, hu => by
    obtain rfl : x = s := by simpa using h
    rw [flat_cons, List.set_cons_zero, flat_cons, hu, List.set_append, if_pos (by simp [Seat.cs]; omega)]
    simp
  | x :: r, i + 1, j, s, s', u, h, hj, hu => by
    rw [flat_cons, List.set_cons_succ, flat_cons, List.set_append, if_neg (by simp [Seat.cs]; omega), ← flat_set r i j s s' u (by simpa using h) hj hu]
    congr 2
    simp [Seat.cs]; omega
theorem flat_take (L : List Seat) (i : Nat) : (flat L).take (i * 4) = flat (L.take i) := by
  by_cases h : i ≤ L.length
  · have e : flat L = flat (L.take i) ++ flat (L.drop i) := by rw [← flat_app, List.take_append_drop]
    rw [e, List.take_append_of_le_length (by rw [flat_len, List.length_take]; omega), List.take_of_length_le (by rw [flat_len, List.length_take]; omega)]
  · rw [List.take_of_length_le (by rw [flat_len]; omega), List.take_of_length_le (by omega)]
theorem flat_drop (L : List Seat) (i : Nat) : (flat L).drop (i * 4) = flat (L.drop i) := by
  by_cases h : i ≤ L.length
  · have e : flat L = flat (L.take i) ++ flat (L.drop i) := by rw [← flat_app, List.take_append_drop]
    rw [e, List.drop_append_of_le_length (by rw [flat_len, List.length_take]; omega), List.drop_of_length_le (by rw [flat_len, List.length_take]; omega)]
    rfl
  · rw [List.drop_of_length_le (by rw [flat_len]; omega), List.drop_of_length_le (by omega)]
    rfl
def SeatsAt (w : World) (base : Nat) (A : Option Addr) (c : Nat) (L : List Seat) : Prop := w.ownsRow base 39 4 (.slice A L.length c) L.length (flat L)
section
variable {w w' : World} {base c : Nat} {A : Option Addr} {L : List Seat}
theorem SeatsAt.lt (h : SeatsAt w base A c L) : ∀ k, inB A = some k → base ≤ k ∧ k < w.heap.size := fun k hk => World.ownsRow.lt h k (by rw [own_blk]; exact hk)
theorem SeatsAt.heap (h : SeatsAt w base A c L) (hk : ∀ k, inB A = some k → w'.heap[k]? = w.heap[k]?) : SeatsAt w' base A c L := by
  refine ⟨h.1, ?_⟩
  rcases h.2 with hn | ⟨g, cap, cur, hv, hb, hgg, rest⟩
  · exact .inl hn
  · refine .inr ⟨g, cap, cur, hv, hb, ?_, rest⟩
    injection hv with hv _ _
    rw [hk g (by rw [hv]; rfl)]; exact hgg
theorem SeatsAt.nil (w : World) (base : Nat) : SeatsAt w base none 0 [] := World.ownsRow_nil w base 39 4
theorem SeatsAt.le (h : SeatsAt w base A c L) : L.length ≤ c ∧ c ≤ maxLen := by
  rcases h.2 with ⟨hv, h0⟩ | ⟨g, cap, cur, hv, hb, hgg, h1, h2, _⟩
  · injection hv with _ h3 h4
    subst h4
    exact ⟨by omega, by unfold maxLen; omega⟩
  · injection hv with _ _ h4
    subst h4
    exact ⟨h1, h2⟩
theorem SeatsAt.some_ (h : SeatsAt w base A c L) (hL : 0 < L.length) : ∃ b, A = some ⟨b, 0, none⟩ ∧ base ≤ b ∧ b < w.heap.size ∧ (∀ j, w.frozen? ⟨b, j, none⟩ = false) ∧ ∀ i s, L[i]? = some s → ∀ j, j < 4 → w.cell? ⟨b, i * 4 + j, none⟩ = s.cs[j]? := by
  rcases h.2 with ⟨hv, h0⟩ | ⟨g, cap, cur, hv, hb, hgg, rest⟩
  · omega
  · have hA : A = some ⟨g, 0, none⟩ := by injection hv
    subst hA
    refine ⟨g, rfl, hb, (Array.getElem?_eq_some_iff.1 hgg).1, fun j => frozen_of_row w g j cur 39 hgg, fun i s hi j hj => ?_⟩
    have hlt := (List.getElem?_eq_some_iff.1 hi).1
    rw [World.ownsRow.cellAt h (i * 4 + j) (by omega), flat_get L i j s hi hj]
theorem SeatsAt.at_ (h : SeatsAt w base A c L) {i : Nat} {s : Seat} (hi : L[i]? = some s) : ∃ b, A = some ⟨b, 0, none⟩ ∧ base ≤ b ∧ b < w.heap.size ∧ (∀ j, w.frozen? ⟨b, j, none⟩ = false) ∧ w.cell? ⟨b, i * 4, none⟩ = some (.int .i64 s.id) ∧ w.cell? ⟨b, i * 4 + 1, none⟩ = some (.int .i64 s.b) ∧ w.cell? ⟨b, i * 4 + 2, none⟩ = some (.int .i64 s.t) ∧ w.cell? ⟨b, i * 4 + 3, none⟩ = some (.bool s.w) := by
  obtain ⟨b, e, h1, h2, h3, h4⟩ := h.some_ (by have := (List.getElem?_eq_some_iff.1 hi).1; omega)
  exact ⟨b, e, h1, h2, h3, h4 i s hi 0 (by omega), h4 i s hi 1 (by omega), h4 i s hi 2 (by omega), h4 i s hi 3 (by omega)⟩
theorem SeatsAt.put {b : Nat} (h : SeatsAt w base (some ⟨b, 0, none⟩) c L) {i j : Nat} {s s' : Seat} {u : Value} (hi : L[i]? = some s) (hj : j < 4) (hu : s'.cs = s.cs.set j u) : SeatsAt (w.setCell ⟨b, i * 4 + j, none⟩ u) base (some ⟨b, 0, none⟩) c (L.set i s') := by
  have := (World.ownsRow.stored h (i * 4 + j) u).1
  rw [flat_set L i j s s' u hi hj hu] at this
  unfold SeatsAt
  rw [List.length_set]
  exact this
end
/-- The gate. -/
structure GateA (w : World) (base g : Nat) (A : Option Addr) (c : Nat) (size live : Int) (L : List Seat) : Prop where
  blk : Blk w g #[.int .i64 size, .int .i64 live, .slice A L.length c]
  seats : SeatsAt w base A c L
  base : base ≤ g
  ag : inB A ≠ some g
def foot (g : Nat) (A : Option Addr) (k : Nat) : Prop := k = g ∨ inB A = some k
section
variable {w w' : World} {base g c : Nat} {A : Option Addr} {L : List Seat} {size live : Int}
theorem GateA.foot_lt (h : GateA w base g A c size live L) {k : Nat} (hk : foot g A k) : base ≤ k ∧ k < w.heap.size := by
  rcases hk with rfl | hk
  · exact ⟨h.base, h.blk.lt⟩
  · exact h.seats.lt k hk
theorem GateA.kept (h : GateA w base g A c size live L) (hk : ∀ k, foot g A k → w'.heap[k]? = w.heap[k]?) : GateA w' base g A c size live L :=
  ⟨⟨(row_heap (hk g (.inl rfl))).trans h.blk.1, (nf_heap (hk g (.inl rfl))).trans h.blk.2⟩, h.seats.heap fun k e => hk k (.inr e), h.base, h.ag⟩
theorem GateA.below (h : GateA w base g A c size live L) (hb : Below w.heap.size w w') : GateA w' base g A c size live L := h.kept fun k hk => hb.block k (h.foot_lt hk).2
theorem GateA.drew (h : GateA w base g A c size live L) : GateA w.drew base g A c size live L := h.kept fun _ _ => rfl
theorem GateA.drewN (h : GateA w base g A c size live L) (n : Nat) : GateA (w.drewN n) base g A c size live L := h.kept fun _ _ => rfl
end
/-- What a call at the gate leaves. -/
structure FrG (w w' : World) (g : Nat) (A A' : Option Addr) : Prop where
  os : w'.os = w.os
  tape : w'.tape = w.tape
  output : w'.output = w.output
  size : w.heap.size ≤ w'.heap.size
  block : ∀ k, k < w.heap.size → ¬ foot g A k → w'.heap[k]? = w.heap[k]?
  new : ∀ k, inB A' = some k → inB A = some k ∨ w.heap.size ≤ k
theorem FrG.refl (w : World) (g : Nat) (A : Option Addr) : FrG w w g A A := ⟨rfl, rfl, rfl, Nat.le_refl _, fun _ _ _ => rfl, fun _ h => .inl h⟩
theorem FrG.of_below {w w' : World} (g : Nat) (A : Option Addr) (h : Below w.heap.size w w') : FrG w w' g A A := ⟨h.os, h.tape, h.output, h.size, fun k hk _ => h.block k hk, fun _ h => .inl h⟩
theorem FrG.trans {w w1 w2 : World} {g : Nat} {A A1 A2 : Option Addr} (h : FrG w w1 g A A1) (h2 : FrG w1 w2 g A1 A2) : FrG w w2 g A A2 :=
  ⟨h2.os.trans h.os, h2.tape.trans h.tape, h2.output.trans h.output, Nat.le_trans h.size h2.size, fun k hk hf => (h2.block k (Nat.lt_of_lt_of_le hk h.size) (fun h3 => by
      rcases h3 with h3 | h3
      · exact hf (.inl h3)
      · rcases h.new k h3 with h4 | h4
        · exact hf (.inr h4)
        · omega)).trans (h.block k hk hf),
    fun k hk => by
      rcases h2.new k hk with h3 | h3
      · exact h.new k h3
      · exact .inr (Nat.le_trans h.size h3)⟩
theorem FrG.below {w w' : World} {base g c : Nat} {A A' : Option Addr} {L : List Seat} {size live : Int} (hf : FrG w w' g A A') (h : GateA w base g A c size live L) (hb : base ≤ w.heap.size) : Below base w w' :=
  ⟨hf.os, hf.tape, hf.output, hf.size, fun k hk => hf.block k (by omega) (fun e => by have := (h.foot_lt e).1; omega)⟩
theorem FrG.undrew {w w' : World} {g : Nat} {A A' : Option Addr} (h : FrG w.drew w' g A A') : FrG w w' g A A' := ⟨h.os, h.tape, h.output, h.size, h.block, h.new⟩
end Go.Proofs.Ytliliimdkkaocaa
