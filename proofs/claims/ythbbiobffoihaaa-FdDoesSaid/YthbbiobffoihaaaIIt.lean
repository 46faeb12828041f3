import Derived.Test.YthbbiobffoihaaaBase
import Derived.Test.YthbbiobffoihaaaHp
import Derived.Maps.RangeRun
/- A range over a map whose keys are whole numbers. -/
namespace Go.Proofs.Ythbbiobffoihaaa
open Go.RowKit Go.BigFrame
set_option linter.unusedVariables false
set_option linter.unusedSimpArgs false
theorem IM.get_none_iff (M : IM) (x : Int) : M.get x = none ↔ x ∉ M.map (·.1) := by
  unfold IM.get
  rw [Option.map_eq_none_iff, List.find?_eq_none]
  constructor
  · intro h hm
    obtain ⟨p, hp, rfl⟩ := List.mem_map.1 hm
    exact h p hp (by simp)
  · intro h p hp e
    exact h (by rw [← show p.1 = x by simpa using e]; exact List.mem_map_of_mem hp)
theorem IM.keys_put (M : IM) (x : Int) (v : Value) : (M.put x v).map (·.1) = if (M.get x).isSome then M.map (·.1) else M.map (·.1) ++ [x] := by
  induction M with
  | nil => simp [IM.put, IM.get]
  | cons p M ih =>
    unfold IM.put
    unfold IM.get at ih ⊢
    by_cases hp : (p.1 == x) = true
    · have : p.1 = x := by simpa using hp
      simp [hp, this]
    · rw [if_neg hp]
      simp only [List.map_cons, List.find?_cons, hp]
      rw [ih]
      split <;> simp_all
theorem IM.nodup_put {M : IM} (h : (M.map (·.1)).Nodup) (x : Int) (v : Value) : ((M.put x v).map (·.1)).Nodup := by
  rw [IM.keys_put]
  split
  · exact h
  · rename_i hx
    have hx' : M.get x = none := by simpa using hx
    exact List.nodup_append.2 ⟨h, by simp, fun a ha b hb e => by
      rw [List.mem_singleton] at hb
      rw [hb] at e
      exact (IM.get_none_iff M x).1 hx' (e ▸ ha)⟩
theorem IM.nodup_del {M : IM} (h : (M.map (·.1)).Nodup) (x : Int) : ((M.del x).map (·.1)).Nodup := by
  unfold IM.del
  exact List.Nodup.sublist (List.Sublist.map _ List.filter_sublist) h
theorem IM.mem_get {M : IM} (hn : (M.map (·.1)).Nodup) {x : Int} {v : Value} (h : (x, v) ∈ M) : M.get x = some v := by
  induction M with
  | nil => cases h
  | cons p M ih =>
    have hn2 := List.nodup_cons.1 hn
    unfold IM.get at ih ⊢
    rcases List.mem_cons.1 h with rfl | h
    · simp
    · have hne : (p.1 == x) = false := by
        have : ¬ p.1 = x := fun e => hn2.1 (by show p.1 ∈ _; rw [e]; exact List.mem_map.2 ⟨(x, v), h, rfl⟩)
        simpa using this
      simp only [List.find?_cons, hne]
      exact ih hn2.2 h
/-- An iterator (block r) over the map M (block b): so many are still to come. -/
def IIt (w : World) (r b : Nat) (M : IM) (cnt : Nat) : Prop :=
  ∃ es clock seen c0, w.heap[b]? = some (.map es clock) ∧ MapKept.Stamped es clock ∧ es.toList.map (fun e => (e.key, e.val)) = M.map (fun p => (Value.int .i64 p.1, p.2)) ∧ w.heap[r]? = some (.mapIter (some b) clock seen c0) ∧ clock ≤ c0 ∧ (leftOf es seen).size = cnt
section
variable {w w' : World} {r b cnt : Nat} {M : IM}
theorem IIt.map (h : IIt w r b M cnt) : IMap w b M := by
  obtain ⟨es, clock, seen, c0, h1, h2, h3, _⟩ := h
  exact ⟨es, clock, h1, h2, h3⟩
theorem IIt.heap (h : IIt w r b M cnt) (h1 : w'.heap[b]? = w.heap[b]?) (h2 : w'.heap[r]? = w.heap[r]?) : IIt w' r b M cnt := by
  obtain ⟨es, clock, seen, c0, g1, g2, g3, g4, g5⟩ := h
  exact ⟨es, clock, seen, c0, h1.trans g1, g2, g3, h2.trans g4, g5⟩
theorem IIt.rlt (h : IIt w r b M cnt) : r < w.heap.size := by
  obtain ⟨es, clock, seen, c0, g1, g2, g3, g4, g5⟩ := h
  exact (Array.getElem?_eq_some_iff.1 g4).1
theorem IIt.start {t k e : TypeId} (h : IMap w b M) (ht : Try.prog.underlying t = some (.map k e)) : ∃ o c, (Instr.range t (.map (some b))).run Try.prog w = .ok (.pointer (some ⟨w.heap.size, 0, none⟩)) (w.alloc o) ∧ IIt (w.alloc o) w.heap.size b M c := by
  have hl := h.lt
  obtain ⟨es, clock, h1, h2, h3⟩ := h
  exact ⟨_, _, run_range_map (P := Try.prog) w t k e b es clock ht h1, es, clock, #[], clock, (Below.heap_alloc w _ b hl).trans h1, h2, h3, heap_alloc_new w _, Nat.le_refl _, rfl⟩
theorem IIt.next (h : IIt w r b M cnt) (ty : TypeId) : ((Instr.next (.pointer (some ⟨r, 0, none⟩)) false ty).run Try.prog w = .ok (.tuple #[.bool false]) w) ∨ ∃ (x : Int) (v : Value) (w' : World) (cnt' : Nat), M.get x = some v ∧ cnt' < cnt ∧ (Instr.next (.pointer (some ⟨r, 0, none⟩)) false ty).run Try.prog w = .ok (.tuple #[.bool true, .int .i64 x, v]) w' ∧ IIt w' r b M cnt' ∧ Ch (· = r) w w' ∧ w'.heap.size = w.heap.size ∧ (Instr.entry (.pointer (some ⟨r, 0, none⟩))).run Try.prog w' = .ok (.tuple #[.int .i64 x, v]) w' := by
  have hnd := h.map.nodup
  have hrl := h.rlt
  obtain ⟨es, clock, seen, c0, g1, g2, g3, g4, g5, g6⟩ := h
  have hne : r ≠ b := fun e => by rw [e, g1] at g4; cases g4
  rcases run_next_at (P := Try.prog) w ty r b clock c0 seen es clock g4 g1 g2.1 g5 with ⟨_, h2⟩ | ⟨e, he, w1, hw1, h2⟩
  · exact .inl h2
  · right
    have hm := mem_left he
    have hpair : (e.key, e.val) ∈ M.map (fun p => (Value.int .i64 p.1, p.2)) := by rw [← g3]; exact List.mem_map.2 ⟨e, hm.1, rfl⟩
    obtain ⟨p, hp, hpe⟩ := List.mem_map.1 hpair
    have hk : e.key = .int .i64 p.1 := by injection hpe with h1 _; exact h1.symm
    have hv : e.val = p.2 := by injection hpe with _ h1; exact h1.symm
    have hw1h : w1.heap = w.heap := by rcases hw1 with rfl | rfl <;> rfl
    have hblk : ∀ k, k ≠ r → (ChangeMaps.setBlock w1 r (.mapIter (some b) clock (seen.push e.born) clock)).heap[k]? = w.heap[k]? := fun k hk => by
      simp only [ChangeMaps.setBlock]
      rw [Array.getElem?_setIfInBounds, if_neg (fun e => hk e.symm), hw1h]
    have hrn : (ChangeMaps.setBlock w1 r (.mapIter (some b) clock (seen.push e.born) clock)).heap[r]? = some (.mapIter (some b) clock (seen.push e.born) clock) := by
      simp only [ChangeMaps.setBlock]
      rw [Array.getElem?_setIfInBounds, if_pos rfl, if_pos (by rw [hw1h]; exact hrl)]
    have hsz : (ChangeMaps.setBlock w1 r (.mapIter (some b) clock (seen.push e.born) clock)).heap.size = w.heap.size := by
      simp [ChangeMaps.setBlock, hw1h]
    refine ⟨p.1, p.2, _, (leftOf es (seen.push e.born)).size, IM.mem_get hnd hp, by rw [← g6]; exact left_shrinks es seen e he, by rw [h2, hk, hv], ⟨es, clock, seen.push e.born, clock, (hblk b hne.symm).trans g1, g2, g3, hrn, Nat.le_refl _, rfl⟩, ⟨?_, ?_, ?_, by rw [hsz]; exact Nat.le_refl _, fun k _ hk => hblk k hk⟩, hsz, ?_⟩
    · rcases hw1 with rfl | rfl <;> rfl
    · rcases hw1 with rfl | rfl <;> rfl
    · rcases hw1 with rfl | rfl <;> rfl
    · rw [run_entry_at (P := Try.prog) _ r b clock seen es clock e hrn ((hblk b hne.symm).trans g1) hm.1 g2.2.1, hk, hv]
end
end Go.Proofs.Ythbbiobffoihaaa
