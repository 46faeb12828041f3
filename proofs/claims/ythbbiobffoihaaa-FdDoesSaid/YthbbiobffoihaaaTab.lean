import Derived.Test.YthbbiobffoihaaaOpn
import Derived.Deep.MidRow
/- Tables: where they lie, what they name; made, Get, Fds, Free, slices.Index. -/
namespace Go.Proofs.Ythbbiobffoihaaa
open Go.RowKit Go.BigFrame
set_option linter.unusedVariables false
set_option linter.unusedSimpArgs false
attribute [local go_sem] szIs_lit row_at row_past row_alloc nf_alloc row_set nf_set row_cell nf_cell row_drew nf_drew row_drewN nf_drewN cell_setRow frozen_setRow nlt1 nlt2 nlt3 nlt4 nne1 nne2 nne3 nen1 nen2 nen3
set_option maxRecDepth 20000
section
variable {P : Program} {w : World} {g : Nat} {c : Array Value} {ty : TypeId} {d : TypeDesc}
theorem Blk.load (h : Blk w g c) (hu : P.underlying ty = some d) (hd : (match d with | .struct _ | .array _ _ => true | _ => false) = true) (hi : (P.info? ty).map (·.size) = some c.size) :
    (Instr.loadAt ty (.pointer (some ⟨g, 0, none⟩))).run P w = .ok (.agg c) w := by
  obtain ⟨t, e⟩ := nf_iff h.2
  rw [h.1] at e
  simp only [Instr.loadAt, Instr.sureAddr, Sem.run_bind, Sem.run_pure, Result.andThen_ok, run_loadVar_row w g t ty c (0, 0) d e hu hd hi]
theorem Blk.storeAll (h : Blk w g c) {c' : Array Value} (hi : (P.info? ty).map (·.size) = some c'.size) (hs : c.size = c'.size) (h1 : ∀ v ∈ c'.toList, v.oneCell' = true) :
    ∃ w', (Instr.storeAt ty (.pointer (some ⟨g, 0, none⟩)) (.agg c')).run P w = .ok () w' ∧ Blk w' g c' ∧ Ch (· = g) w w' ∧ w'.heap.size = w.heap.size := by
  obtain ⟨t, e⟩ := nf_iff h.2
  rw [h.1] at e
  have hst := run_storeCells_from (P := P) g t c'.toList 0 c w e (by simp [hs]) h1
  refine ⟨w.setRow g c', ?_, ?_, ?_, by simp⟩
  · cases hq : P.info? ty with
    | none => rw [hq] at hi; cases hi
    | some i =>
      rw [hq] at hi
      simp only [Option.map_some, Option.some.injEq] at hi
      have hst' : (storeCells ⟨g, 0, none⟩ c'.toList).run P w = .ok () (w.setRow g c') := by simpa using hst
      simp [Instr.storeAt, Instr.sureAddr, storeVar, sizeOf, typeInfo, hq, hi, Value.cells, hst']
  · exact Blk.of_heap (setRow_heap w g c c' t (0, 0) e)
  · exact ⟨by simp, by simp, by simp, by simp, fun k _ hk => setRow_other w g k c' hk⟩
end
theorem Ch.setRow {w : World} {g : Nat} (cs : Array Value) : Ch (· = g) w (w.setRow g cs) := ⟨by simp, by simp, by simp, by simp, fun k _ hk => setRow_other w g k cs hk⟩
/-- A table's cells. -/
def tcells (g : Nat) (D : List Int) : Array Value := (.pointer (some ⟨g, 0, none⟩) :: iv D).toArray
theorem tcells_size (g : Nat) (D : List Int) : (tcells g D).size = D.length + 1 := by simp [tcells, iv]
theorem tcells_set (g : Nat) (D : List Int) (j : Nat) (x : Int) : (tcells g D).setIfInBounds (1 + j) (.int .i64 x) = tcells g (D.set j x) := by
  apply Array.ext_getElem?
  intro k
  rw [Array.getElem?_setIfInBounds]
  simp only [tcells, List.getElem?_toArray, List.size_toArray]
  cases k with
  | zero => rw [if_neg (by omega)]; simp
  | succ k =>
    by_cases hk : j = k
    · subst hk
      rw [if_pos (by omega)]
      by_cases h : j < D.length
      · simp [iv, h]; omega
      · simp [iv, h]; omega
    · rw [if_neg (by omega)]
      simp [iv, hk]
structure TR (w : World) (t g : Nat) (D : List Int) : Prop where
  blk : Blk w t (tcells g D)
  len : D.length = 16
section
variable {w w' : World} {t g m : Nat} {D : List Int}
theorem TR.lt (h : TR w t g D) : t < w.heap.size := h.blk.lt
theorem TR.same (h : TR w t g D) (e : w'.heap[t]? = w.heap[t]?) : TR w' t g D := ⟨h.blk.same e, h.len⟩
theorem TR.ch {F : Nat → Prop} (h : TR w t g D) (hc : Ch F w w') (ht : ¬ F t) : TR w' t g D := ⟨h.blk.ch hc ht, h.len⟩
theorem TR.below (h : TR w t g D) (hb : Below w.heap.size w w') : TR w' t g D := h.same (hb.block t h.lt)
theorem TR.alloc (h : TR w t g D) (o : Obj) : TR (w.alloc o) t g D := h.below ((Below.refl _ _).alloc (Nat.le_refl _) _)
theorem TR.drew (h : TR w t g D) : TR w.drew t g D := h.same rfl
theorem TR.c0 (h : TR w t g D) : w.cell? ⟨t, 0, none⟩ = some (.pointer (some ⟨g, 0, none⟩)) := (h.blk.all.2.2.1 0).trans rfl
theorem TR.at (h : TR w t g D) {j : Nat} {x : Int} (hj : D[j]? = some x) : w.cell? ⟨t, 1 + j, none⟩ = some (.int .i64 x) := by
  rw [h.blk.all.2.2.1 (1 + j)]
  simp [tcells, iv, Nat.add_comm 1 j, hj]
theorem TR.frz (h : TR w t g D) (i : Nat) : w.frozen? ⟨t, i, none⟩ = false := h.blk.all.2.2.2 i
theorem TR.put (h : TR w t g D) (j : Nat) (x : Int) : TR (w.setCell ⟨t, 1 + j, none⟩ (.int .i64 x)) t g (D.set j x) := ⟨by rw [← tcells_set]; exact h.blk.put _ _, by rw [List.length_set]; exact h.len⟩
theorem tmade_ok (h : TR w t g D) : Calls Try.prog 26 #[.pointer (some ⟨t, 0, none⟩)] w fun e w' => e = .returned (.bool true) ∧ w = w' := by
  have c0 := h.c0
  clear h
  go_enter Try.func26, Try.ntmps26
  go_wp2
  go_ret
  exact ⟨by first | rfl | simp, rfl⟩
theorem tget_out (h : TR w t g D) (f : Int) (hf : f < 0 ∨ 16 ≤ f) : Calls Try.prog 13 #[.pointer (some ⟨t, 0, none⟩), .int .i64 f] w fun e w' => e = .returned (.tuple #[.int .i64 0, .int .i64 220]) ∧ w = w' := by
  have HM := Lib.hid (tmade_ok h)
  clear h
  by_cases h1 : f < 0
  · have h2 : decide (f < 0) = true := by simpa using h1
    clear hf
    go_enter Try.func13, Try.ntmps13
    go_wp2_with fail
    refine HM.out.mono ?_
    rintro e w' ⟨rfl, rfl⟩
    go_wp2
    go_ret2
    exact ⟨by first | rfl | simp, rfl⟩
  · have h2 : decide (f < 0) = false := by simpa using h1
    have h3 : decide (f ≥ 16) = true := by simp; omega
    clear hf
    go_enter Try.func13, Try.ntmps13
    go_wp2_with fail
    refine HM.out.mono ?_
    rintro e w' ⟨rfl, rfl⟩
    go_wp2
    go_ret2
    exact ⟨by first | rfl | simp, rfl⟩
theorem tget_free (h : TR w t g D) (j : Nat) (hj : D[j]? = some (-1)) : Calls Try.prog 13 #[.pointer (some ⟨t, 0, none⟩), .int .i64 (j : Int)] w fun e w' => e = .returned (.tuple #[.int .i64 0, .int .i64 220]) ∧ w = w' := by
  have HM := Lib.hid (tmade_ok h)
  have hc := h.at hj
  have hl : j < 16 := by have := (List.getElem?_eq_some_iff.1 hj).1; rw [h.len] at this; exact this
  have h2 : decide ((j : Int) < 0) = false := by simp
  have h3 : decide ((j : Int) ≥ 16) = false := by simp; omega
  clear h hj
  go_enter Try.func13, Try.ntmps13
  go_wp2_with fail
  refine HM.out.mono ?_
  rintro e w' ⟨rfl, rfl⟩
  go_wp2
  go_ret2
  exact ⟨by first | rfl | simp, rfl⟩
theorem tget_ok (h : TR w t g D) (j : Nat) (x : Int) (hj : D[j]? = some x) (hx : x ≠ -1) : Calls Try.prog 13 #[.pointer (some ⟨t, 0, none⟩), .int .i64 (j : Int)] w fun e w' => e = .returned (.tuple #[.int .i64 x, .int .i64 0]) ∧ w = w' := by
  have HM := Lib.hid (tmade_ok h)
  have hc := h.at hj
  have hl : j < 16 := by have := (List.getElem?_eq_some_iff.1 hj).1; rw [h.len] at this; exact this
  have h2 : decide ((j : Int) < 0) = false := by simp
  have h3 : decide ((j : Int) ≥ 16) = false := by simp; omega
  have h4 : (x == -1) = false := by simpa using hx
  clear h hj hx
  go_enter Try.func13, Try.ntmps13
  go_wp2_with fail
  refine HM.out.mono ?_
  rintro e w' ⟨rfl, rfl⟩
  go_wp2
  go_ret2
  exact ⟨by first | rfl | simp, rfl⟩
theorem idx_at (D : List Int) (v : Int) (i n : Nat) : ∀ (j : Nat), j ≤ D.length → True := fun _ _ => trivial
/-- The first place of v, or -1. -/
def fidx (D : List Int) (v : Int) : Int := match D.findIdx? (fun x => x == v) with | some i => (i : Int) | none => -1
set_option maxHeartbeats 1000000 in
theorem index_ok (w : World) (b o n c : Nat) (D : List Int) (v : Int) (hn : D.length = n) (hn2 : n ≤ 1024) (hc : ∀ (j : Nat) x, D[j]? = some x → w.cell? ⟨b, o + j, none⟩ = some (.int .i64 x)) : Calls Try.prog 29 #[.slice (some ⟨b, o, none⟩) n c, .int .i64 v] w fun e w' => e = .returned (.int .i64 (fidx D v)) ∧ w = w' := by
  have HC := Lib.hid hc
  have HN := Lib.hid hn
  clear hc hn
  go_enter Try.func29, Try.ntmps29
  go_wp2_with fail
  go_loopg [8] n (fun k i_ wr => ∃ i : Nat, i_ = .int .i64 (i : Int) ∧ k = n - i ∧ i ≤ n ∧ (∀ j : Nat, j < i → D[j]? ≠ some v) ∧ wr = w)
  case atStart => exact ⟨0, rfl, rfl, by omega, fun j hj => by omega, rfl⟩
  case round =>
    obtain ⟨i, rfl, hk, hi, hb, rfl⟩ := hrel
    have HK := Lib.hid (And.intro hk hb)
    clear hk hb
    by_cases hlt : i < n
    · obtain ⟨x, hx⟩ : ∃ x, D[i]? = some x := ⟨_, List.getElem?_eq_getElem (by rw [HN.out]; exact hlt)⟩
      have hcx := HC.out i x hx
      have HX := Lib.hid hx
      clear hx
      by_cases hv : v = x
      · subst hv
        go_wp2_with fail
        go_ret
        refine ⟨?_, rfl⟩
        have : fidx D v = (i : Int) := by
          unfold fidx
          have hf : D.findIdx? (fun x => x == v) = some i := by
            rw [List.findIdx?_eq_some_iff_getElem]
            refine ⟨by rw [HN.out]; exact hlt, ?_, fun j hj => ?_⟩
            · have := (List.getElem?_eq_some_iff.1 HX.out).2; simp [this]
            · have := HK.out.2 j hj
              rw [List.getElem?_eq_getElem (by rw [HN.out]; omega)] at this
              simpa using this
          rw [hf]
        rw [this]; first | rfl | simp
      · have hv2 : (v == x) = false := by simpa using hv
        have hw : IntKind.i64.wrap ((i : Int) + 1) = (i : Int) + 1 := IntWalk.i64_in _ (by omega)
        go_wp2_with fail
        go_roundg (n - (i + 1))
        case measure => have := HK.out.1; omega
        case rel =>
          refine ⟨i + 1, by first | rfl | go_num, rfl, by omega, fun j hj => ?_, rfl⟩
          rcases Nat.lt_or_ge j i with h4 | h4
          · exact HK.out.2 j h4
          · obtain rfl : j = i := by omega
            rw [HX.out]; intro e; injection e with e; exact hv e.symm
    · obtain rfl : i = n := by omega
      have hlt2 : decide ((i : Int) < (i : Int)) = false := by simp
      go_wp2_with fail
      go_ret
      refine ⟨?_, rfl⟩
      have : fidx D v = -1 := by
        unfold fidx
        have hf : D.findIdx? (fun x => x == v) = none := by
          rw [List.findIdx?_eq_none_iff]
          intro x hx
          obtain ⟨j, hj⟩ := List.getElem?_of_mem hx
          have hjl := (List.getElem?_eq_some_iff.1 hj).1
          have := HK.out.2 j (by rw [← HN.out]; exact hjl)
          rw [hj] at this
          simpa using this
        rw [hf]
      rw [this]; first | rfl | simp
end
end Go.Proofs.Ythbbiobffoihaaa
