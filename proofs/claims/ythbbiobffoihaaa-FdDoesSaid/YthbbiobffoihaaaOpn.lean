import Derived.Test.YthbbiobffoihaaaKeys
/- New, Open. -/
namespace Go.Proofs.Ythbbiobffoihaaa
open Go.RowKit Go.BigFrame
set_option linter.unusedVariables false
set_option linter.unusedSimpArgs false
attribute [local go_sem] szIs_lit row_at row_past row_alloc nf_alloc row_set nf_set row_cell nf_cell row_drew nf_drew row_drewN nf_drewN cell_setRow frozen_setRow nlt1 nlt2 nlt3 nlt4 nne1 nne2 nne3 nen1 nen2 nen3
set_option maxRecDepth 20000
theorem new_ok (w : World) : Calls Try.prog 25 #[] w fun e w' => e = .returned (.pointer (some ⟨w.heap.size + 1, 0, none⟩)) ∧ FR w' (w.heap.size + 1) w.heap.size [] ∧ Below w.heap.size w w' := by
  have h1 : Below w.heap.size w (w.alloc (.map #[] 0)) := (Below.refl _ _).alloc (Nat.le_refl _) _
  have h2 : Below w.heap.size w ((w.alloc (.map #[] 0)).alloc (.cells #[.map (some w.heap.size)] 52)) := h1.alloc (by simp) _
  have hm : IMap ((w.alloc (.map #[] 0)).alloc (.cells #[.map (some w.heap.size)] 52)) w.heap.size [] := (IMap.made w).heap (Below.heap_alloc _ _ _ (by simp))
  have hb : Blk ((w.alloc (.map #[] 0)).alloc (.cells #[.map (some w.heap.size)] 52)) (w.heap.size + 1) #[.map (some w.heap.size)] := Blk.of_heap (heap_at (by simp))
  have hf : FR ((w.alloc (.map #[] 0)).alloc (.cells #[.map (some w.heap.size)] 52)) (w.heap.size + 1) w.heap.size [] :=
    ⟨hb, ⟨hm, by simp, by simp [PL.bs], by simp [PL.bs]⟩, by simp [PL.foot, PL.bs], by simp [PL.ks]⟩
  have HF := Lib.hid (And.intro hf h2)
  clear h1 h2 hm hb hf
  have hmk : (Instr.makeMap 50 none).run Try.prog w = .ok (.map (some w.heap.size)) (w.alloc (.map #[] 0)) := by
    simp [go_sem, Instr.makeMap, run_underlying ty50]
  go_enter Try.func25, Try.ntmps25
  go_wp2_with fail
  go_ret
  exact ⟨by first | rfl | simp, HF.out⟩
section
variable {w w' : World} {g m : Nat} {L : PL Fl}
theorem FR.runlen (h : FR w g m L) (ty : TypeId) : (Builtin.len_ #[50] ty #[.map (some m)]).run Try.prog w = .ok (.int .i64 L.length) w := h.pm.len ty50 ty
theorem open_arg (h : FR w g m L) (k a f : Int) (hk : k < 1 ∨ 4 < k) : Calls Try.prog 8 #[.pointer (some ⟨g, 0, none⟩), .int .i64 k, .int .i64 a, .int .i64 f] w fun e w' => e = .returned (.tuple #[.int .i64 0, .int .i64 1]) ∧ w = w' := by
  have HM := Lib.hid (made_ok h)
  clear h
  by_cases h1 : k < 1
  · clear hk
    go_enter Try.func8, Try.ntmps8
    go_wp2_with fail
    refine HM.out.mono ?_
    rintro e w' ⟨rfl, rfl⟩
    go_wp2
    go_ret2
    exact ⟨by first | rfl | simp, rfl⟩
  · have h2 : 4 < k := by omega
    clear hk
    go_enter Try.func8, Try.ntmps8
    go_wp2_with fail
    refine HM.out.mono ?_
    rintro e w' ⟨rfl, rfl⟩
    go_wp2
    go_ret2
    exact ⟨by first | rfl | simp, rfl⟩
theorem open_full (h : FR w g m L) (k a f : Int) (hk : 1 ≤ k) (hk4 : k ≤ 4) (hl : 64 ≤ L.length) : Calls Try.prog 8 #[.pointer (some ⟨g, 0, none⟩), .int .i64 k, .int .i64 a, .int .i64 f] w fun e w' => e = .returned (.tuple #[.int .i64 0, .int .i64 2]) ∧ w = w' := by
  have HM := Lib.hid (made_ok h)
  have c0 := h.c0
  have hlen := h.runlen
  clear h
  have hl2 : decide ((L.length : Int) ≥ 64) = true := by simp; omega
  clear hl
  go_enter Try.func8, Try.ntmps8
  go_wp2_with fail
  refine HM.out.mono ?_
  rintro e w' ⟨rfl, rfl⟩
  go_wp2
  go_ret2
  exact ⟨by first | rfl | simp, rfl⟩
theorem FR.has_free (h : FR w g m L) (hl : L.length < 64) : ∃ i : Nat, i < 64 ∧ PL.get L (i : Int) = none := by
  refine Classical.byContradiction fun hn => ?_
  have h1 : ∀ i : Nat, i < 64 → (i : Int) ∈ PL.ks L := fun i hi => by
    refine Classical.byContradiction fun hq => hn ⟨i, hi, PL.get_none.2 hq⟩
  have h2 : ((List.range 64).map fun i : Nat => (i : Int)).length ≤ (PL.ks L).length := by
    refine List.Nodup.length_le_of_subset ?_ fun x hx => ?_
    · exact List.Pairwise.map _ (fun a b hab e => hab (by omega)) (List.nodup_range (n := 64))
    · obtain ⟨i, hi, rfl⟩ := List.mem_map.1 hx
      exact h1 i (List.mem_range.1 hi)
  simp [PL.ks] at h2
  omega
set_option maxHeartbeats 1000000 in
theorem open_yes (h : FR w g m L) (k a f : Int) (hk : 1 ≤ k) (hk4 : k ≤ 4) (hl : L.length < 64) : Calls Try.prog 8 #[.pointer (some ⟨g, 0, none⟩), .int .i64 k, .int .i64 a, .int .i64 f] w fun e w' => ∃ i : Nat, i < 64 ∧ PL.get L (i : Int) = none ∧ (∀ j : Nat, j < i → PL.get L (j : Int) ≠ none) ∧
    e = .returned (.tuple #[.int .i64 (i : Int), .int .i64 0]) ∧ FR w' g m (L ++ [((i : Int), w.heap.size, ⟨k, a, 0, f, 1⟩)]) ∧ Ch (· = m) w w' := by
  obtain ⟨q, hq, hqn⟩ := h.has_free hl
  have HM := Lib.hid (made_ok h)
  have c0 := h.c0
  have hlen := h.runlen
  have hl2 : decide ((L.length : Int) ≥ 64) = false := by simp; omega
  have HL := Lib.hid hl
  have HQ := Lib.hid (And.intro hq hqn)
  clear hl hq hqn
  have HH := Lib.hid h
  clear h
  go_enter Try.func8, Try.ntmps8
  go_wp2_with fail
  refine HM.out.mono ?_
  rintro e w' ⟨rfl, rfl⟩
  go_wp2_with fail
  go_loopg [10] 64 (fun n o wr => ∃ i : Nat, o = .int .i64 (i : Int) ∧ n = 64 - i ∧ i ≤ q ∧ (∀ j : Nat, j < i → PL.get L (j : Int) ≠ none) ∧ wr = w)
  case atStart => exact ⟨0, rfl, rfl, by omega, fun j hj => by omega, rfl⟩
  case round =>
    obtain ⟨i, rfl, hn, hiq, hb, rfl⟩ := hrel
    have HN := Lib.hid (And.intro hn (And.intro hiq hb))
    clear hn hiq hb
    cases hg : PL.get L (i : Int) with
    | none =>
      have h := HH.out
      have hlk := h.look_no hg
      have hnb : ¬ FR.all g m L wr.heap.size := fun q => Nat.lt_irrefl _ (h.lt q)
      have h1 := h.alloc (.cells #[.int .i64 k, .int .i64 a, .int .i64 0, .int .i64 f, .int .i64 1] 40)
      have hbk : Blk (wr.alloc (.cells #[.int .i64 k, .int .i64 a, .int .i64 0, .int .i64 f, .int .i64 1] 40)) wr.heap.size (Fl.cells ⟨k, a, 0, f, 1⟩) := Blk.of_heap (heap_at rfl)
      obtain ⟨w2, e1, e2, e3, e4⟩ := h1.pm.put hg hbk (fun e => hnb (.inr (.inl e))) (fun e => hnb (.inr (.inr e))) ty50 ty3
      have hc : Ch (· = m) wr w2 := ((Ch.refl (· = m) wr).alloc (.cells #[.int .i64 k, .int .i64 a, .int .i64 0, .int .i64 f, .int .i64 1] 40)).trans e3 (fun k _ q => q)
      have hR : FR w2 g m (L ++ [((i : Int), wr.heap.size, ⟨k, a, 0, f, 1⟩)]) := by
        refine ⟨h1.blk.ch e3 (fun e => h.gm (.inl e)), e2, ?_, fun x hx => ?_⟩
        · rintro (q | q)
          · exact h.gm (.inl q)
          · simp only [PL.bs, List.map_append, List.map_cons, List.map_nil, List.mem_append, List.mem_singleton] at q
            rcases q with q | q
            · exact h.gm (.inr q)
            · exact hnb (.inl q.symm)
        · simp only [PL.ks, List.map_append, List.map_cons, List.map_nil, List.mem_append, List.mem_singleton] at hx
          rcases hx with hx | rfl
          · exact h.ids x hx
          · have := HN.out.2.1; have := HQ.out.1; omega
      have HG := Lib.hid hg
      have HR := Lib.hid (And.intro hR hc)
      clear h h1 hbk e2 e3 e4 hg hR hc hnb
      go_wp2_with fail
      go_ret2
      exact ⟨i, by have := HN.out.2.1; have := HQ.out.1; omega, HG.out, HN.out.2.2, by first | rfl | simp, HR.out⟩
    | some r =>
      obtain ⟨b, fl⟩ := r
      have hlk := HH.out.look_yes hg
      have HG := Lib.hid hg
      have hi64 : (i : Int) < 64 := by have := HN.out.2.1; have := HQ.out.1; omega
      have hx : IntKind.i64.wrap ((i : Int) + 1) = (i : Int) + 1 := IntWalk.i64_in _ (by omega)
      clear hg
      go_wp2_with fail
      go_roundg (64 - (i + 1))
      case measure => have := HN.out.1; have := HN.out.2.1; have := HQ.out.1; omega
      case rel =>
        refine ⟨i + 1, by first | rfl | go_num, rfl, ?_, fun j hj => ?_, rfl⟩
        · have h1 := HN.out.2.1
          have h2 := HQ.out.2
          have h3 := HG.out
          rcases Nat.lt_or_ge i q with h4 | h4
          · omega
          · obtain rfl : i = q := by omega
            rw [h2] at h3; cases h3
        · rcases Nat.lt_or_ge j i with h4 | h4
          · exact HN.out.2.2 j h4
          · obtain rfl : j = i := by omega
            rw [HG.out]; simp
end
end Go.Proofs.Ythbbiobffoihaaa
