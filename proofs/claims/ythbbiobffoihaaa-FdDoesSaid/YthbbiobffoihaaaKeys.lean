import Derived.Test.YthbbiobffoihaaaGets
import Derived.Test.YthbbiobffoihaaaLay
/- All. -/
namespace Go.Proofs.Ythbbiobffoihaaa
open Go.RowKit Go.BigFrame Go.Maps Go.Sort Go.Shelf
set_option linter.unusedVariables false
set_option linter.unusedSimpArgs false
theorem sortsA (m : Nat) : AnyZI.SortsIn Try.prog Try.sortedA_ren Fence.wide m :=
  ⟨fun blk off cap ss W hH hblk hsz => callsIn_wide.2 (AnyM.slices_Sort_int Try.sortA blk off cap ss W hH hblk hsz),
   fun p cap W => callsIn_wide.2 (AnyM.slices_Sort_int_none Try.sortA p cap W)⟩
theorem rw_of_owns {w : World} {base e s : Nat} {v : Value} {n : Nat} {vs : List Value} (h : w.ownsRow base e s v n vs) : ∃ A c, v = .slice A n c ∧ Rw w e s A n c vs ∧ ∀ k, blkOf A = some k → base ≤ k := by
  rcases h.2 with ⟨hv, h0⟩ | ⟨g, cap, cur, hv, hb, hgg, h1, h2, h3, h4⟩
  · subst hv
    refine ⟨none, 0, by rw [h0], ?_, by simp [blkOf]⟩
    have := h.1
    subst h0
    simp at this
    subst this
    exact Rw.nil _ _ _
  · subst hv
    exact ⟨_, _, rfl, ⟨h.1, .inr ⟨g, cap, cur, rfl, Nat.zero_le _, hgg, h1, h2, h3, h4⟩⟩, fun k q => by simp [blkOf] at q; omega⟩
section
variable {w w' : World} {g m : Nat} {L : PL Fl}
theorem FR.wf (h : FR w g m L) : ∀ x ∈ PL.ks L, (Lit.int .i64 x).wf = true := fun x hx => by
  have := h.ids x hx
  have e1 : IntKind.i64.min = -9223372036854775808 := by decide
  have e2 : IntKind.i64.max = 9223372036854775807 := by decide
  simp [Lit.wf, e1, e2]
  omega
theorem FR.len (h : FR w g m L) : L.length ≤ 64 := by
  have h1 := h.pm.knd
  have h2 : (PL.ks L).length ≤ ((List.range 64).map fun i : Nat => (i : Int)).length := by
    refine List.Nodup.length_le_of_subset h1 fun x hx => ?_
    have := h.ids x hx
    refine List.mem_map.2 ⟨x.toNat, List.mem_range.2 (by omega), by omega⟩
  simpa [PL.ks] using h2
set_option maxHeartbeats 1000000 in
theorem all_ok (h : FR w g m L) : Calls Try.prog 21 #[.pointer (some ⟨g, 0, none⟩)] w fun e w' => ∃ A c, e = .returned (.slice A L.length c) ∧ Rw w' 3 1 A L.length c (iv (PL.sk L)) ∧ Below w.heap.size w w' ∧ ∀ k, blkOf A = some k → w.heap.size ≤ k := by
  refine (callsIn_wide (n := 6)).1 ?_
  have hbl := h.pm.map.lt
  have hl := h.len
  obtain ⟨D0, hown, hsz, hperm⟩ := h.pm.own ty3 (by have := h.len; unfold maxLen; omega) h.wf
  have hseq : SeqGives Fence.wide 2 Try.prog 49 #[.pointer (some ⟨w.heap.size, 0, none⟩)] encZ (fun ss => ss.Perm (intKeys D0)) (Maps.size D0) (w.alloc (.cells #[.map (some m)] 50)) :=
    AnyZI.keys_gives (ρ := Try.keysA_ren) { Try.keysA with } Fence.wide _ trivial rfl (by omega) w.heap.size m L.length D0 _ (by simp) (by simp) (by
      obtain ⟨es, clock, hb, Ft, hs, hD⟩ := hown
      exact ⟨es, clock, (Below.heap_alloc _ _ m hbl).trans hb, Ft, hs, hD⟩)
  have cK : ∀ mb W, CallsIn Fence.wide 5 Try.prog 42 #[.map mb] W fun e w' => e = .returned (.func (.func 49) #[] #[.pointer (some ⟨W.heap.size, 0, none⟩)]) ∧ w' = W.alloc (.cells #[.map mb] 50) := fun mb W => AnyZI.keys_in Try.keysA Fence.wide 5 trivial rfl mb W
  have cS := AnyZI.sorted_in Try.sortedA Fence.wide 5 trivial trivial trivial trivial rfl (by omega) (sortsA _) (enters_of Try.func48 (by kernel_rfl) rfl) 49 #[.pointer (some ⟨w.heap.size, 0, none⟩)] trivial (enters_of Try.func49 (by kernel_rfl) rfl) _ _ (by rw [hsz]; unfold maxLen; omega) (by rw [hsz]; omega) _ hseq
  change CallsIn _ _ Try.prog 41 _ _ _ at cS
  have cM : CallsIn Fence.wide 5 Try.prog 27 #[.pointer (some ⟨g, 0, none⟩)] w fun e w' => e = .returned (.bool true) ∧ w = w' := callsIn_wide.2 (made_ok h)
  have c0 := h.c0
  have hfK : Fence.wide.fn 42 := trivial
  have hfS : Fence.wide.fn 41 := trivial
  have hfM : Fence.wide.fn 27 := trivial
  have hks : (PL.ks L).length = L.length := by simp [PL.ks]
  refine callsIn_of_wp Try.func21 rfl trivial ?_ rfl
  simp only [Try.ntmps21, List.size_toArray, List.length_cons, List.length_nil, Nat.reduceAdd, Nat.reduceSub, Array.replicate_succ, Array.replicate_zero, List.push_toArray, List.append_toArray, List.nil_append, List.cons_append]
  gi_wp2_with (first
    | (gi_at_call 27; refine cM.mono ?_; rintro e w' ⟨rfl, rfl⟩)
    | (gi_at_call 42; refine (cK _ _).mono ?_; rintro e w' ⟨rfl, rfl⟩)
    | (gi_at_call 41; refine cS.mono ?_; rintro e w' ⟨v, ss, rfl, hS, hrow, hnil, hb⟩)
    | fail)
  go_ret
  obtain ⟨A, c, rfl, hr, hA⟩ := rw_of_owns (base := w.heap.size) (ownsRow_base_a hrow (by simp))
  have hp := hS.trans hperm
  have hlen : ss.length = L.length := by rw [hp.length_eq, hks]
  have hsort : ss.mergeSort (fun x y => decide (x ≤ y)) = PL.sk L := mergeSort_of_perm_i hp
  rw [hlen] at hr
  rw [hsort] at hr
  exact ⟨A, c, by rw [hlen]; rfl, hr, ((Below.refl _ w).alloc (Nat.le_refl _) _).trans (hb.mono (by simp)), fun k q => hA k q⟩
end
end Go.Proofs.Ythbbiobffoihaaa
