import Derived.Test.YthbbiobffoihaaaAppD
/- A table's call of the program's, then the reference's: they tell the same. -/
namespace Go.Proofs.Ythbbiobffoihaaa
open Go.RowKit Go.BigFrame
set_option linter.unusedVariables false
set_option linter.unusedSimpArgs false
/-- Both tables after it say D', both files L'; both told res. -/
structure Two (wA : World) (g m r t x : Nat) (D : List Int) (L : PL Fl) (B : Int) (F1 F2 : Nat) (f : Int) (res : Value) (D' : List Int) (L' : PL Fl) : Prop where
  sub : ∀ k, FR.all g m L' k → FR.all g m L k
  rb : RB L' (B + 16)
  p : Calls Try.prog F1 #[.pointer (some ⟨t, 0, none⟩), .int .i64 f] wA fun e w' => e = .returned res ∧ TR w' t g D' ∧ FR w' g m L' ∧ Ch (fun k => k = t ∨ PL.foot m L k) wA w'
  q : ∀ w1, XR w1 x r D → RF w1 r L → Calls Try.prog F2 #[.pointer (some ⟨x, 0, none⟩), .int .i64 f] w1 fun e w' => e = .returned res ∧ XR w' x r D' ∧ RF w' r L' ∧ Ch (fun k => k = x ∨ k = r) w1 w'
section
variable {wA : World} {g m r t x : Nat} {D : List Int} {L : PL Fl} {B : Int}
theorem RB.put {L : PL Fl} {B : Int} (h : RB L B) (hB1 : 1 ≤ B) {x : Int} {f : Fl} (hf : 1 ≤ f.rf ∧ f.rf ≤ B + 16) : RB (PL.set L x f) (B + 16) := (h.mono (by omega)).set hf
/-- Nothing is done. -/
theorem Two.still (hT : TR wA t g D) (hF : FR wA g m L) (hRB : RB L B) {F1 F2 : Nat} {f : Int} {res : Value}
    (h1 : Calls Try.prog F1 #[.pointer (some ⟨t, 0, none⟩), .int .i64 f] wA fun e w' => e = .returned res ∧ wA = w')
    (h2 : ∀ w1, XR w1 x r D → RF w1 r L → Calls Try.prog F2 #[.pointer (some ⟨x, 0, none⟩), .int .i64 f] w1 fun e w' => e = .returned res ∧ w1 = w') : Two wA g m r t x D L B F1 F2 f res D L := by
  refine ⟨fun k q => q, hRB.mono (by omega), h1.mono ?_, fun w1 a1 a2 => (h2 w1 a1 a2).mono ?_⟩
  · rintro e w' ⟨rfl, rfl⟩; exact ⟨rfl, hT, hF, Ch.refl _ _⟩
  · rintro e w' ⟨rfl, rfl⟩; exact ⟨rfl, a1, a2, Ch.refl _ _⟩
theorem inst_two (hT : TR wA t g D) (hF : FR wA g m L) (ht : ¬ FR.all g m L t) (hR : RF wA r L) (hxr : x ≠ r) (hRB : RB L B) (v : Int) :
    ∃ (y er : Int) (D' : List Int) (L' : PL Fl), Two wA g m r t x D L B 9 30 v (.tuple #[.int .i64 y, .int .i64 er]) D' L' := by
  cases hg : PL.get L v with
  | none => exact ⟨0, 221, D, L, Two.still hT hF hRB (inst_no hT hF hg) fun w1 h1 h2 => rinst_no h1 h2 hg⟩
  | some q =>
    obtain ⟨b, f⟩ := q
    obtain ⟨i, hi, hi64⟩ := hR.isIn hg
    subst hi
    cases hn : D.findIdx? (fun x => x == -1) with
    | none =>
      refine ⟨0, 2, D, L, Two.still hT hF hRB (inst_full hT hF hg hn) fun w1 h1 h2 => ?_⟩
      have hI := rinst_any h1 h2 hi64 hg
      simp only [hn] at hI
      exact hI
    | some j =>
      refine ⟨(j : Int), 0, D.set j (i : Int), L, fun k q => q, hRB.mono (by omega), (inst_ok hT hF hg hn).mono ?_, fun w1 h1 h2 => ?_⟩
      · rintro e w' ⟨rfl, hT', hC⟩
        exact ⟨rfl, hT', hF.ch hC (fun k q e => ht (by rw [← e]; exact q)), hC.mono fun k _ q => .inl q⟩
      · have hI := rinst_any h1 h2 hi64 hg
        simp only [hn] at hI
        refine hI.mono ?_
        rintro e w' ⟨rfl, hX, hC⟩
        exact ⟨rfl, hX, h2.ch hC (fun e => hxr e.symm), hC.mono fun k _ q => .inl q⟩
theorem dup_two (hT : TR wA t g D) (hF : FR wA g m L) (ht : ¬ FR.all g m L t) (hR : RF wA r L) (hxr : x ≠ r) (hRB : RB L B) (hB1 : 1 ≤ B) (hB2 : B ≤ 1152921504606846976) (f : Int) :
    ∃ (y er : Int) (D' : List Int) (L' : PL Fl), Two wA g m r t x D L B 10 31 f (.tuple #[.int .i64 y, .int .i64 er]) D' L' := by
  by_cases hr : f < 0 ∨ 16 ≤ f
  · exact ⟨0, 220, D, L, Two.still hT hF hRB (dup_get f (tget_out hT f hr)) fun w1 h1 h2 => rdup_get f (rtget_out h1 f hr)⟩
  · obtain ⟨i, rfl⟩ : ∃ i : Nat, f = (i : Int) := ⟨f.toNat, by omega⟩
    obtain ⟨v, hv⟩ : ∃ v, D[i]? = some v := ⟨_, List.getElem?_eq_getElem (by rw [hT.len]; omega)⟩
    by_cases hv1 : v = -1
    · subst hv1
      exact ⟨0, 220, D, L, Two.still hT hF hRB (dup_get _ (tget_free hT i hv)) fun w1 h1 h2 => rdup_get _ (rtget_free h1 i hv)⟩
    · cases hg : PL.get L v with
      | none => exact ⟨0, 221, D, L, Two.still hT hF hRB (dup_fail _ v 221 (by decide) (tget_ok hT i v hv hv1) (inst_no hT hF hg)) fun w1 h1 h2 => rdup_fail _ v 221 (by decide) (rtget_ok h1 i v hv hv1) (rinst_no h1 h2 hg)⟩
      | some q =>
        obtain ⟨b, kd, wh, at_, fg, rf⟩ := q
        obtain ⟨z, hz, hz64⟩ := hR.isIn hg
        subst hz
        have hrf := hRB _ _ hg
        simp only at hrf
        cases hn : D.findIdx? (fun x => x == -1) with
        | none =>
          refine ⟨0, 2, D, L, Two.still hT hF hRB (dup_fail _ _ 2 (by decide) (tget_ok hT i _ hv hv1) (inst_full hT hF hg hn)) fun w1 h1 h2 => rdup_fail _ _ 2 (by decide) (rtget_ok h1 i _ hv hv1) ?_⟩
          have hI := rinst_any h1 h2 hz64 hg
          simp only [hn] at hI
          exact hI
        | some j =>
          refine ⟨(j : Int), 0, D.set j (z : Int), PL.set L (z : Int) ⟨kd, wh, at_, fg, rf + 1⟩, fun k q => FR.all_set q, hRB.put hB1 (by simp only; omega), (dup_ok hT hF ht hv hv1 kd wh at_ fg rf hg (by omega) (by omega) hn).mono ?_, fun w1 h1 h2 => (rdup_ok h1 h2 hxr hv hz64 kd wh at_ fg rf hg (by omega) (by omega) hn).mono ?_⟩
          · rintro e w' ⟨rfl, a1, a2, a3⟩; exact ⟨rfl, a1, a2, a3⟩
          · rintro e w' ⟨rfl, a1, a2, a3⟩; exact ⟨rfl, a1, a2, a3⟩
theorem close_two (hT : TR wA t g D) (hF : FR wA g m L) (ht : ¬ FR.all g m L t) (hR : RF wA r L) (hxr : x ≠ r) (hRB : RB L B) (hB1 : 1 ≤ B) (hB2 : B ≤ 1152921504606846976) (f : Int) :
    ∃ (v0 v1 v2 v3 v4 er : Int) (bb : Bool) (D' : List Int) (L' : PL Fl), Two wA g m r t x D L B 11 32 f (.tuple #[.agg #[.int .i64 v0, .int .i64 v1, .int .i64 v2, .int .i64 v3, .int .i64 v4], .bool bb, .int .i64 er]) D' L' := by
  have no : (∀ w0, TR w0 t g D → Calls Try.prog 13 #[.pointer (some ⟨t, 0, none⟩), .int .i64 f] w0 fun e w' => e = .returned (.tuple #[.int .i64 0, .int .i64 220]) ∧ w0 = w') → (∀ w0, XR w0 x r D → Calls Try.prog 39 #[.pointer (some ⟨x, 0, none⟩), .int .i64 f] w0 fun e w' => e = .returned (.tuple #[.int .i64 0, .int .i64 220]) ∧ w0 = w') →
      Two wA g m r t x D L B 11 32 f (.tuple #[.agg #[.int .i64 0, .int .i64 0, .int .i64 0, .int .i64 0, .int .i64 0], .bool false, .int .i64 220]) D L := by
    intro a1 a2
    refine ⟨fun k q => q, hRB.mono (by omega), (close_get f (a1 _ (hT.alloc _))).mono ?_, fun w1 h1 h2 => (rclose_get f (a2 _ (h1.alloc _))).mono ?_⟩
    · rintro e w' ⟨rfl, hb⟩; exact ⟨rfl, hT.below hb, hF.below hb, Ch.of_below hb⟩
    · rintro e w' ⟨rfl, hb⟩; exact ⟨rfl, h1.below hb, h2.below hb, Ch.of_below hb⟩
  by_cases hr : f < 0 ∨ 16 ≤ f
  · exact ⟨0, 0, 0, 0, 0, 220, false, D, L, no (fun w0 h => tget_out h f hr) (fun w0 h => rtget_out h f hr)⟩
  · obtain ⟨i, rfl⟩ : ∃ i : Nat, f = (i : Int) := ⟨f.toNat, by omega⟩
    obtain ⟨v, hv⟩ : ∃ v, D[i]? = some v := ⟨_, List.getElem?_eq_getElem (by rw [hT.len]; omega)⟩
    by_cases hv1 : v = -1
    · subst hv1
      exact ⟨0, 0, 0, 0, 0, 220, false, D, L, no (fun w0 h => tget_free h i hv) (fun w0 h => rtget_free h i hv)⟩
    · cases hg : PL.get L v with
      | none =>
        refine ⟨0, 0, 0, 0, 0, 221, false, D.set i (-1), L, fun k q => q, hRB.mono (by omega), (close_no hT hF ht hv hv1 hg).mono ?_, fun w1 h1 h2 => (rclose_no h1 h2 hxr hv hv1 hg).mono ?_⟩
        · rintro e w' ⟨rfl, a1, a2, a3⟩; exact ⟨rfl, a1, a2, a3.mono fun k _ q => .inl q⟩
        · rintro e w' ⟨rfl, a1, a2, a3⟩; exact ⟨rfl, a1, a2, a3.mono fun k _ q => .inl q⟩
      | some q =>
        obtain ⟨b, kd, wh, at_, fg, rf⟩ := q
        obtain ⟨z, hz, hz64⟩ := hR.isIn hg
        subst hz
        have hrf := hRB _ _ hg
        simp only at hrf
        refine ⟨kd, wh, at_, fg, rf - 1, 0, (rf == 1), D.set i (-1), (if rf = 1 then PL.del L (z : Int) else PL.set L (z : Int) ⟨kd, wh, at_, fg, rf - 1⟩), fun k q => ?_, ?_, (close_yes hT hF ht hv hv1 kd wh at_ fg rf hg (by omega) (by omega)).mono ?_, fun w1 h1 h2 => (rclose_yes h1 h2 hxr hv hz64 kd wh at_ fg rf hg).mono ?_⟩
        · split at q
          · exact FR.all_del q
          · exact FR.all_set q
        · split
          · exact (hRB.mono (by omega)).del _
          · exact hRB.put hB1 (by simp only; omega)
        · rintro e w' ⟨rfl, a1, a2, a3⟩; exact ⟨rfl, a1, a2, a3⟩
        · rintro e w' ⟨rfl, a1, a2, a3⟩; exact ⟨rfl, a1, a2, a3⟩
/-- Both have done it; the world of the program's call has grown since, and so has the reference's. -/
theorem Two.done {w0 wr w1 w1' w2 w2' : World} {ob a c y cy : Nat} {ts : TS} {xs : List Nat} (h : W2 w0 wr ob g m a c r y cy ts xs L) {j : Nat} {D' : List Int} {L' : PL Fl} (hj : ts[j]? = some (t, D)) (hx : xs[j]? = some x)
    (hsub : ∀ k, FR.all g m L' k → FR.all g m L k)
    (hT : TR w1 t g D') (hF : FR w1 g m L') (hC : Ch (fun k => k = t ∨ PL.foot m L k) wr w1) (hb : Below w1.heap.size w1 w1')
    (hX : XR w2 x r D') (hR : RF w2 r L') (hC2 : Ch (fun k => k = x ∨ k = r) w1' w2) (hb2 : Below w2.heap.size w2 w2') : W2 w0 w2' ob g m a c r y cy (ts.set j (t, D')) xs L' :=
  (h.step hj hx (hT.below hb) (hF.below hb) (hC.then_below hb) (fun k q => .inl (hsub k q)) hX hR hC2).below hb2
end
end Go.Proofs.Ythbbiobffoihaaa
