import Derived.Test.YtliliimdkkaocaaApp
/- Enter. -/
namespace Go.Proofs.Ytliliimdkkaocaa
open Go.RowKit
set_option linter.unusedVariables false
set_option linter.unusedSimpArgs false
attribute [local go_sem] szIs_lit row_at row_past row_alloc nf_alloc row_set nf_set row_cell nf_cell row_drew nf_drew row_drewN nf_drewN cell_setRow frozen_setRow nlt1 nlt2 nlt3 nlt4 nne1 nne2 nne3 nen1 nen2 nen3

theorem enter_nil (id n : Int) (w : World) : Calls Try.prog 13 #[.pointer none, .int .i64 id, .int .i64 n] w fun e w' => e = .returned (.tuple #[.bool false, .int .i64 6]) ∧ w = w' := by
  go_enter Try.func13, Try.ntmps13
  go_wp2
  go_ret2
  exact ⟨by simp, rfl⟩
set_option maxHeartbeats 2000000 in
theorem enter_no (base g c : Nat) (A : Option Addr) (size live : Int) (L : List Seat) (w : World) (h : GateA w base g A c size live L) (id n k : Int) (hlen : L.length ≤ 64) (hk : ent size live L id n = (false, k, L)) (hc : n < 0 ∨ 0 ≤ findI L id ∨ size < n ∨ 64 ≤ L.length) : Calls Try.prog 13 #[.pointer (some ⟨g, 0, none⟩), .int .i64 id, .int .i64 n] w fun e w' => e = .returned (.tuple #[.bool false, .int .i64 k]) ∧ Below w.heap.size w w' := by
  have HF := Lib.hid (find_ok base g c A size live L w h id hlen)
  obtain ⟨gr, gn, gc, gf⟩ := h.blk.all
  have cs := (gc 0).trans (show _ = some (.int .i64 size) from rfl)
  have cq := (gc 2).trans (show _ = some (.slice A L.length c) from rfl)
  have HH := Lib.hid h
  have hbl := h.blk.lt
  clear gr gn gc gf h
  unfold ent at hk
  by_cases h1 : n < 0
  · rw [if_pos h1] at hk
    obtain rfl : 1 = k := by injection hk with _ hk; injection hk
    clear hk hc
    go_enter Try.func13, Try.ntmps13
    go_wp2
    go_ret2
    exact ⟨by simp, Below.refl _ _⟩
  · rw [if_neg h1] at hk
    by_cases h2 : 0 ≤ findI L id
    · rw [if_pos h2] at hk
      obtain rfl : 5 = k := by injection hk with _ hk; injection hk
      clear hk hc
      go_enter Try.func13, Try.ntmps13
      go_wp2_with fail
      refine HF.out.mono ?_
      rintro e w1 ⟨rfl, hB⟩
      have HB := Lib.hid hB
      clear hB
      go_wp2
      go_ret2
      exact ⟨by simp, HB.out⟩
    · rw [if_neg h2] at hk
      have h2' : findI L id < 0 := by omega
      by_cases h3 : size < n
      · rw [if_pos h3] at hk
        obtain rfl : 3 = k := by injection hk with _ hk; injection hk
        clear hk hc h2
        go_enter Try.func13, Try.ntmps13
        go_wp2_with fail
        refine HF.out.mono ?_
        rintro e w1 ⟨rfl, hB⟩
        have HB := Lib.hid hB
        have c0 := (hB.cell (p := ⟨g, 0, none⟩) hbl).trans cs
        clear hB
        go_wp2
        go_ret2
        exact ⟨by simp, HB.out⟩
      · rw [if_neg h3] at hk
        by_cases h4 : 64 ≤ L.length
        · rw [if_pos h4] at hk
          obtain rfl : 2 = k := by injection hk with _ hk; injection hk
          clear hk hc h2
          go_enter Try.func13, Try.ntmps13
          go_wp2_with fail
          refine HF.out.mono ?_
          rintro e w1 ⟨rfl, hB⟩
          have HB := Lib.hid hB
          have c0 := (hB.cell (p := ⟨g, 0, none⟩) hbl).trans cs
          have c2 := (hB.cell (p := ⟨g, 2, none⟩) hbl).trans cq
          clear hB
          go_wp2
          go_ret2
          exact ⟨by simp, HB.out⟩
        · omega
set_option maxHeartbeats 2000000 in
theorem enter_in (base g c : Nat) (A : Option Addr) (size live : Int) (L : List Seat) (w : World) (h : GateA w base g A c size live L) (hw : WF size live L) (hb : base ≤ w.heap.size) (id n : Int) (h1 : ¬ n < 0) (h2 : findI L id < 0) (h3 : ¬ size < n) (h4 : ¬ 64 ≤ L.length) : Calls Try.prog 13 #[.pointer (some ⟨g, 0, none⟩), .int .i64 id, .int .i64 n] w fun e w' => ∃ A' c', e = .returned (.tuple #[.bool (decide (0 < (admit size live (L ++ [⟨id, n, 0, true⟩])).2.length)), .int .i64 0]) ∧ GateA w' base g A' c' size live (admit size live (L ++ [⟨id, n, 0, true⟩])).1 ∧ FrG w w' g A A' := by
  have HF := Lib.hid (find_ok base g c A size live L w h id hw.len)
  have HW := Lib.hid (hw.add id n (by omega) (by omega) (by omega))
  obtain ⟨gr, gn, gc, gf⟩ := h.blk.all
  have cs := (gc 0).trans (show _ = some (.int .i64 size) from rfl)
  have cq := (gc 2).trans (show _ = some (.slice A L.length c) from rfl)
  have HH := Lib.hid h
  have hbl := h.blk.lt
  clear gr gn gc gf h hw
  go_enter Try.func13, Try.ntmps13
  go_wp2_with fail
  refine HF.out.mono ?_
  rintro e w1 ⟨rfl, hB⟩
  have HB := Lib.hid hB
  have c0 := (hB.cell (p := ⟨g, 0, none⟩) hbl).trans cs
  have c2 := (hB.cell (p := ⟨g, 2, none⟩) hbl).trans cq
  have HG := Lib.hid (HH.out.below hB)
  clear hB
  have hs1 := HB.out.size
  have hA1 : Below w1.heap.size w1 (w1.alloc (.cells (Seat.cs ⟨id, n, 0, true⟩).toArray 39)) := (Below.refl _ _).alloc (Nat.le_refl _) _
  obtain ⟨A2, c2', w2, hrun, hS2, hg2, hA2⟩ := app_seats (HG.out.below hA1).seats 36 ⟨w1.heap.size, 0, none⟩ [(⟨id, n, 0, true⟩ : Seat)] 1 (fun j u hu => by
    have e : (⟨w1.heap.size, 0, none⟩ : Addr).add j = ⟨w1.heap.size, j, none⟩ := by unfold Addr.add; split <;> simp_all
    have e2 : (flat [⟨id, n, 0, true⟩]) = Seat.cs ⟨id, n, 0, true⟩ := by simp [flat]
    rw [e, cell_of_row _ _ j _ _ _ (heap_alloc_new w1 _), ← hu, e2]
    exact (Array.getElem?_toList (xs := (Seat.cs ⟨id, n, 0, true⟩).toArray)).symm) (by simp; omega) (by simp; omega)
  have hrun2 : (Builtin.append_ #[36, 36] 36 #[.slice A L.length c, .slice (some ⟨w1.heap.size, 0, none⟩) 1 1]).run Try.prog (w1.alloc (.cells #[.int .i64 id, .int .i64 n, .int .i64 0, .bool true] 39)) = .ok (.slice A2 (L ++ [(⟨id, n, 0, true⟩ : Seat)]).length c2') w2 := hrun
  have HR := Lib.hid hrun2
  obtain ⟨hG3, hF3⟩ := (HG.out.below hA1).regate hg2 hS2 (hA2.imp (fun h => h) fun h => ⟨_, h, Nat.le_refl _⟩)
  have hl1 : (L ++ [(⟨id, n, 0, true⟩ : Seat)]).length = L.length + 1 := by simp
  rw [hl1] at hG3 hF3
  have HF3 := Lib.hid ((FrG.of_below g A (HB.out.trans (hA1.mono HB.out.size))).trans hF3)
  have HA := Lib.hid (admit_ok base g c2' A2 size live _ _ hG3 HW.out (by have := hF3.size; have := hA1.size; omega))
  have hb2 : w2.heap[g]? = (w1.alloc (.cells (Seat.cs ⟨id, n, 0, true⟩).toArray 39)).heap[g]? := hg2.block g ((HG.out.below hA1).blk.lt) (fun e => (HG.out.ag e.symm))
  have hB2 : Blk w2 g #[.int .i64 size, .int .i64 live, .slice A L.length c] := ⟨(row_heap hb2).trans (HG.out.below hA1).blk.1, (nf_heap hb2).trans (HG.out.below hA1).blk.2⟩
  obtain ⟨gr, gn, gc, gf⟩ := hB2.all
  have d2 := (gc 2).trans (show _ = some (.slice A L.length c) from rfl)
  have f2 := gf 2
  clear gr gn gc gf hB2 hb2 hG3 hF3 hrun hrun2 hS2 hg2 hA2 hA1
  go_wp2_with (at_builtin; go_must (refine wpList_app2 rfl (.tmp 37) (.tmp 41) 36 rfl (.slice A L.length c) (.slice (some ⟨w1.heap.size, 0, none⟩) 1 1) rfl rfl _ w2 HR.out ?_))
  refine HA.out.mono ?_
  rintro e w4 ⟨O, co, rfl, hO, hG4, hF4⟩
  have HG4 := Lib.hid hG4
  have HF4 := Lib.hid (HF3.out.trans hF4)
  clear hO hG4 hF4
  go_wp2
  go_ret2
  exact ⟨A2, c2', by simp, HG4.out, HF4.out⟩
/-- Enter, whatever comes. -/
theorem enter_ok (base g c : Nat) (A : Option Addr) (size live : Int) (L : List Seat) (w : World) (h : GateA w base g A c size live L) (hw : WF size live L) (hb : base ≤ w.heap.size) (id n : Int) : Calls Try.prog 13 #[.pointer (some ⟨g, 0, none⟩), .int .i64 id, .int .i64 n] w fun e w' => ∃ A' c', e = .returned (.tuple #[.bool (ent size live L id n).1, .int .i64 (ent size live L id n).2.1]) ∧ GateA w' base g A' c' size live (ent size live L id n).2.2 ∧ FrG w w' g A A' := by
  have no : ∀ k, ent size live L id n = (false, k, L) → (n < 0 ∨ 0 ≤ findI L id ∨ size < n ∨ 64 ≤ L.length) → Calls Try.prog 13 #[.pointer (some ⟨g, 0, none⟩), .int .i64 id, .int .i64 n] w fun e w' => ∃ A' c', e = .returned (.tuple #[.bool (ent size live L id n).1, .int .i64 (ent size live L id n).2.1]) ∧ GateA w' base g A' c' size live (ent size live L id n).2.2 ∧ FrG w w' g A A' := fun k hk hc =>
    (enter_no base g c A size live L w h id n k hw.len hk hc).mono fun e w' q => ⟨A, c, by rw [hk]; exact q.1, by rw [hk]; exact h.below q.2, FrG.of_below g A q.2⟩
  by_cases h1 : n < 0
  · exact no 1 (by unfold ent; rw [if_pos h1]) (.inl h1)
  · by_cases h2 : 0 ≤ findI L id
    · exact no 5 (by unfold ent; rw [if_neg h1, if_pos h2]) (.inr (.inl h2))
    · by_cases h3 : size < n
      · exact no 3 (by unfold ent; rw [if_neg h1, if_neg h2, if_pos h3]) (.inr (.inr (.inl h3)))
      · by_cases h4 : 64 ≤ L.length
        · exact no 2 (by unfold ent; rw [if_neg h1, if_neg h2, if_neg h3, if_pos h4]) (.inr (.inr (.inr h4)))
        · have hk : ent size live L id n = (decide (0 < (admit size live (L ++ [⟨id, n, 0, true⟩])).2.length), 0, (admit size live (L ++ [⟨id, n, 0, true⟩])).1) := by unfold ent; rw [if_neg h1, if_neg h2, if_neg h3, if_neg h4]
          rw [hk]
          exact enter_in base g c A size live L w h hw hb id n h1 (by omega) h3 h4
end Go.Proofs.Ytliliimdkkaocaa
