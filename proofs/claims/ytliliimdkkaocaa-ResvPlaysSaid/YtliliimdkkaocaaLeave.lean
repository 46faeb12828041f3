import Derived.Test.YtliliimdkkaocaaEnter
/- Leave, Give. -/
namespace Go.Proofs.Ytliliimdkkaocaa
open Go.RowKit
set_option linter.unusedVariables false
set_option linter.unusedSimpArgs false
attribute [local go_sem] szIs_lit row_at row_past row_alloc nf_alloc row_set nf_set row_cell nf_cell row_drew nf_drew row_drewN nf_drewN cell_setRow frozen_setRow nlt1 nlt2 nlt3 nlt4 nne1 nne2 nne3 nen1 nen2 nen3

theorem leave_nil (id : Int) (w : World) : Calls Try.prog 16 #[.pointer none, .int .i64 id] w fun e w' => e = .returned (.tuple #[.slice none 0 0, .int .i64 6]) ∧ w = w' := by
  go_enter Try.func16, Try.ntmps16
  go_wp2
  go_ret2
  exact ⟨by simp, rfl⟩
theorem give_nil (n : Int) (w : World) : Calls Try.prog 19 #[.pointer none, .int .i64 n] w fun e w' => e = .returned (.tuple #[.slice none 0 0, .int .i64 6]) ∧ w = w' := by
  go_enter Try.func19, Try.ntmps19
  go_wp2
  go_ret2
  exact ⟨by simp, rfl⟩
theorem leave_no (base g c : Nat) (A : Option Addr) (size live : Int) (L : List Seat) (w : World) (h : GateA w base g A c size live L) (id : Int) (hlen : L.length ≤ 64) (hk : findI L id < 0) : Calls Try.prog 16 #[.pointer (some ⟨g, 0, none⟩), .int .i64 id] w fun e w' => e = .returned (.tuple #[.slice none 0 0, .int .i64 4]) ∧ Below w.heap.size w w' := by
  have HF := Lib.hid (find_ok base g c A size live L w h id hlen)
  have hbl := h.blk.lt
  clear h
  go_enter Try.func16, Try.ntmps16
  go_wp2_with fail
  refine HF.out.mono ?_
  rintro e w1 ⟨rfl, hB⟩
  have HB := Lib.hid hB
  clear hB
  go_wp2
  go_ret2
  exact ⟨by simp, HB.out⟩
set_option maxHeartbeats 2000000 in
theorem leave_in (base g c : Nat) (A : Option Addr) (size live : Int) (L : List Seat) (w : World) (h : GateA w base g A c size live L) (hw : WF size live L) (hb : base ≤ w.heap.size) (id : Int) (i : Nat) (hi : findI L id = i) : Calls Try.prog 16 #[.pointer (some ⟨g, 0, none⟩), .int .i64 id] w fun e w' => ∃ A' c' O co, e = .returned (.tuple #[.slice O (admit size live (L.eraseIdx i)).2.length co, .int .i64 0]) ∧ Own w' w.heap.size 3 O (admit size live (L.eraseIdx i)).2.length co (fun j => .int .i64 ((admit size live (L.eraseIdx i)).2.getD j 0)) ∧ GateA w' base g A' c' size live (admit size live (L.eraseIdx i)).1 ∧ FrG w w' g A A' := by
  have HF := Lib.hid (find_ok base g c A size live L w h id hw.len)
  rw [hi] at HF
  have hir := (findI_range L id).2
  rw [hi] at hir
  have HW := Lib.hid (hw.erase i)
  have h64 := hw.len
  obtain ⟨gr, gn, gc, gf⟩ := h.blk.all
  have cs := (gc 0).trans (show _ = some (.int .i64 size) from rfl)
  have cl := (gc 1).trans (show _ = some (.int .i64 live) from rfl)
  have cq := (gc 2).trans (show _ = some (.slice A L.length c) from rfl)
  have HH := Lib.hid h
  have hbl := h.blk.lt
  have HB1 := Lib.hid h.blk
  have HAG := Lib.hid h.ag

  clear gr gn gc gf h hw hi
  go_enter Try.func16, Try.ntmps16
  go_wp2_with fail
  refine HF.out.mono ?_
  rintro e w1 ⟨rfl, hB⟩
  have HB := Lib.hid hB
  have HG := Lib.hid (HH.out.below hB)
  have c2 := (hB.cell (p := ⟨g, 2, none⟩) hbl).trans cq
  have hsz := hB.size
  obtain ⟨b, hA, hbb, hblb, _⟩ := HG.out.seats.some_ (by omega)
  subst hA
  obtain ⟨m, hN⟩ : ∃ m, L.length = i + 1 + m := ⟨L.length - (i + 1), by omega⟩
  have HD := Lib.hid (delete_ok base b c L w1 i m HG.out.seats hN h64)
  have hgb : g ≠ b := fun e => HAG.out (by rw [e]; rfl)
  clear hB hN
  go_wp2_with fail
  refine HD.out.mono ?_
  rintro e w2 ⟨rfl, hS2, hg2⟩
  obtain ⟨hG3, hF3⟩ := HG.out.regate hg2 hS2 (.inl rfl)
  have HF3 := Lib.hid ((FrG.of_below g (some ⟨b, 0, none⟩) HB.out).trans hF3)
  have HA := Lib.hid (admit_ok base g c (some ⟨b, 0, none⟩) size live _ _ hG3 HW.out (by have := hF3.size; omega))
  have hb2 : w2.heap[g]? = w1.heap[g]? := hg2.block g HG.out.blk.lt (fun e => (HG.out.ag e.symm))
  have hB2 : Blk w2 g #[.int .i64 size, .int .i64 live, .slice (some ⟨b, 0, none⟩) L.length c] := ⟨(row_heap hb2).trans HG.out.blk.1, (nf_heap hb2).trans HG.out.blk.2⟩
  obtain ⟨gr, gn, gc, gf⟩ := hB2.all
  have d2 := (gc 2).trans (show _ = some (.slice (some ⟨b, 0, none⟩) L.length c) from rfl)
  have f2 := gf 2
  have HZ := Lib.hid hF3.size
  clear gr gn gc gf hB2 hb2 hG3 hF3 hS2 hg2
  go_wp2_with fail
  refine HA.out.mono ?_
  rintro e w4 ⟨O, co, rfl, hO, hG4, hF4⟩
  have HO := Lib.hid hO
  have HG4 := Lib.hid hG4
  have HF4 := Lib.hid (HF3.out.trans hF4)
  clear hO hG4 hF4
  go_wp2
  go_ret2
  refine ⟨some ⟨b, 0, none⟩, c, O, co, by simp, ?_, HG4.out, HF4.out⟩
  have := HZ.out
  exact HO.out.lower (by omega)
theorem give_no (base g c : Nat) (A : Option Addr) (size live : Int) (L : List Seat) (w : World) (h : GateA w base g A c size live L) (n : Int) (hk : n < 0 ∨ live < n) : Calls Try.prog 19 #[.pointer (some ⟨g, 0, none⟩), .int .i64 n] w fun e w' => e = .returned (.tuple #[.slice none 0 0, .int .i64 1]) ∧ w = w' := by
  obtain ⟨gr, gn, gc, gf⟩ := h.blk.all
  have cs := (gc 0).trans (show _ = some (.int .i64 size) from rfl)
  have cl := (gc 1).trans (show _ = some (.int .i64 live) from rfl)
  have cq := (gc 2).trans (show _ = some (.slice A L.length c) from rfl)
  have HH := Lib.hid h
  have hbl := h.blk.lt
  have HB1 := Lib.hid h.blk
  have HAG := Lib.hid h.ag

  clear gr gn gc gf h
  by_cases h1 : n < 0
  · clear hk
    go_enter Try.func19, Try.ntmps19
    go_wp2
    go_ret2
    exact ⟨by simp, rfl⟩
  · have h2 : live < n := by omega
    clear hk
    go_enter Try.func19, Try.ntmps19
    go_wp2
    go_ret2
    exact ⟨by simp, rfl⟩
set_option maxHeartbeats 2000000 in
theorem give_in (base g c : Nat) (A : Option Addr) (size live : Int) (L : List Seat) (w : World) (h : GateA w base g A c size live L) (hw : WF size live L) (hb : base ≤ w.heap.size) (n : Int) (h1 : ¬ n < 0) (h2 : ¬ live < n) : Calls Try.prog 19 #[.pointer (some ⟨g, 0, none⟩), .int .i64 n] w fun e w' => ∃ O co, e = .returned (.tuple #[.slice O (admit size (live - n) L).2.length co, .int .i64 0]) ∧ Own w' w.heap.size 3 O (admit size (live - n) L).2.length co (fun j => .int .i64 ((admit size (live - n) L).2.getD j 0)) ∧ GateA w' base g A c size (live - n) (admit size (live - n) L).1 ∧ FrG w w' g A A := by
  have HW := Lib.hid (hw.give n (by omega) (by omega))
  have h3 := hw.s2
  have h4 := hw.fit
  have h5 := res_nonneg L (fun s hs => (hw.b s hs).1)
  obtain ⟨gr, gn, gc, gf⟩ := h.blk.all
  have cs := (gc 0).trans (show _ = some (.int .i64 size) from rfl)
  have cl := (gc 1).trans (show _ = some (.int .i64 live) from rfl)
  have cq := (gc 2).trans (show _ = some (.slice A L.length c) from rfl)
  have HH := Lib.hid h
  have hbl := h.blk.lt
  have HB1 := Lib.hid h.blk
  have HAG := Lib.hid h.ag

  have f1 := gf 1
  have hlt : live ≤ 1073741824 := by omega
  obtain ⟨hG3, hF3⟩ := h.live (live - n)
  have HF3 := Lib.hid hF3
  have HA := Lib.hid (admit_ok base g c A size (live - n) _ _ hG3 HW.out (by have := hF3.size; omega))
  clear gr gn gc gf h hw hG3 hF3 h3 h4 h5
  go_enter Try.func19, Try.ntmps19
  go_wp2_with fail
  refine HA.out.mono ?_
  rintro e w4 ⟨O, co, rfl, hO, hG4, hF4⟩
  have HO := Lib.hid hO
  have HG4 := Lib.hid hG4
  have HF4 := Lib.hid (HF3.out.trans hF4)
  clear hO hG4 hF4
  go_wp2
  go_ret2
  refine ⟨O, co, by simp, ?_, HG4.out, HF4.out⟩
  have := HF3.out.size
  exact HO.out.lower this
/-- Leave, whatever comes. -/
theorem leave_ok (base g c : Nat) (A : Option Addr) (size live : Int) (L : List Seat) (w : World) (h : GateA w base g A c size live L) (hw : WF size live L) (hb : base ≤ w.heap.size) (id : Int) : Calls Try.prog 16 #[.pointer (some ⟨g, 0, none⟩), .int .i64 id] w fun e w' => ∃ A' c' O co, e = .returned (.tuple #[.slice O (lea size live L id).1.length co, .int .i64 (lea size live L id).2.1]) ∧ Own w' w.heap.size 3 O (lea size live L id).1.length co (fun j => .int .i64 ((lea size live L id).1.getD j 0)) ∧ GateA w' base g A' c' size live (lea size live L id).2.2 ∧ FrG w w' g A A' := by
  unfold lea
  by_cases h1 : findI L id < 0
  · rw [if_pos h1]
    exact (leave_no base g c A size live L w h id hw.len h1).mono fun e w' q => ⟨A, c, none, 0, q.1, Own.nil _ _ _ _, h.below q.2, FrG.of_below g A q.2⟩
  · rw [if_neg h1]
    exact leave_in base g c A size live L w h hw hb id (findI L id).toNat (by omega)
/-- Give, whatever comes. -/
theorem give_ok (base g c : Nat) (A : Option Addr) (size live : Int) (L : List Seat) (w : World) (h : GateA w base g A c size live L) (hw : WF size live L) (hb : base ≤ w.heap.size) (n : Int) : Calls Try.prog 19 #[.pointer (some ⟨g, 0, none⟩), .int .i64 n] w fun e w' => ∃ O co, e = .returned (.tuple #[.slice O (giv size live L n).1.length co, .int .i64 (giv size live L n).2.1]) ∧ Own w' w.heap.size 3 O (giv size live L n).1.length co (fun j => .int .i64 ((giv size live L n).1.getD j 0)) ∧ GateA w' base g A c size (giv size live L n).2.2.1 (giv size live L n).2.2.2 ∧ FrG w w' g A A := by
  unfold giv
  by_cases h1 : n < 0 ∨ live < n
  · rw [if_pos h1]
    exact (give_no base g c A size live L w h n h1).mono fun e w' q => ⟨none, 0, q.1, Own.nil _ _ _ _, by rw [← q.2]; exact h, by rw [← q.2]; exact FrG.refl _ _ _⟩
  · rw [if_neg h1]
    exact give_in base g c A size live L w h hw hb n (by omega) (by omega)
end Go.Proofs.Ytliliimdkkaocaa
