import Derived.Test.YtliliimdkkaocaaLeave
/- Take; Heap; Seats. -/
namespace Go.Proofs.Ytliliimdkkaocaa
open Go.RowKit
set_option linter.unusedVariables false
set_option linter.unusedSimpArgs false
attribute [local go_sem] szIs_lit row_at row_past row_alloc nf_alloc row_set nf_set row_cell nf_cell row_drew nf_drew row_drewN nf_drewN cell_setRow frozen_setRow nlt1 nlt2 nlt3 nlt4 nne1 nne2 nne3 nen1 nen2 nen3

theorem take_nil (id n : Int) (w : World) : Calls Try.prog 18 #[.pointer none, .int .i64 id, .int .i64 n] w fun e w' => e = .returned (.int .i64 6) ∧ w = w' := by
  go_enter Try.func18, Try.ntmps18
  go_wp2
  go_ret
  exact ⟨by simp, rfl⟩
theorem take_neg (base g c : Nat) (A : Option Addr) (size live : Int) (L : List Seat) (w : World) (h : GateA w base g A c size live L) (id n : Int) (hn : n < 0) : Calls Try.prog 18 #[.pointer (some ⟨g, 0, none⟩), .int .i64 id, .int .i64 n] w fun e w' => e = .returned (.int .i64 1) ∧ w = w' := by
  clear h
  go_enter Try.func18, Try.ntmps18
  go_wp2
  go_ret
  exact ⟨by simp, rfl⟩
theorem take_out (base g c : Nat) (A : Option Addr) (size live : Int) (L : List Seat) (w : World) (h : GateA w base g A c size live L) (id n : Int) (hn : ¬ n < 0) (HI : Hid (Calls Try.prog 23 #[.pointer (some ⟨g, 0, none⟩), .int .i64 id] w fun e w' => e = .returned (.bool false) ∧ Below w.heap.size w w')) : Calls Try.prog 18 #[.pointer (some ⟨g, 0, none⟩), .int .i64 id, .int .i64 n] w fun e w' => e = .returned (.int .i64 4) ∧ Below w.heap.size w w' := by
  clear h
  go_enter Try.func18, Try.ntmps18
  go_wp2_with fail
  refine HI.out.mono ?_
  rintro e w1 ⟨rfl, hB⟩
  have HB := Lib.hid hB
  clear hB
  go_wp2
  go_ret
  exact ⟨by simp, HB.out⟩
set_option maxHeartbeats 2000000 in
theorem take_in (base g c : Nat) (A : Option Addr) (size live : Int) (L : List Seat) (w : World) (h : GateA w base g A c size live L) (hw : WF size live L) (hb : base ≤ w.heap.size) (id n : Int) (hn : ¬ n < 0) (i : Nat) (s : Seat) (hi : findI L id = i) (hs : L[i]? = some s) (hsw : s.w = false) (k live2 : Int) (L2 : List Seat) (HP : Hid (k = (if s.b < n then 90 else 0) ∧ live2 = (if s.b < n then live else live + n) ∧ L2 = (if s.b < n then L else L.set i { s with b := s.b - n, t := s.t + n }))) :
    Calls Try.prog 18 #[.pointer (some ⟨g, 0, none⟩), .int .i64 id, .int .i64 n] w fun e w' => ∃ A' c', e = .returned (.int .i64 k) ∧ GateA w' base g A' c' size live2 L2 ∧ FrG w w' g A A' := by
  have HI := Lib.hid (inside_at base g c A size live L w h id hw.len i s hi hs)
  rw [hsw] at HI
  have HSW := Lib.hid hsw
  have HS := Lib.hid hs
  have HIX := Lib.hid hi
  have hlt := (List.getElem?_eq_some_iff.1 hs).1
  have hlen := hw.len
  have hsb := hw.b s (List.mem_of_getElem? hs)
  obtain ⟨b1, b2, b3, b4⟩ := hsb
  have s2 := hw.s2
  have hfit := hw.fit
  have hl0 := hw.l0
  have hrs := res_take L i s hs
  have hr1 := res_take_le L (i + 1) (fun s hs => (hw.b s hs).1)
  have hr2 := res_take_le L i (fun s hs => (hw.b s hs).1)
  rw [hsw, if_neg (by decide)] at hrs
  have hsum : live + s.b ≤ size := by omega
  obtain ⟨gr, gn, gc, gf⟩ := h.blk.all
  have cs := (gc 0).trans (show _ = some (.int .i64 size) from rfl)
  have cl := (gc 1).trans (show _ = some (.int .i64 live) from rfl)
  have cq := (gc 2).trans (show _ = some (.slice A L.length c) from rfl)
  have HH := Lib.hid h
  have hbl := h.blk.lt
  have HB1 := Lib.hid h.blk
  have HAG := Lib.hid h.ag

  obtain ⟨b, hA, hbb, hblb, hfz, _⟩ := HH.out.seats.some_ (by omega)
  subst hA
  have hgb : g ≠ b := fun e => HAG.out (by rw [e]; rfl)
  clear gr gn gc gf h hi hs hsw hrs hr1 hr2 hfit
  go_enter Try.func18, Try.ntmps18
  go_wp2_with fail
  refine HI.out.mono ?_
  rintro e w1 ⟨rfl, hB⟩
  have HB := Lib.hid hB
  have HG := Lib.hid (HH.out.below hB)
  have d0 := (hB.cell (p := ⟨g, 1, none⟩) hbl).trans cl
  have d2 := (hB.cell (p := ⟨g, 2, none⟩) hbl).trans cq
  have hz1 := hB.size
  clear hB
  go_wp2_with fail
  (try go_step3)
  go_region_held3 (fun w' => w'.cell? ⟨g, 2, none⟩ = some (.slice (some ⟨b, 0, none⟩) L.length c)) (go_keep)
    ((go_at_call 24; go_must (refine (find_ok base g c (some ⟨b, 0, none⟩) size live L _ ?_ id hlen).mono ?_; (focus (exact HG.out.drew)); rw [HIX.out]; rintro e w5 ⟨rfl, hB⟩; have HB5 := Lib.hid hB; have c2 := (hB.cell (p := ⟨g, 2, none⟩) HG.out.blk.lt).trans d2; clear hB)))
  have hB5 : Below w1.heap.size w1 w5 := ⟨HB5.out.os, HB5.out.tape, HB5.out.output, HB5.out.size, HB5.out.block⟩
  have HG5 := Lib.hid (HG.out.below hB5)
  have HB6 := Lib.hid (HB.out.trans (hB5.mono hz1))
  obtain ⟨b', hA', _, _, hfz5, e0, e1, e2, e3⟩ := HG5.out.seats.at_ HS.out
  obtain rfl : b = b' := by injection hA' with hA'; injection hA'
  have g1 := (HG5.out.blk.all.2.2.1 1).trans (show _ = some (.int .i64 live) from rfl)
  have gf1 := HG5.out.blk.all.2.2.2 1
  have z1 := hfz5 (i * 4 + 1)
  have z2 := hfz5 (i * 4 + 2)
  clear hA' hfz5 hfz hB5
  by_cases hle : s.b < n
  · have HL := Lib.hid hle
    go_wp2_with fail
    go_ret
    have hp := HP.out
    have hl : s.b < n := by have := HL.out; omega
    rw [if_pos hl, if_pos hl, if_pos hl] at hp
    obtain ⟨rfl, rfl, rfl⟩ := hp
    exact ⟨some ⟨b, 0, none⟩, c, by first | rfl | simp, HG5.out, FrG.of_below g _ HB6.out⟩
  · have HL := Lib.hid hle
    obtain ⟨q1, r1⟩ := HG5.out.put (j := 1) (s' := { s with b := s.b - n }) (u := .int .i64 (s.b - n)) HS.out (by omega) rfl
    obtain ⟨q2, r2⟩ := q1.put (i := i) (j := 2) (s := { s with b := s.b - n }) (s' := { s with b := s.b - n, t := s.t + n }) (u := .int .i64 (s.t + n)) (by rw [List.getElem?_set_self hlt]) (by omega) rfl
    obtain ⟨q3, r3⟩ := q2.live (live + n)
    rw [List.set_set] at q3
    have HQ := Lib.hid q3
    have HR := Lib.hid (((FrG.of_below g _ HB6.out).trans r1).trans (r2.trans r3))
    clear q1 r1 q2 r2 q3 r3
    go_wp2_with fail
    go_ret
    have hp := HP.out
    have hl : ¬ s.b < n := by have := HL.out; omega
    rw [if_neg hl, if_neg hl, if_neg hl] at hp
    obtain ⟨rfl, rfl, rfl⟩ := hp
    exact ⟨by first | rfl | simp, some ⟨b, 0, none⟩, ⟨c, HQ.out⟩, HR.out⟩
/-- Take, whatever comes. -/
theorem take_ok (base g c : Nat) (A : Option Addr) (size live : Int) (L : List Seat) (w : World) (h : GateA w base g A c size live L) (hw : WF size live L) (hb : base ≤ w.heap.size) (id n : Int) : Calls Try.prog 18 #[.pointer (some ⟨g, 0, none⟩), .int .i64 id, .int .i64 n] w fun e w' => ∃ A' c', e = .returned (.int .i64 (tak live L id n).1) ∧ GateA w' base g A' c' size (tak live L id n).2.1 (tak live L id n).2.2 ∧ FrG w w' g A A' := by
  by_cases h1 : n < 0
  · have hk : tak live L id n = (1, live, L) := by unfold tak; rw [if_pos h1]
    rw [hk]
    exact (take_neg base g c A size live L w h id n h1).mono fun e w' q => ⟨A, c, q.1, by rw [← q.2]; exact h, by rw [← q.2]; exact FrG.refl _ _ _⟩
  · by_cases h2 : findI L id < 0
    · have hk : tak live L id n = (4, live, L) := by unfold tak; rw [if_neg h1, if_pos h2]
      rw [hk]
      exact (take_out base g c A size live L w h id n h1 (Lib.hid (inside_no base g c A size live L w h id hw.len h2))).mono fun e w' q => ⟨A, c, q.1, h.below q.2, FrG.of_below g A q.2⟩
    · obtain ⟨i, hi⟩ : ∃ i : Nat, findI L id = i := ⟨(findI L id).toNat, by omega⟩
      obtain ⟨s, hs, _⟩ := findI_some L id i hi
      have hit : (findI L id).toNat = i := by omega
      rcases Bool.eq_false_or_eq_true s.w with hsw | hsw
      · have hk : tak live L id n = (4, live, L) := by unfold tak; rw [if_neg h1, if_neg h2, hit, hs]; simp [hsw]
        rw [hk]
        have hI := inside_at base g c A size live L w h id hw.len i s hi hs
        rw [hsw] at hI
        exact (take_out base g c A size live L w h id n h1 (Lib.hid hI)).mono fun e w' q => ⟨A, c, q.1, h.below q.2, FrG.of_below g A q.2⟩
      · have hT := take_in base g c A size live L w h hw hb id n h1 i s hi hs hsw _ _ _ (Lib.hid ⟨rfl, rfl, rfl⟩)
        by_cases h3 : s.b < n
        · have hk : tak live L id n = (90, live, L) := by unfold tak; rw [if_neg h1, if_neg h2, hit, hs]; simp [hsw, h3]
          rw [hk]
          rw [if_pos h3, if_pos h3, if_pos h3] at hT
          exact hT
        · have hk : tak live L id n = (0, live + n, L.set i { s with b := s.b - n, t := s.t + n }) := by unfold tak; rw [if_neg h1, if_neg h2, hit, hs]; simp [hsw]; omega
          rw [hk]
          rw [if_neg h3, if_neg h3, if_neg h3] at hT
          exact hT
end Go.Proofs.Ytliliimdkkaocaa
