import Derived.Test.YtliliimdkkaocaaRefLeave
import Derived.StillTailTactics
/- The reference: Take. -/
namespace Go.Proofs.Ytliliimdkkaocaa
open Go.RowKit
set_option linter.unusedVariables false
set_option linter.unusedSimpArgs false
attribute [local go_sem] szIs_lit row_at row_past row_alloc nf_alloc row_set nf_set row_cell nf_cell row_drew nf_drew row_drewN nf_drewN cell_setRow frozen_setRow nlt1 nlt2 nlt3 nlt4 nne1 nne2 nne3 nen1 nen2 nen3

theorem rtake_neg (base g c : Nat) (A : Option Addr) (size live : Int) (L : List Seat) (w : World) (h : GateA w base g A c size live L) (id n : Int) (hn : n < 0) : Calls Try.prog 30 #[.pointer (some ⟨g, 0, none⟩), .int .i64 id, .int .i64 n] w fun e w' => e = .returned (.int .i64 1) ∧ w = w' := by
  clear h
  go_enter Try.func30, Try.ntmps30
  go_wp2
  go_ret
  exact ⟨by simp, rfl⟩
theorem rtake_none (base g c : Nat) (A : Option Addr) (size live : Int) (L : List Seat) (w : World) (h : GateA w base g A c size live L) (id n : Int) (hn : ¬ n < 0) (hlen : L.length ≤ 64) (hf : findI L id < 0) : Calls Try.prog 30 #[.pointer (some ⟨g, 0, none⟩), .int .i64 id, .int .i64 n] w fun e w' => e = .returned (.int .i64 4) ∧ Below w.heap.size w w' := by
  have HI := Lib.hid (rfind_ok base g c A size live L w h id hlen)
  clear h
  go_enter Try.func30, Try.ntmps30
  go_wp2_with fail
  refine HI.out.mono ?_
  rintro e w1 ⟨rfl, hB⟩
  have HB := Lib.hid hB
  clear hB
  go_wp2
  go_ret
  exact ⟨by simp, HB.out⟩
set_option maxRecDepth 20000 in
set_option maxHeartbeats 2000000 in
theorem rtake_at (base g c : Nat) (A : Option Addr) (size live : Int) (L : List Seat) (w : World) (h : GateA w base g A c size live L) (hw : WF size live L) (hb : base ≤ w.heap.size) (id n : Int) (hn : ¬ n < 0) (i : Nat) (s : Seat) (hi : findI L id = i) (hs : L[i]? = some s) (k live2 : Int) (L2 : List Seat) (HP : Hid (k = (if s.w = true then 4 else if s.b < n then 90 else 0) ∧ live2 = (if s.w = true then live else if s.b < n then live else live + n) ∧ L2 = (if s.w = true then L else if s.b < n then L else L.set i { s with b := s.b - n, t := s.t + n }))) :
    Calls Try.prog 30 #[.pointer (some ⟨g, 0, none⟩), .int .i64 id, .int .i64 n] w fun e w' => ∃ A' c', e = .returned (.int .i64 k) ∧ GateA w' base g A' c' size live2 L2 ∧ FrG w w' g A A' := by
  have HI := Lib.hid (rfind_ok base g c A size live L w h id hw.len)
  rw [hi] at HI
  have HS := Lib.hid hs
  have hlt := (List.getElem?_eq_some_iff.1 hs).1
  have hlen := hw.len
  have hsb := hw.b s (List.mem_of_getElem? hs)
  obtain ⟨b1, b2, b3, b4⟩ := hsb
  have s2 := hw.s2
  have hfit := hw.fit
  have hl0 := hw.l0
  have hr0 := res_nonneg L (fun s hs => (hw.b s hs).1)
  have hlv : live ≤ size := by omega
  obtain ⟨gr, gn, gc, gf⟩ := h.blk.all
  have cs := (gc 0).trans (show _ = some (.int .i64 size) from rfl)
  have cl := (gc 1).trans (show _ = some (.int .i64 live) from rfl)
  have cq := (gc 2).trans (show _ = some (.slice A L.length c) from rfl)
  have HH := Lib.hid h
  have hbl := h.blk.lt
  have HB1 := Lib.hid h.blk
  have HAG := Lib.hid h.ag

  obtain ⟨b, hA, hbb, hblb, hfz, _⟩ := HH.out.seats.some_ (by omega)
  subst hA
  have hgb : g ≠ b := fun e => HAG.out (by rw [e]; rfl)
  clear gr gn gc gf h hi hs hfit hr0
  go_enter Try.func30, Try.ntmps30
  go_wp2_with fail
  refine HI.out.mono ?_
  rintro e w5 ⟨rfl, hB⟩
  have HB6 := Lib.hid hB
  have HG5 := Lib.hid (HH.out.below hB)
  obtain ⟨b', hA', _, _, hfz5, e0, e1, e2, e3⟩ := HG5.out.seats.at_ HS.out
  obtain rfl : b = b' := by injection hA' with hA'; injection hA'
  have g1 := (HG5.out.blk.all.2.2.1 1).trans (show _ = some (.int .i64 live) from rfl)
  have g2 := (HG5.out.blk.all.2.2.1 2).trans (show _ = some (.slice (some ⟨b, 0, none⟩) L.length c) from rfl)
  have gf1 := HG5.out.blk.all.2.2.2 1
  have z1 := hfz5 (i * 4 + 1)
  have z2 := hfz5 (i * 4 + 2)
  clear hA' hfz5 hfz hB
  cases hsw : s.w
  · rw [hsw] at e3
    have HSW := Lib.hid hsw
    clear hsw
    by_cases hle : s.b < n
    · have HL := Lib.hid hle
      go_wp2_with fail
      go_ret
      have hp := HP.out
      have hl : s.b < n := by have := HL.out; omega
      rw [HSW.out] at hp
      simp only [Bool.false_eq_true, if_false, if_pos hl] at hp
      obtain ⟨rfl, rfl, rfl⟩ := hp
      exact ⟨some ⟨b, 0, none⟩, c, by first | rfl | simp, HG5.out, FrG.of_below g _ HB6.out⟩
    · have HL := Lib.hid hle
      obtain ⟨q1, r1⟩ := HG5.out.drew.put (j := 1) (s' := { s with b := s.b - n }) (u := .int .i64 (s.b - n)) HS.out (by omega) rfl
      have HQ1 := Lib.hid (show GateA (w5.setCell ⟨b, i * 4 + 1, none⟩ (.int .i64 (s.b - n))).drew base g (some ⟨b, 0, none⟩) c size live (L.set i { s with b := s.b - n }) from q1)
      have HR1 := Lib.hid (show FrG w (w5.setCell ⟨b, i * 4 + 1, none⟩ (.int .i64 (s.b - n))).drew g (some ⟨b, 0, none⟩) (some ⟨b, 0, none⟩) from (FrG.of_below g (some ⟨b, 0, none⟩) (HB6.out.drew)).trans r1)
      clear q1 r1
      have hx1 : IntKind.i64.wrap (s.b - n) = s.b - n := IntWalk.i64_in _ (by omega)
      go_wp2_with fail
      go_still_tail 17, (by kernel_rfl)
      change wpList _ _ _ _ _ w5.drew
      go_wp2_with fail
      clear hx1
      generalize hW : World.drew _ = W at *
      clear hW g1 g2 gf1 z1 z2 e0 e1 e2 e3
      have hs1 : (L.set i { s with b := s.b - n })[i]? = some { s with b := s.b - n } := List.getElem?_set_self hlt
      obtain ⟨b', hA', _, _, hfz5, e0, e1, e2, e3⟩ := HQ1.out.seats.at_ hs1
      obtain rfl : b = b' := by injection hA' with hA'; injection hA'
      have g2 := (HQ1.out.blk.all.2.2.1 2).trans (show _ = some (.slice (some ⟨b, 0, none⟩) (L.set i { s with b := s.b - n }).length c) from rfl)
      rw [List.length_set] at g2
      replace e2 : W.cell? ⟨b, i * 4 + 2, none⟩ = some (.int .i64 s.t) := e2
      clear e0 e1 e3
      have z2 := hfz5 (i * 4 + 2)
      have g1 := (HQ1.out.blk.all.2.2.1 1).trans (show _ = some (.int .i64 live) from rfl)
      have gf1 := HQ1.out.blk.all.2.2.2 1
      have hgb1 : ¬ g = b := hgb
      have hgb2 : ¬ b = g := fun e => hgb e.symm
      obtain ⟨q2, r2⟩ := HQ1.out.drew.put (i := i) (j := 2) (s' := { s with b := s.b - n, t := s.t + n }) (u := .int .i64 (s.t + n)) hs1 (by omega) rfl
      rw [List.set_set] at q2
      have HQ2 := Lib.hid (show GateA (W.setCell ⟨b, i * 4 + 2, none⟩ (.int .i64 (s.t + n))).drew base g (some ⟨b, 0, none⟩) c size live (L.set i { s with b := s.b - n, t := s.t + n }) from q2)
      have HR2 := Lib.hid (show FrG w (W.setCell ⟨b, i * 4 + 2, none⟩ (.int .i64 (s.t + n))).drew g (some ⟨b, 0, none⟩) (some ⟨b, 0, none⟩) from HR1.out.trans r2.undrew)
      have hx2 : IntKind.i64.wrap (s.t + n) = s.t + n := IntWalk.i64_in _ (by omega)
      clear hA' hfz5 q2 r2 hs1
      go_still_tail 17, (by kernel_rfl)
      change wpList _ _ _ _ _ W.drew
      clear hx2
      obtain ⟨q3, r3⟩ := HQ2.out.live (live + n)
      have HQ3 := Lib.hid q3
      have HR3 := Lib.hid (HR2.out.trans r3)
      clear q3 r3
      go_wp2_with fail
      go_ret
      have hp := HP.out
      have hl : ¬ s.b < n := by have := HL.out; omega
      have hs0 : ¬ s.w = true := by have := HSW.out; rw [this]; decide
      rw [if_neg hs0, if_neg hl, if_neg hs0, if_neg hl, if_neg hs0, if_neg hl] at hp
      obtain ⟨rfl, rfl, rfl⟩ := hp
      first
        | exact ⟨some ⟨b, 0, none⟩, c, by first | rfl | simp, HQ3.out, HR3.out⟩
        | exact ⟨by first | rfl | simp, some ⟨b, 0, none⟩, ⟨c, HQ3.out⟩, HR3.out⟩
        | exact ⟨some ⟨b, 0, none⟩, c, by first | rfl | simp, HQ3.out.kept fun _ _ => rfl, ⟨HR3.out.os, HR3.out.tape, HR3.out.output, HR3.out.size, HR3.out.block, HR3.out.new⟩⟩
        | fail
  · rw [hsw] at e3
    have HSW := Lib.hid hsw
    clear hsw
    go_wp2_with fail
    go_ret
    have hp := HP.out
    rw [HSW.out] at hp
    simp only [if_true] at hp
    obtain ⟨rfl, rfl, rfl⟩ := hp
    exact ⟨some ⟨b, 0, none⟩, c, by first | rfl | simp, HG5.out, FrG.of_below g _ HB6.out⟩
end Go.Proofs.Ytliliimdkkaocaa
