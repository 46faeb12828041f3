import Derived.Test.YtngjpokbjnjodaaClearsP
import Derived.OpenShut
import Derived.Deep.QuietTactic
import Derived.BigQuiet
import Derived.Deep.LoopGhost
import Derived.Deep.Cut
import Derived.Deep.CutRange
import Derived.Deep.DeepMust
import Derived.Shelf.RegionOpen
/- PtabClears: the walk. -/
namespace Go.Proofs.Ytngjpokbjnjodaa
open Go.RowKit Go.BigFrame
set_option linter.unusedVariables false
set_option linter.unusedSimpArgs false
attribute [local go_sem] szIs_lit row_at row_past row_alloc nf_alloc row_set nf_set row_cell nf_cell row_drew nf_drew row_drewN nf_drewN cell_setRow frozen_setRow nlt1 nlt2 nlt3 nlt4 nne1 nne2 nne3 nen1 nen2 nen3
attribute [local go_sem] by_get by_set
open Go.Shelf
attribute [local go_sem] Oper.semAt_some
set_option maxHeartbeats 8000000 in
set_option maxRecDepth 100000 in
theorem clears_walk (a : Option Addr) (len cap : Nat) (o : Nat → Int) (e : Int) (he : 0 ≤ e ∧ e ≤ 4294967295) (w : World) (hN : Nums .i64 w w.heap.size a len cap o) (hz : len * 8 ≤ reachBytes) : Calls Try.prog 5 #[.slice a len cap, .int .u32 e] w fun r w' => r = .returned (.bool true) ∧ Below w.heap.size w w' := by
  have hlen : len ≤ 70368744177664 := by unfold reachBytes at hz; omega
  have HA := Lib.hid hN
  have HEE := Lib.hid he
  clear hN hz he
  refine (callsIn_wide (n := 8)).1 ?_
  refine callsIn_of_wp_marks Try.func5 rfl trivial ?_
  simp only [Try.ntmps5, List.size_toArray, List.length_cons, List.length_nil, Nat.reduceAdd, Nat.reduceSub, Array.replicate_succ, Array.replicate_zero, List.push_toArray, List.append_toArray, List.nil_append, List.cons_append]
  refine wpIn_wide.2 ?_
  obtain ⟨w0, hw0⟩ : ∃ w0, w.alloc (.cells #[.bool false] 4) = w0 := ⟨_, rfl⟩
  have hB0 : Below w.heap.size w w0 := by rw [← hw0]; exact (Below.refl _ _).alloc (Nat.le_refl _) _
  have hC0 : Blk w0 w.heap.size #[.bool false] := by rw [← hw0]; exact Blk.of_heap (heap_at (by simp))
  have HB0 := Lib.hid hB0
  have HC0 := Lib.hid hC0
  clear hB0 hC0
  go_wp2_with (rw [hw0])
  refine (new_ok 12 (by omega) (by omega) w0).mono ?_
  rintro r w1 ⟨g, b, rfl, q1, q2, q3, q4, q5, q6⟩
  have hm : MP w1 g b 12 (fun _ => 0) := ⟨q1, q2, by omega, q5, bytes_zero 0⟩
  have HM1 := Lib.hid hm
  have HB1 := Lib.hid q6
  have HQ := Lib.hid (And.intro q4 q2.lt)
  clear q1 q2 q3 q4 q5 q6 hm hw0
  go_wp2_with fail
  refine (lives_ok w1).mono ?_
  rintro r w2 ⟨rfl, hb2⟩
  have HM2 := Lib.hid (HM1.out.below hb2)
  have HB2 := Lib.hid (HB1.out.trans (Below.mono hb2 HB1.out.size))
  have HS2 := Lib.hid hb2.size
  have hnt := newt_ok (HM1.out.below hb2) 0 (by omega)
  have HNT := Lib.hid (show Calls Try.prog 22 #[.pointer (some ⟨g, 0, none⟩), .int .i64 0] w2 _ from hnt)
  clear hb2 hnt HM1 HB1
  go_wp2_with fail
  refine HNT.out.mono ?_
  rintro r w3 ⟨t, rfl, q1, q2, q3, q4⟩
  have HT3 := Lib.hid (show TS w3 g b 12 t 0 (fun _ => none) (fun _ => 0) from ⟨⟨_, q1, TB.zero _ _ _⟩, q2, by have := HQ.out.2; have := HS2.out; omega, by omega⟩)
  have HB3 := Lib.hid (below_only HB2.out q4 HQ.out.1 HB2.out.size)
  have HQ3 := Lib.hid HQ.out.1
  clear q1 q2 q3 q4 HNT HM2 HB2 HS2 HQ
  go_wp2_with fail
  go_loopg [8, 9] len (fun k s_ i_ wr => ∃ (j sp : Nat) (L : Nat → Option Nat) (E : Nat → Int), i_ = .int .i64 (j : Int) ∧ s_ = .int .i64 (sp : Int) ∧ k = len - j ∧ j ≤ len ∧ CI len o sp L E ∧ TS wr g b 12 t 0 L E ∧ Below w0.heap.size w0 wr)
  case atStart => exact ⟨0, 1, fun _ => none, fun _ => 0, rfl, rfl, rfl, by omega, ⟨by simp [frL], (by intro k _ f h; cases h), (by intro p _ h; exact absurd rfl h)⟩, HT3.out, HB3.out⟩
  case round =>
    obtain ⟨j, sp, L, E, rfl, rfl, hk, hj, hci, hts, hb⟩ := hrel
    have HK := Lib.hid hk
    have HCI := Lib.hid hci
    have HT := Lib.hid hts
    have HB := Lib.hid hb
    have hsp5 : 1 ≤ sp ∧ sp ≤ 5 := by have := hci.cnt; have := frL_len L 4; omega
    obtain ⟨hsp1, hsp5⟩ := hsp5
    clear hk hci hts hb
    by_cases hlt : j < len
    · obtain ⟨ab, off, rfl, hab, hat⟩ := nums_plain HA.out (by omega)
      have d0 : wr.cell? ⟨ab, off + j, none⟩ = some (.int .i64 (o j)) := ((HB0.out.trans (Below.mono HB.out HB0.out.size)).cell (p := ⟨ab, off + j, none⟩) hab).trans (hat j hlt)
      have HS := Lib.hid (set_all HT.out (o j) e (sp : Int) HEE.out (fun s hs => ⟨by omega, fun k hk hl => by have := HCI.out.lt k hk s hl; omega⟩))
      have HST := Lib.hid (fun (u : Bool) (v : Int) (L' : Nat → Option Nat) (E' : Nat → Int) (h : SetR 12 (o j) e (sp : Int) L E u v L' E') => HCI.out.step hlt h)
      obtain ⟨y, hy⟩ : ∃ y, o j = y := ⟨_, rfl⟩
      rw [hy] at d0
      have HY := Lib.hid hy
      clear hat hab hy
      have hS := HS.out
      rw [HY.out] at hS
      have HS := Lib.hid hS
      clear hS
      go_wp2_with fail
      refine HS.out.mono ?_
      rintro r w4 ⟨u, v, L', E', rfl, hts, hg, hR⟩
      have hci := HST.out u v L' E' (by rw [HY.out]; exact hR)
      have HT4 := Lib.hid hts
      have HB4 := Lib.hid (below_only HB.out hg HQ3.out HB.out.size)
      clear hts hg hR HST HS
      cases u with
      | false =>
        have HC4 := Lib.hid hci
        clear hci
        go_wp2_with fail
        go_roundg (len - (j + 1))
        case measure => have := HK.out; omega
        case rel => exact ⟨j + 1, sp, L', E', by go_num, rfl, rfl, by omega, HC4.out, HT4.out, HB4.out⟩
      | true =>
        have HC4 := Lib.hid hci
        clear hci
        go_wp2_with fail
        go_roundg (len - (j + 1))
        case measure => have := HK.out; omega
        case rel => exact ⟨j + 1, sp + 1, L', E', by go_num, by go_num, rfl, by omega, HC4.out, HT4.out, HB4.out⟩
    · obtain rfl : j = len := by omega
      have HSP := Lib.hid HCI.out.cnt
      clear HT3 HB3
      go_wp2_with fail
      go_loopg [12] j (fun k i_ wr => ∃ (i : Nat) (L : Nat → Option Nat) (E : Nat → Int), i_ = .int .i64 (i : Int) ∧ k = j - i ∧ i ≤ j ∧ sp = 1 + (frL L 4).length ∧ (∀ p, p < 256 → E p ≠ 0 → ∃ x, i ≤ x ∧ x < j ∧ o x = (p : Int)) ∧ TS wr g b 12 t 0 L E ∧ Below w0.heap.size w0 wr)
      case atStart => exact ⟨0, L, E, rfl, rfl, by omega, HSP.out, fun p hp hne => by obtain ⟨x, h1, h2⟩ := HCI.out.en p hp hne; exact ⟨x, by omega, h1, h2⟩, HT.out, HB.out⟩
      case round =>
        clear HCI HT HB HSP HK
        obtain ⟨i, L, E, rfl, hk, hi, hsp, hE, hts, hb⟩ := hrel
        have HK := Lib.hid hk
        have HSP := Lib.hid hsp
        have HE := Lib.hid hE
        have HT := Lib.hid hts
        have HB := Lib.hid hb
        clear hk hsp hE hts hb
        by_cases hlt : i < j
        · obtain ⟨ab, off, rfl, hab, hat⟩ := nums_plain HA.out (by omega)
          have hd : ∀ u, Below w0.heap.size w0 u → u.cell? ⟨ab, off + i, none⟩ = some (.int .i64 (o i)) := fun u hu => ((HB0.out.trans (Below.mono hu HB0.out.size)).cell (p := ⟨ab, off + i, none⟩) hab).trans (hat i hlt)
          have hS := set_all HT.out (o i) 0 (-1) (by omega) (fun s hs => by omega)
          have HST := Lib.hid (fun (u : Bool) (v : Int) (L' : Nat → Option Nat) (E' : Nat → Int) (h : SetR 12 (o i) 0 (-1) L E u v L' E') => zero_step h HE.out HT.out.no)
          obtain ⟨y, hy⟩ : ∃ y, o i = y := ⟨_, rfl⟩
          rw [hy] at hd hS
          have HY := Lib.hid hy
          have HS := Lib.hid hS
          have HD := Lib.hid hd
          have d0 := hd wr HB.out
          clear hat hab hy hS hd
          go_wp2_with fail
          refine HS.out.mono ?_
          rintro r w4 ⟨u, v, L', E', rfl, hts, hg, hR⟩
          obtain ⟨hu, hv, hL, hE'⟩ := HST.out u v L' E' (by rw [HY.out]; exact hR)
          rw [HY.out] at hv
          have HT4 := Lib.hid hts
          have hB4 := below_only HB.out hg HQ3.out HB.out.size
          have d4 := HD.out w4 hB4
          have HB4 := Lib.hid hB4
          have HE4 := Lib.hid hE'
          have HSP4 := Lib.hid (show sp = 1 + (frL L' 4).length by rw [hL]; exact HSP.out)
          clear hts hg hR HST HS HD d0 hL hE' hB4
          subst hu
          rcases hv with rfl | ⟨rfl, hv⟩
          · go_wp2_with fail
            go_roundg (j - (i + 1))
            case measure => have := HK.out; omega
            case rel => exact ⟨i + 1, L', E', by go_num, rfl, by omega, HSP4.out, HE4.out, HT4.out, HB4.out⟩
          · by_cases h0 : y < 0
            · have k0 : decide (y ≥ 0) = false := by simp; omega
              clear hv
              go_wp2_with fail
              go_roundg (j - (i + 1))
              case measure => have := HK.out; omega
              case rel => exact ⟨i + 1, L', E', by go_num, rfl, by omega, HSP4.out, HE4.out, HT4.out, HB4.out⟩
            · have k0 : 0 ≤ y := by omega
              have k1 : decide (y < 256) = false := by simp; omega
              clear hv h0
              go_wp2_with fail
              go_roundg (j - (i + 1))
              case measure => have := HK.out; omega
              case rel => exact ⟨i + 1, L', E', by go_num, rfl, by omega, HSP4.out, HE4.out, HT4.out, HB4.out⟩
        · obtain rfl : i = j := by omega
          have HE0 := Lib.hid (show ∀ p, p < 256 → E p = 0 from fun p hp => by
            by_cases h : E p = 0
            · exact h
            · obtain ⟨x, h1, h2, _⟩ := HE.out p hp h; omega)
          clear HE HK
          go_wp2_with fail
          refine (all_ok t wr).mono ?_
          rintro r w5 ⟨⟨x, rfl, hx, hx2⟩, hb5⟩
          have HT5 := Lib.hid (HT.out.below hb5)
          have HB5 := Lib.hid (HB.out.trans (Below.mono hb5 HB.out.size))
          have HX := Lib.hid hx
          clear hx hx2 hb5
          go_wp2_with fail
          refine wp_range_none (gf := 48) (lb := #[.pointer (some ⟨x, 0, none⟩)]) rfl (enters_of Try.func48 (by kernel_rfl) rfl) (all_zero_stops _ x (Below w5.heap.size) w5 HT5.out HE0.out HX.out) (fun _ => rfl) ?done
          intro D W hD hB hK
          have HT6 := Lib.hid (HT5.out.below hB)
          have HB6 := Lib.hid (HB5.out.trans (Below.mono hB HB5.out.size))
          have HLV := Lib.hid (leaves_ok (HT5.out.below hB))
          have HK := Lib.hid hK
          have HD := Lib.hid (show w.heap.size < D by have := HC0.out.lt; have := HB5.out.size; omega)
          have HDW := Lib.hid (show D < W.heap.size from (Array.getElem?_eq_some_iff.1 hK).1)
          obtain ⟨m, hm⟩ : ∃ m, (frL L 4).length = m := ⟨_, rfl⟩
          have hspm := HSP.out
          rw [hm] at hspm
          have hLV := HLV.out
          rw [hm] at hLV
          have HLV := Lib.hid hLV
          have h5 : decide ((sp : Int) ≤ 5) = true := by simp; omega
          have heq : ((m : Int) == (sp : Int) - 1) = true := by
            have : (m : Int) = (sp : Int) - 1 := by omega
            simpa using this
          clear hK hB hD HT5 HB5 HX HE0 HT HB hLV hm hspm
          go_wp2_with fail
          refine HLV.out.mono ?_
          rintro r W2 ⟨⟨A, c, rfl, -, -⟩, hb7⟩
          have HB7 := Lib.hid (HB6.out.trans (Below.mono hb7 HB6.out.size))
          have hK2 : W2.heap[D]? = some (.deferred (some [])) := (hb7.block D HDW.out).trans HK.out
          obtain ⟨gr, gn, gc, gf⟩ := (HC0.out.below HB7.out HC0.out.lt).all
          have c0 : W2.cell? ⟨w.heap.size, 0, none⟩ = some (.bool false) := (gc 0).trans rfl
          have f0 : W2.frozen? ⟨w.heap.size, 0, none⟩ = false := gf 0
          have hK' := (KeepsOthers.setCell W2 ⟨w.heap.size, 0, none⟩ (.bool true)).same D _ hK2 rfl
          have hc5 := cell_kept (World.cell?_setCell_same' W2 ⟨w.heap.size, 0, none⟩ (.bool true) (by rw [c0]; rfl)) (grownBy_putObj' _ D (.deferred none)) (fun r e => by cases e; exact ⟨_, hK', rfl⟩)
          have HC5 := Lib.hid hc5
          have HK5 := Lib.hid hK'
          clear hK' hc5 hK2 gr gn gc gf hb7
          go_wp2
          refine ⟨by simp, .inl ⟨_, _, rfl, run_takeDeferred HK5.out, ?_⟩⟩
          have hc5 := HC5.out
          refine ⟨.bool true, ?_, rfl, ((HB0.out.trans (Below.mono HB7.out HB0.out.size)).setCell (p := ⟨w.heap.size, 0, none⟩) (Nat.le_refl _) _).trans (belowK_b (w := w) (Nat.le_refl _) _ D _ _ (by have := HD.out; omega) HK5.out rfl rfl)⟩
          simp [results, Try.f5, go_sem, hc5]
end Go.Proofs.Ytngjpokbjnjodaa
