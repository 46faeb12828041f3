import Derived.Test.YtphikmdgdbdaiaaOnceI
/- RunqOnce: a thread stands in one place at most, and nobody is lost: the walk returns true for every input. -/
namespace Go.Proofs.Ytphikmdgdbdaiaa
open Go.RowKit Go.BigFrame
set_option linter.unusedVariables false
set_option linter.unusedSimpArgs false
attribute [local go_sem] szIs_lit row_at row_past row_alloc nf_alloc row_set nf_set row_cell nf_cell row_drew nf_drew row_drewN nf_drewN cell_setRow frozen_setRow nlt1 nlt2 nlt3 nlt4 nne1 nne2 nne3 nen1 nen2 nen3
set_option maxRecDepth 100000 in
set_option maxHeartbeats 64000000 in
theorem once_ok (H : Nat) (a : Option Addr) (len cap : Nat) (o : Nat → OpV) (w : World) (h : AreOp w w.heap.size a len cap o) (n1 : 1 ≤ H) (n2 : H ≤ 8) : Calls Try.prog 6 #[.int .i64 (H : Int), .slice a len cap] w fun e w' => e = .returned (.bool true) ∧ Below w.heap.size w w' := by
  have hlen := h.2.2.1
  have hlr : len ≤ 9223372036854775806 := by unfold reachBytes at hlen; omega
  have HH := Lib.hid h
  clear h hlen
  go_enter Try.func6, Try.ntmps6
  go_wp2_with fail
  refine (newI H w n1 n2).mono ?_
  rintro e w1 ⟨g, rfl, hI⟩
  have HI1 := Lib.hid hI
  clear hI
  go_wp2_with fail
  refine (livesI HI1.out).mono ?_
  rintro e w2 ⟨rfl, hI⟩
  obtain ⟨m1, m2⟩ := make_one (P := Try.prog) intT rfl 65 (by omega) (by omega) w2
  have hmk : (Instr.makeSlice 31 (.int .i64 65) (.int .i64 65)).run Try.prog w2 = .ok (.slice (some ⟨w2.heap.size, 0, none⟩) 65 65) (w2.alloc (.cells (madeCells #[.int .i64 0] 65) 3)) := m1
  have HO := Lib.hid (show OI w (w2.alloc (.cells (madeCells #[.int .i64 0] 65) 3)) g w2.heap.size H (S0 H) from ⟨hI.aside _, rfl, (fun x hx => by cases hx), by
    rw [th_start]
    exact m2, hI.bl.size⟩)
  clear hI m1 m2
  generalize hW : w2.alloc (.cells (madeCells #[.int .i64 0] 65) 3) = w4 at *
  generalize hrb : w2.heap.size = rb at *
  go_wp2_with fail
  clear hW hmk
  go_loopg [8, 9, 10, 11, 12, 13, 14] len (fun gk i_ p9 p10 p11 p12 p13 p14 wr => ∃ (j : Nat) (S : QS), i_ = .int .i64 (j : Int) ∧ gk = len - j ∧ j ≤ len ∧ OI w wr g rb H S)
  case atStart => exact ⟨0, S0 H, rfl, rfl, by omega, HO.out⟩
  case round =>
    obtain ⟨j, S, rfl, hgk, hj, hO⟩ := hrel
    have HK := Lib.hid hgk
    have HO := Lib.hid hO
    clear hgk hO
    by_cases hlt : j < len
    · obtain ⟨b, off, ha, hbB, c0, c1, c2⟩ := (HH.out.below HO.out.bl).at_ j hlt
      subst ha
      generalize hx : (o j).x0 = x at *
      generalize hy : (o j).x1 = y at *
      generalize hz : (o j).x2 = z at *
      have HX := Lib.hid (And.intro hx (And.intro hy hz))
      clear hx hy hz
      have HOA := Lib.hid (HO.out.alloc (.cells #[.int .i64 x, .int .i64 y, .int .i64 z] 36))
      have e0 : (wr.alloc (.cells #[.int .i64 x, .int .i64 y, .int .i64 z] 36)).cell? ⟨wr.heap.size, 0, none⟩ = some (.int .i64 x) := by simp [go_sem]
      have e1 : (wr.alloc (.cells #[.int .i64 x, .int .i64 y, .int .i64 z] 36)).cell? ⟨wr.heap.size, 1, none⟩ = some (.int .i64 y) := by simp [go_sem]
      have e2 : (wr.alloc (.cells #[.int .i64 x, .int .i64 y, .int .i64 z] 36)).cell? ⟨wr.heap.size, 2, none⟩ = some (.int .i64 z) := by simp [go_sem]
      generalize hWA : wr.alloc (.cells #[.int .i64 x, .int .i64 y, .int .i64 z] 36) = wa at *
      have hz1 : -64 < z.tmod 64 ∧ z.tmod 64 < 64 := by
        have := Int.tmod_lt_of_pos z (show (0 : Int) < 64 by omega)
        have h2 := Int.lt_tmod_of_pos z (show (0 : Int) < 64 by omega)
        omega
      generalize hZ : z.tmod 64 = zz at *
      have HZ0 : (z.tmod 64) = zz := hZ
      clear hZ
      go_upto_if 55 with (fail)
      go_cut [10] from 41 to 151 (fun t_ wx => ∃ tt : Nat, t_ = .int .i64 (tt : Int) ∧ tt < 64 ∧ wa = wx)
      case first =>
        by_cases hneg : zz < 0
        · obtain ⟨tt, htz⟩ : ∃ tt : Nat, zz + 64 = (tt : Int) := ⟨(zz + 64).toNat, by omega⟩
          go_wp2_with fail
          go_meet
          exact ⟨tt, rfl, by omega, rfl⟩
        · obtain ⟨tt, rfl⟩ : ∃ tt : Nat, zz = (tt : Int) := ⟨zz.toNat, by omega⟩
          go_wp2_with fail
          go_meet
          exact ⟨tt, rfl, by omega, rfl⟩
      case rest =>
        obtain ⟨tt, rfl, htt, hwx⟩ := hcut
        obtain rfl := hwx
        clear hz1 HZ0
        go_step
        go_step
        go_cut [11, 12, 13, 14] from 41 to 151 (fun p11 p12 p13 p14 wx => ∃ S4, OI w wx g rb H S4)
        case first =>
          by_cases h1 : x = 1
          · subst h1
            go_wp2_with fail
            refine (putO HOA.out y (t := tt) htt).mono ?_
            rintro e w3 ⟨rfl, hC⟩
            generalize (putF S y (tt : Int)).1 = c at *
            by_cases hc : c = 0
            · subst hc
              obtain ⟨c1, c2, S4, hO4⟩ := hC.1 rfl
              clear hC
              generalize hW4 : World.setCell w3 ⟨rb, tt, none⟩ (.int .i64 1) = w4 at *
              have HO4 := Lib.hid hO4
              clear hO4
              go_wp2_with fail
              go_meet
              exact ⟨S4, HO4.out⟩
            · obtain ⟨S4, hO4⟩ := hC.2 hc
              have k0 : (c == 0) = false := by simpa using hc
              clear hC hc
              generalize w3 = w4 at *
              have HO4 := Lib.hid hO4
              clear hO4
              go_wp2_with fail
              go_meet
              exact ⟨S4, HO4.out⟩
          by_cases h2 : x = 2
          · subst h2
            go_wp2_with fail
            refine (wakeO HOA.out (t := tt) htt).mono ?_
            rintro e w3 ⟨a1, c, rfl, hC⟩
            by_cases hc : c = 0
            · subst hc
              obtain ⟨c1, c2, S4, hO4⟩ := hC.1 rfl
              clear hC
              generalize hW4 : World.setCell w3 ⟨rb, tt, none⟩ (.int .i64 1) = w4 at *
              have HO4 := Lib.hid hO4
              clear hO4
              go_wp2_with fail
              go_meet
              exact ⟨S4, HO4.out⟩
            · obtain ⟨S4, hO4⟩ := hC.2 hc
              have k0 : (c == 0) = false := by simpa using hc
              clear hC hc
              generalize w3 = w4 at *
              have HO4 := Lib.hid hO4
              clear hO4
              go_wp2_with fail
              go_meet
              exact ⟨S4, HO4.out⟩
          by_cases h3 : x = 3
          · subst h3
            go_wp2_with fail
            refine (nextO HOA.out y).mono ?_
            rintro e w4 ⟨v, rfl, S4, hO4⟩
            have HO4 := Lib.hid hO4
            clear hO4
            go_wp2_with fail
            go_meet
            exact ⟨S4, HO4.out⟩
          by_cases h4 : x = 4
          · subst h4
            go_wp2_with fail
            refine (tickO HOA.out y).mono ?_
            rintro e w4 ⟨v, rfl, S4, hO4⟩
            have HO4 := Lib.hid hO4
            clear hO4
            go_wp2_with fail
            go_meet
            exact ⟨S4, HO4.out⟩
          by_cases h5 : x = 5
          · subst h5
            go_wp2_with fail
            refine (sleepO HOA.out y).mono ?_
            rintro e w3 ⟨x, c, rfl, hx, hC⟩
            by_cases hc : c = 0
            · subst hc
              obtain ⟨x1, x2⟩ := hx rfl
              obtain ⟨m, rfl⟩ : ∃ m : Nat, x = m := ⟨x.toNat, by omega⟩
              obtain ⟨c1, c2, S4, hO4⟩ := hC.1 rfl
              rw [show ((m : Int)).toNat = m by omega] at c1 c2 hO4
              clear hC hx
              generalize hW4 : World.setCell w3 ⟨rb, m, none⟩ (.int .i64 0) = w4 at *
              have HO4 := Lib.hid hO4
              clear hO4
              go_wp2_with fail
              go_meet
              exact ⟨S4, HO4.out⟩
            · obtain ⟨S4, hO4⟩ := hC.2 hc
              have k0 : (c == 0) = false := by simpa using hc
              clear hC hc hx
              generalize w3 = w4 at *
              have HO4 := Lib.hid hO4
              clear hO4
              go_wp2_with fail
              go_meet
              exact ⟨S4, HO4.out⟩
          by_cases h6 : x = 6
          · subst h6
            go_wp2_with fail
            refine (removeO HOA.out (t := tt) htt).mono ?_
            rintro e w3 ⟨b, rfl, hC⟩
            cases b with
            | true =>
              obtain ⟨c1, c2, S4, hO4⟩ := hC.1 rfl
              clear hC
              generalize hW4 : World.setCell w3 ⟨rb, tt, none⟩ (.int .i64 0) = w4 at *
              have HO4 := Lib.hid hO4
              clear hO4
              go_wp2_with fail
              go_meet
              exact ⟨S4, HO4.out⟩
            | false =>
              obtain ⟨S4, hO4⟩ := hC.2 (by decide)
              clear hC
              generalize w3 = w4 at *
              have HO4 := Lib.hid hO4
              clear hO4
              go_wp2_with fail
              go_meet
              exact ⟨S4, HO4.out⟩
          have k1 : (x == 1) = false := by simpa using h1
          have k2 : (x == 2) = false := by simpa using h2
          have k3 : (x == 3) = false := by simpa using h3
          have k4 : (x == 4) = false := by simpa using h4
          have k5 : (x == 5) = false := by simpa using h5
          have k6 : (x == 6) = false := by simpa using h6
          clear h1 h2 h3 h4 h5 h6
          obtain ⟨S4, hO4⟩ : ∃ S', OI w wa g rb H S' := ⟨S, HOA.out⟩
          clear HOA
          have HO4 := Lib.hid hO4
          clear hO4
          go_wp2_with fail
          go_meet
          exact ⟨S4, HO4.out⟩
        case rest =>
          obtain ⟨S4, hO4⟩ := hcut
          have hcc : ∃ v : Int, wc.cell? ⟨rb, tt, none⟩ = some (.int .i64 v) ∧ (v = 0 ∨ v = 1) := ⟨_, hO4.cell (t := tt) (by omega), by split; exact .inr rfl; exact .inl rfl⟩
          have HO4 := Lib.hid hO4
          obtain ⟨v, hvc, hv01⟩ := hcc
          clear hO4
          rcases hv01 with rfl | rfl
          · go_wp2_with fail
            go_roundg (len - (j + 1))
            case measure => have := HK.out; omega
            case rel => exact ⟨j + 1, S4, by go_num, rfl, by omega, HO4.out⟩
          · go_wp2_with fail
            go_roundg (len - (j + 1))
            case measure => have := HK.out; omega
            case rel => exact ⟨j + 1, S4, by go_num, rfl, by omega, HO4.out⟩
    · obtain rfl : j = len := by omega
      obtain ⟨m1, m2⟩ := make_one (P := Try.prog) intT rfl 65 (by omega) (by omega) wr
      have hmk : (Instr.makeSlice 31 (.int .i64 65) (.int .i64 65)).run Try.prog wr = .ok (.slice (some ⟨wr.heap.size, 0, none⟩) 65 65) (wr.alloc (.cells (madeCells #[.int .i64 0] 65) 3)) := m1
      have HF := Lib.hid HO.out.found
      have HN := Lib.hid HO.out.n
      have HLim := Lib.hid HO.out.lim
      clear m1 m2 HO
      generalize hW : wr.alloc (.cells (madeCells #[.int .i64 0] 65) 3) = w5 at *
      generalize hfb : wr.heap.size = fb at *
      go_wp2_with fail
      clear hW hmk hfb
      go_loopg [16, 17, 18, 19] (H + 1) (fun gk h_ p17 p18 p19 wr => ∃ (h : Nat), h_ = .int .i64 (h : Int) ∧ gk = H + 1 - h ∧ h ≤ H ∧ OF w wr g rb fb S (allT S h))
      case atStart => exact ⟨0, rfl, rfl, by omega, HF.out⟩
      case round =>
        obtain ⟨h, rfl, hgk, hh, hF⟩ := hrel
        have HK2 := Lib.hid hgk
        have HF := Lib.hid hF
        clear hgk hF
        by_cases hlt2 : h < H
        · have hrn := runI HF.out.j.qi h
          rw [show runF S h = S.R h by unfold runF; rw [if_pos ⟨by omega, by rw [HN.out]; omega⟩]; simp] at hrn
          by_cases hr : 0 < S.R h
          · have hpre : run1 S h = [S.R h] := by unfold run1; rw [if_pos hr]
            have hxm : S.R h ∈ hs S h := by rw [hs_run1, hpre]; simp
            have hx2 := HLim.out _ (isIn_mem HF.out.j.qw hxm)
            obtain ⟨m, hm⟩ : ∃ m : Nat, S.R h = m := ⟨(S.R h).toNat, by omega⟩
            have hcnt : (allT S h).count (m : Int) ≤ 1 := pre_count HF.out.j.qw (r := []) (k := h) (by simp) _
            have d2 := HF.out.cellF (t := m) (by omega)
            have d3 := HF.out.f.frozen m
            have HF6 := Lib.hid (show OF w (wr.setCell ⟨fb, m, none⟩ (.int .i64 ((((allT S h).count (m : Int) : Nat) : Int) + 1))) g rb fb S (allT S h ++ run1 S h) by rw [hpre, hm]; exact HF.out.add (t := m) (by omega))
            rw [hm] at hrn hr hx2
            have HRN := Lib.hid hrn
            generalize (allT S h).count (m : Int) = cnt at *
            clear hpre hxm hrn hm
            generalize hW6 : wr.setCell ⟨fb, m, none⟩ (.int .i64 ((cnt : Int) + 1)) = w6 at *
            go_wp2_with fail
            refine HRN.out.mono ?_
            rintro e w' ⟨rfl, rfl⟩
            obtain ⟨L, hL⟩ : ∃ L, (S.Q h).length = L := ⟨_, rfl⟩
            have hq := queI HF6.out.j.qi h
            rw [show queF S h = S.Q h by unfold queF; rw [if_pos ⟨by omega, by rw [HN.out]; omega⟩]; simp, hL] at hq
            have HQ := Lib.hid hq
            have hL64 : L ≤ 64 := by
              have h1 := sumTo_le (fun h => (S.Q h).length) S.n (by rw [HN.out]; exact hlt2)
              have h3 : (S.Q h).length ≤ wts S S.n := h1
              have h4 := wts_le HF6.out.j.qw
              omega
            have HL := Lib.hid hL
            clear hq hL
            go_wp2_with fail
            refine HQ.out.mono ?_
            rintro e w7 ⟨A, c, rfl, hA, _, hB, hnew⟩
            have HF7 := Lib.hid (HF6.out.look hB)
            have HA7 := Lib.hid hA
            have HAF := Lib.hid (show ∀ k, blkOf A = some k → ¬ k = fb from fun k hk e => by have := hnew k hk; have := HF6.out.f.blt; omega)
            clear hA hB hnew
            go_wp2_with fail
            go_loopg [19] (L + 1) (fun gk i_ wr => ∃ (i : Nat), i_ = .int .i64 (i : Int) ∧ gk = L + 1 - i ∧ i ≤ L ∧ OF w wr g rb fb S (allT S h ++ run1 S h ++ (S.Q h).take i) ∧ Rw wr 3 1 A L c (iv (S.Q h)))
            case atStart => exact ⟨0, rfl, rfl, by omega, by simpa using HF7.out, HA7.out⟩
            case round =>
              obtain ⟨i, rfl, hgk, hi, hF, hA⟩ := hrel
              have HK3 := Lib.hid hgk
              have HF8 := Lib.hid hF
              have HA8 := Lib.hid hA
              clear hgk hF hA
              by_cases hlt3 : i < L
              · obtain ⟨b, hbA⟩ := HA8.out.some_ (by omega)
                subst hbA
                obtain ⟨x, hx⟩ : ∃ x, (S.Q h)[i]? = some x := ⟨_, List.getElem?_eq_getElem (by rw [HL.out]; exact hlt3)⟩
                have hxm : x ∈ hs S h := by rw [hs_run1]; exact List.mem_append_right _ (List.mem_of_getElem? hx)
                have hx1 := (HF8.out.j.qw.mem hxm).2.1
                have hx2 := HLim.out x (isIn_mem HF8.out.j.qw hxm)
                obtain ⟨m, rfl⟩ : ∃ m : Nat, x = m := ⟨x.toNat, by omega⟩
                have d1 : wr.cell? ⟨b, i, none⟩ = some (.int .i64 (m : Int)) := by
                  rw [HA8.out.cell i (by omega)]; simp [iv, hx]
                have d2 := HF8.out.cellF (t := m) (by omega)
                have d3 := HF8.out.f.frozen m
                have HTK := Lib.hid (show (S.Q h).take (i + 1) = (S.Q h).take i ++ [(m : Int)] by rw [List.take_add_one, hx]; rfl)
                have hcnt : (allT S h ++ run1 S h ++ (S.Q h).take i).count (m : Int) ≤ 1 := pre_count HF8.out.j.qw (r := (S.Q h).drop i) (k := h + 1) (by rw [List.append_assoc, List.take_append_drop, show allT S (h + 1) = allT S h ++ hs S h from rfl, hs_run1, List.append_assoc]) _
                have HF9 := Lib.hid (HF8.out.add (t := m) (by omega))
                have HA9 := Lib.hid (HA8.out.ch (F := (· = fb)) ((Ch.refl (· = fb) wr).cell ⟨fb, m, none⟩ (.int .i64 ((((allT S h ++ run1 S h ++ (S.Q h).take i).count (m : Int) : Nat) : Int) + 1)) fun _ => rfl) HAF.out)
                generalize (allT S h ++ run1 S h ++ (S.Q h).take i).count (m : Int) = cnt at *
                clear hx hxm
                generalize hW9 : wr.setCell ⟨fb, m, none⟩ (.int .i64 ((cnt : Int) + 1)) = w9 at *
                go_wp2_with fail
                go_roundg (L + 1 - (i + 1))
                case measure => have := HK3.out; omega
                case rel => exact ⟨i + 1, by go_num, rfl, by omega, by rw [HTK.out, ← List.append_assoc]; exact HF9.out, HA9.out⟩
              · obtain rfl : L = i := by omega
                have HF9 := Lib.hid (show OF w wr g rb fb S (allT S (h + 1)) by
                  have := HF8.out
                  rw [List.take_of_length_le (by rw [HL.out]; exact Nat.le_refl _)] at this
                  unfold allT; rw [hs_run1, ← List.append_assoc]; exact this)
                go_wp2_with fail
                go_roundg (H + 1 - (h + 1))
                case measure => have := HK2.out; omega
                case rel => exact ⟨h + 1, by go_num, rfl, by omega, HF9.out⟩
          · have hpre : run1 S h = [] := by unfold run1; rw [if_neg hr]
            have h0 : S.R h = 0 := by have := HF.out.j.qw.r0 h; omega
            rw [h0] at hrn
            have HRN := Lib.hid hrn
            have HF6 := Lib.hid (show OF w wr g rb fb S (allT S h ++ run1 S h) by rw [hpre, List.append_nil]; exact HF.out)
            clear hpre h0 hrn hr
            generalize wr = w6 at *
            go_wp2_with fail
            refine HRN.out.mono ?_
            rintro e w' ⟨rfl, rfl⟩
            obtain ⟨L, hL⟩ : ∃ L, (S.Q h).length = L := ⟨_, rfl⟩
            have hq := queI HF6.out.j.qi h
            rw [show queF S h = S.Q h by unfold queF; rw [if_pos ⟨by omega, by rw [HN.out]; omega⟩]; simp, hL] at hq
            have HQ := Lib.hid hq
            have hL64 : L ≤ 64 := by
              have h1 := sumTo_le (fun h => (S.Q h).length) S.n (by rw [HN.out]; exact hlt2)
              have h3 : (S.Q h).length ≤ wts S S.n := h1
              have h4 := wts_le HF6.out.j.qw
              omega
            have HL := Lib.hid hL
            clear hq hL
            go_wp2_with fail
            refine HQ.out.mono ?_
            rintro e w7 ⟨A, c, rfl, hA, _, hB, hnew⟩
            have HF7 := Lib.hid (HF6.out.look hB)
            have HA7 := Lib.hid hA
            have HAF := Lib.hid (show ∀ k, blkOf A = some k → ¬ k = fb from fun k hk e => by have := hnew k hk; have := HF6.out.f.blt; omega)
            clear hA hB hnew
            go_wp2_with fail
            go_loopg [19] (L + 1) (fun gk i_ wr => ∃ (i : Nat), i_ = .int .i64 (i : Int) ∧ gk = L + 1 - i ∧ i ≤ L ∧ OF w wr g rb fb S (allT S h ++ run1 S h ++ (S.Q h).take i) ∧ Rw wr 3 1 A L c (iv (S.Q h)))
            case atStart => exact ⟨0, rfl, rfl, by omega, by simpa using HF7.out, HA7.out⟩
            case round =>
              obtain ⟨i, rfl, hgk, hi, hF, hA⟩ := hrel
              have HK3 := Lib.hid hgk
              have HF8 := Lib.hid hF
              have HA8 := Lib.hid hA
              clear hgk hF hA
              by_cases hlt3 : i < L
              · obtain ⟨b, hbA⟩ := HA8.out.some_ (by omega)
                subst hbA
                obtain ⟨x, hx⟩ : ∃ x, (S.Q h)[i]? = some x := ⟨_, List.getElem?_eq_getElem (by rw [HL.out]; exact hlt3)⟩
                have hxm : x ∈ hs S h := by rw [hs_run1]; exact List.mem_append_right _ (List.mem_of_getElem? hx)
                have hx1 := (HF8.out.j.qw.mem hxm).2.1
                have hx2 := HLim.out x (isIn_mem HF8.out.j.qw hxm)
                obtain ⟨m, rfl⟩ : ∃ m : Nat, x = m := ⟨x.toNat, by omega⟩
                have d1 : wr.cell? ⟨b, i, none⟩ = some (.int .i64 (m : Int)) := by
                  rw [HA8.out.cell i (by omega)]; simp [iv, hx]
                have d2 := HF8.out.cellF (t := m) (by omega)
                have d3 := HF8.out.f.frozen m
                have HTK := Lib.hid (show (S.Q h).take (i + 1) = (S.Q h).take i ++ [(m : Int)] by rw [List.take_add_one, hx]; rfl)
                have hcnt : (allT S h ++ run1 S h ++ (S.Q h).take i).count (m : Int) ≤ 1 := pre_count HF8.out.j.qw (r := (S.Q h).drop i) (k := h + 1) (by rw [List.append_assoc, List.take_append_drop, show allT S (h + 1) = allT S h ++ hs S h from rfl, hs_run1, List.append_assoc]) _
                have HF9 := Lib.hid (HF8.out.add (t := m) (by omega))
                have HA9 := Lib.hid (HA8.out.ch (F := (· = fb)) ((Ch.refl (· = fb) wr).cell ⟨fb, m, none⟩ (.int .i64 ((((allT S h ++ run1 S h ++ (S.Q h).take i).count (m : Int) : Nat) : Int) + 1)) fun _ => rfl) HAF.out)
                generalize (allT S h ++ run1 S h ++ (S.Q h).take i).count (m : Int) = cnt at *
                clear hx hxm
                generalize hW9 : wr.setCell ⟨fb, m, none⟩ (.int .i64 ((cnt : Int) + 1)) = w9 at *
                go_wp2_with fail
                go_roundg (L + 1 - (i + 1))
                case measure => have := HK3.out; omega
                case rel => exact ⟨i + 1, by go_num, rfl, by omega, by rw [HTK.out, ← List.append_assoc]; exact HF9.out, HA9.out⟩
              · obtain rfl : L = i := by omega
                have HF9 := Lib.hid (show OF w wr g rb fb S (allT S (h + 1)) by
                  have := HF8.out
                  rw [List.take_of_length_le (by rw [HL.out]; exact Nat.le_refl _)] at this
                  unfold allT; rw [hs_run1, ← List.append_assoc]; exact this)
                go_wp2_with fail
                go_roundg (H + 1 - (h + 1))
                case measure => have := HK2.out; omega
                case rel => exact ⟨h + 1, by go_num, rfl, by omega, HF9.out⟩
        · obtain rfl : H = h := by omega
          go_wp2_with fail
          go_loopg [20] 66 (fun gk t_ wr => ∃ (t : Nat), t_ = .int .i64 (t : Int) ∧ gk = 66 - t ∧ t ≤ 65 ∧ OF w wr g rb fb S (allT S H))
          case atStart => exact ⟨0, rfl, rfl, by omega, HF.out⟩
          case round =>
            obtain ⟨t, rfl, hgk, ht, hF⟩ := hrel
            have HK3 := Lib.hid hgk
            have HF := Lib.hid hF
            clear hgk hF
            by_cases hlt3 : t < 65
            · obtain ⟨v, v1, v2⟩ := (show OF w wr g rb fb S (allT S S.n) by rw [HN.out]; exact HF.out).all hlt3
              go_wp2_with fail
              go_quiet (fail)
              go_wp2_with fail
              go_roundg (66 - (t + 1))
              case measure => have := HK3.out; omega
              case rel => exact ⟨t + 1, by go_num, rfl, by omega, HF.out.look (below_drewN (Below.refl _ _) _)⟩
            · obtain rfl : t = 65 := by omega
              go_wp2_with fail
              go_ret
              exact ⟨by first | rfl | simp, HF.out.j.qi.bl⟩
theorem once_walk (n : Int) (hb : -9223372036854775808 ≤ n ∧ n ≤ 9223372036854775807) (a : Option Addr) (len cap : Nat) (o : Nat → OpV) (w : World) (h : AreOp w w.heap.size a len cap o) : Calls Try.prog 6 #[.int .i64 n, .slice a len cap] w fun e w' => e = .returned (.bool true) ∧ Below w.heap.size w w' := by
  by_cases hn : 1 ≤ n ∧ n ≤ 8
  · obtain ⟨H, rfl⟩ : ∃ H : Nat, n = H := ⟨n.toNat, by omega⟩
    exact once_ok H a len cap o w h (by omega) (by omega)
  · exact once_bad n a len cap w hn
end Go.Proofs.Ytphikmdgdbdaiaa
