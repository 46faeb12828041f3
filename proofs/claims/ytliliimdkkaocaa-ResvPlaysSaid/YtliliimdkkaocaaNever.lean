import Derived.Test.YtliliimdkkaocaaOnce
/- ResvNeverFails. -/
namespace Go.Proofs.Ytliliimdkkaocaa
open Go.RowKit
set_option linter.unusedVariables false
set_option linter.unusedSimpArgs false
attribute [local go_sem] szIs_lit row_at row_past row_alloc nf_alloc row_set nf_set row_cell nf_cell row_drew nf_drew row_drewN nf_drewN cell_setRow frozen_setRow nlt1 nlt2 nlt3 nlt4 nne1 nne2 nne3 nen1 nen2 nen3

theorem AreOp.at_ {w : World} {B len cap : Nat} {a : Option Addr} {o : Nat → OpV} (h : AreOp w B a len cap o) (i : Nat) (hi : i < len) : ∃ b off, a = some ⟨b, off, none⟩ ∧ b < B ∧ w.cell? ⟨b, off + i * 3, none⟩ = some (.int .i64 (o i).x0) ∧ w.cell? ⟨b, off + i * 3 + 1, none⟩ = some (.int .i64 (o i).x1) ∧ w.cell? ⟨b, off + i * 3 + 2, none⟩ = some (.int .i64 (o i).x2) := by
  obtain ⟨b, off, e, hb, hc⟩ := h.2.2.2 (by omega)
  obtain ⟨h1, _, h2, _, h3, _⟩ := hc i hi
  exact ⟨b, off, e, hb, h1, h2, h3⟩
theorem new_any (n : Int) (w : World) (hn : ¬ (1 ≤ n ∧ n ≤ 1073741824)) : Calls Try.prog 12 #[.int .i64 n] w fun e w' => e = .returned (.tuple #[.pointer none, .int .i64 1]) ∧ w = w' := new_bad n w (by omega)
set_option maxRecDepth 100000 in
set_option maxHeartbeats 2000000 in
theorem never_bad (n : Int) (a : Option Addr) (len cap : Nat) (w : World) (hn : ¬ (1 ≤ n ∧ n ≤ 1073741824)) : Calls Try.prog 5 #[.int .i64 n, .slice a len cap] w fun e w' => e = .returned (.bool true) ∧ Below w.heap.size w w' := by
  have HN := Lib.hid (new_any n w hn)
  clear hn
  go_enter Try.func5, Try.ntmps5
  go_wp2_with fail
  refine HN.out.mono ?_
  rintro e w1 ⟨rfl, rfl⟩
  go_wp2_with fail
  refine (lives_ok w).mono ?_
  rintro e w1 ⟨rfl, hB⟩
  have HB := Lib.hid hB
  clear hB
  go_wp2
  go_ret
  exact ⟨by first | rfl | simp, HB.out⟩
set_option maxRecDepth 100000 in
set_option maxHeartbeats 8000000 in
theorem never_ok (n : Int) (a : Option Addr) (len cap : Nat) (o : Nat → OpV) (w : World) (h : AreOp w w.heap.size a len cap o) (n1 : 1 ≤ n) (n2 : n ≤ 1073741824) : Calls Try.prog 5 #[.int .i64 n, .slice a len cap] w fun e w' => e = .returned (.bool true) ∧ Below w.heap.size w w' := by
  have hlen := h.2.2.1
  have hlr : len ≤ 9223372036854775806 := by unfold reachBytes at hlen; omega
  have HH := Lib.hid h
  clear h hlen
  go_enter Try.func5, Try.ntmps5
  go_wp2_with fail
  refine (newI w n1 n2).mono ?_
  rintro e w1 ⟨rfl, hI⟩
  have HI1 := Lib.hid hI
  clear hI
  go_wp2_with fail
  refine (livesI HI1.out).mono ?_
  rintro e w2 ⟨rfl, hI⟩
  have HI2 := Lib.hid hI
  clear hI
  go_wp2_with fail
  go_loopg [7, 8, 9] len (fun k i_ p8 p9 wr => ∃ (j : Nat) (A : Option Addr) (c : Nat) (live : Int) (L : List Seat), i_ = .int .i64 (j : Int) ∧ k = len - j ∧ j ≤ len ∧ Inv w wr w.heap.size A c n live L ∧ Nd L)
  case atStart => exact ⟨0, none, 0, 0, [], rfl, rfl, by omega, HI2.out, by simp [Nd, ids]⟩
  case round =>
    obtain ⟨j, A, c, live, L, rfl, hk, hj, hI, hN⟩ := hrel
    have HK := Lib.hid hk
    have HI := Lib.hid hI
    have HN := Lib.hid hN
    clear hk hI hN
    by_cases hlt : j < len
    · obtain ⟨b, off, ha, hbB, c0, c1, c2⟩ := (HH.out.below HI.out.bl).at_ j hlt
      subst ha
      generalize hx : (o j).x0 = x at *
      generalize hy : (o j).x1 = y at *
      generalize hz : (o j).x2 = z at *
      have HX := Lib.hid (And.intro hx (And.intro hy hz))
      clear hx hy hz
      have HIA := Lib.hid (HI.out.alloc (.cells #[.int .i64 x, .int .i64 y, .int .i64 z] 48))
      by_cases h1 : x = 1
      · subst h1
        have HC := Lib.hid (enterN HIA.out HN.out y z)
        go_wp2_with fail
        refine HC.out.mono ?_
        rintro e w3 ⟨v, A', c', live', L', rfl, hJ, hNd⟩
        have HJ := Lib.hid hJ
        have HJH := Lib.hid (heapI hJ)
        have HNd := Lib.hid hNd
        clear hJ hNd
        have u1 := HJ.out.wf.l0
        have u2 := res_nonneg L' (fun s hs => (HJ.out.wf.b s hs).1)
        have u3 := HJ.out.wf.fit
        have u4 : live' ≤ n := by omega
        have u5 : res L' ≤ n - live' := by omega
        generalize res L' = rr at *
        go_wp2_with fail
        refine (HJH.out).mono ?_
        rintro e w4 ⟨rfl, hI, hsz⟩
        unfold heapV
        have HI4 := Lib.hid (hI.alloc (.cells #[.int .i64 n, .int .i64 live', .int .i64 rr] 43))
        clear hI hsz
        go_wp2_with fail
        go_roundg (len - (j + 1))
        case measure => have := HK.out; omega
        case rel => exact ⟨j + 1, A', c', live', L', by go_num, rfl, by omega, HI4.out, HNd.out⟩
      · have k1 : (x == 1) = false := by simp [h1]
        by_cases h2 : x = 2
        · subst h2
          have HC := Lib.hid (takeN HIA.out HN.out y z)
          go_wp2_with fail
          refine HC.out.mono ?_
          rintro e w3 ⟨v, A', c', live', L', rfl, hJ, hNd⟩
          have HJ := Lib.hid hJ
          have HJH := Lib.hid (heapI hJ)
          have HNd := Lib.hid hNd
          clear hJ hNd
          have u1 := HJ.out.wf.l0
          have u2 := res_nonneg L' (fun s hs => (HJ.out.wf.b s hs).1)
          have u3 := HJ.out.wf.fit
          have u4 : live' ≤ n := by omega
          have u5 : res L' ≤ n - live' := by omega
          generalize res L' = rr at *
          go_wp2_with fail
          refine (HJH.out).mono ?_
          rintro e w4 ⟨rfl, hI, hsz⟩
          unfold heapV
          have HI4 := Lib.hid (hI.alloc (.cells #[.int .i64 n, .int .i64 live', .int .i64 rr] 43))
          clear hI hsz
          go_wp2_with fail
          go_roundg (len - (j + 1))
          case measure => have := HK.out; omega
          case rel => exact ⟨j + 1, A', c', live', L', by go_num, rfl, by omega, HI4.out, HNd.out⟩
        · have k2 : (x == 2) = false := by simp [h2]
          by_cases h3 : x = 3
          · subst h3
            have HC := Lib.hid (giveN HIA.out HN.out z)
            go_wp2_with fail
            refine HC.out.mono ?_
            rintro e w3 ⟨v, A', c', live', L', rfl, hJ, hNd⟩
            have HJ := Lib.hid hJ
            have HJH := Lib.hid (heapI hJ)
            have HNd := Lib.hid hNd
            clear hJ hNd
            have u1 := HJ.out.wf.l0
            have u2 := res_nonneg L' (fun s hs => (HJ.out.wf.b s hs).1)
            have u3 := HJ.out.wf.fit
            have u4 : live' ≤ n := by omega
            have u5 : res L' ≤ n - live' := by omega
            generalize res L' = rr at *
            go_wp2_with fail
            refine (HJH.out).mono ?_
            rintro e w4 ⟨rfl, hI, hsz⟩
            unfold heapV
            have HI4 := Lib.hid (hI.alloc (.cells #[.int .i64 n, .int .i64 live', .int .i64 rr] 43))
            clear hI hsz
            go_wp2_with fail
            go_roundg (len - (j + 1))
            case measure => have := HK.out; omega
            case rel => exact ⟨j + 1, A', c', live', L', by go_num, rfl, by omega, HI4.out, HNd.out⟩
          · have k3 : (x == 3) = false := by simp [h3]
            by_cases h4 : x = 4
            · subst h4
              have HC := Lib.hid (leaveN HIA.out HN.out y)
              go_wp2_with fail
              refine HC.out.mono ?_
              rintro e w3 ⟨v, A', c', live', L', rfl, hJ, hNd⟩
              have HJ := Lib.hid hJ
              have HJH := Lib.hid (heapI hJ)
              have HNd := Lib.hid hNd
              clear hJ hNd
              have u1 := HJ.out.wf.l0
              have u2 := res_nonneg L' (fun s hs => (HJ.out.wf.b s hs).1)
              have u3 := HJ.out.wf.fit
              have u4 : live' ≤ n := by omega
              have u5 : res L' ≤ n - live' := by omega
              generalize res L' = rr at *
              go_wp2_with fail
              refine (HJH.out).mono ?_
              rintro e w4 ⟨rfl, hI, hsz⟩
              unfold heapV
              have HI4 := Lib.hid (hI.alloc (.cells #[.int .i64 n, .int .i64 live', .int .i64 rr] 43))
              clear hI hsz
              go_wp2_with fail
              go_roundg (len - (j + 1))
              case measure => have := HK.out; omega
              case rel => exact ⟨j + 1, A', c', live', L', by go_num, rfl, by omega, HI4.out, HNd.out⟩
            · have k4 : (x == 4) = false := by simp [h4]
              obtain ⟨A', c', live', L', HJ, HNd, HJH⟩ : ∃ A' c' live' L', Hid (Inv w (wr.alloc (.cells #[.int .i64 x, .int .i64 y, .int .i64 z] 48)) w.heap.size A' c' n live' L') ∧ Hid (Nd L') ∧ Hid (Calls Try.prog 17 #[.pointer (some ⟨w.heap.size, 0, none⟩)] (wr.alloc (.cells #[.int .i64 x, .int .i64 y, .int .i64 z] 48)) fun e w' => e = .returned (heapV n live' (res L')) ∧ Inv w w' w.heap.size A' c' n live' L' ∧ (wr.alloc (.cells #[.int .i64 x, .int .i64 y, .int .i64 z] 48)).heap.size ≤ w'.heap.size) := ⟨A, c, live, L, HIA, HN, Lib.hid (heapI HIA.out)⟩
              have u1 := HJ.out.wf.l0
              have u2 := res_nonneg L' (fun s hs => (HJ.out.wf.b s hs).1)
              have u3 := HJ.out.wf.fit
              have u4 : live' ≤ n := by omega
              have u5 : res L' ≤ n - live' := by omega
              generalize res L' = rr at *
              go_wp2_with fail
              refine (HJH.out).mono ?_
              rintro e w4 ⟨rfl, hI, hsz⟩
              unfold heapV
              have HI4 := Lib.hid (hI.alloc (.cells #[.int .i64 n, .int .i64 live', .int .i64 rr] 43))
              clear hI hsz
              go_wp2_with fail
              go_roundg (len - (j + 1))
              case measure => have := HK.out; omega
              case rel => exact ⟨j + 1, A', c', live', L', by go_num, rfl, by omega, HI4.out, HNd.out⟩
    · obtain rfl : j = len := by omega
      have HS := Lib.hid (seatsA HI.out)
      have hlen64 := HI.out.wf.len
      go_wp2_with fail
      refine HS.out.mono ?_
      rintro e w3 ⟨A3, c3, rfl, hS3, hI3, hsz3⟩
      have HS3 := Lib.hid hS3
      have HI3 := Lib.hid hI3
      clear hS3 hI3 hsz3
      go_wp2_with fail
      go_loopg [11, 12, 13] L.length (fun k i_ p12 p13 wx => ∃ (j : Nat) (A : Option Addr) (c : Nat) (live' : Int), i_ = .int .i64 (j : Int) ∧ k = L.length - j ∧ j ≤ L.length ∧ Inv w wx w.heap.size A c n live' (mid L j) ∧ Aside wx w.heap.size A A3 c3 L)
      case atStart => exact ⟨0, A, c, live, rfl, rfl, by omega, HI3.out, HS3.out⟩
      case round =>
        obtain ⟨j, A, c, live', rfl, hk, hj, hI, hS⟩ := hrel
        have HK2 := Lib.hid hk
        have HI := Lib.hid hI
        have HS := Lib.hid hS
        clear hk hI hS
        by_cases hlt2 : j < L.length
        · obtain ⟨s, hs⟩ : ∃ s, L[j]? = some s := ⟨_, List.getElem?_eq_getElem hlt2⟩
          have HSJ := Lib.hid hs
          obtain ⟨b, hA, hbb, hbl, hfz, e0, e1, e2, e3⟩ := HS.out.at_.at_ hs
          have hm0 := mid_at L j hlt2
          rw [hs] at hm0
          have HM0 := Lib.hid hm0
          have HND := Lib.hid (show Nd (mid L j) by unfold Nd; rw [mid_ids]; exact HN.out)
          subst hA
          clear hs hfz hm0
          cases hsw : s.w
          · rw [hsw] at e3
            have HSW := Lib.hid hsw
            have hb0 := (HI.out.wf.b s (List.mem_of_getElem? HM0.out)).1
            have hb9 := (HI.out.wf.b s (List.mem_of_getElem? HM0.out)).2.1
            have hal : Inv w (wr.alloc (.cells #[.int .i64 s.id, .int .i64 s.b, .int .i64 s.t, .bool false] 39)) w.heap.size A c n live' (mid L j) := HI.out.alloc _
            have hal2 : Aside (wr.alloc (.cells #[.int .i64 s.id, .int .i64 s.b, .int .i64 s.t, .bool false] 39)) w.heap.size A (some ⟨b, 0, none⟩) c3 L := HS.out.alloc _
            have hd : s.b.tdiv 2 = s.b / 2 := Int.tdiv_eq_ediv_of_nonneg hb0
            have hT1 := takeA hal HND.out j s HM0.out HSW.out (s.b / 2) (by omega) (by omega)
            have HT1 := Lib.hid hT1
            have HAS := Lib.hid hal2
            clear hsw hT1 hal hal2
            have hnf : ¬ foot w.heap.size A wr.heap.size := fun hq => by have := (HI.out.ga.foot_lt hq).2; omega
            have hbk : Blk (wr.alloc (.cells #[.int .i64 s.id, .int .i64 s.b, .int .i64 s.t, .bool false] 39)) wr.heap.size #[.int .i64 s.id, .int .i64 s.b, .int .i64 s.t, .bool false] := Blk.of_heap (heap_alloc_new wr _)
            have HBK := Lib.hid hbk
            have HNF := Lib.hid hnf
            clear hbk hnf
            have hg1 : ¬ wr.heap.size = w.heap.size := by have := HI.out.lt; omega
            have hhalf : 0 ≤ s.b / 2 ∧ s.b / 2 ≤ s.b := by omega
            obtain ⟨hh0, hh1⟩ := hhalf
            generalize hhd : s.b / 2 = hf at *
            clear hhd
            go_wp2_with fail
            refine HT1.out.mono ?_
            rintro e w4 ⟨A4, c4, rfl, hI, hF⟩
            obtain ⟨hb4, hn4⟩ := HBK.out.frg hF HNF.out
            have HBK4 := Lib.hid hb4
            have HNF4 := Lib.hid hn4
            obtain ⟨gr, gn, gc, gfz⟩ := hb4.all
            have d0 := (gc 0).trans (show _ = some (.int .i64 s.id) from rfl)
            have d1 := (gc 1).trans (show _ = some (.int .i64 s.b) from rfl)
            have HAS4 := Lib.hid (HAS.out.step hF)
            have hm1 : ((mid L j).set j { s with b := s.b - hf, t := s.t + hf })[j]? = some { s with b := s.b - hf, t := s.t + hf } := List.getElem?_set_self (List.getElem?_eq_some_iff.1 HM0.out).1
            have hnd1 : Nd ((mid L j).set j { s with b := s.b - hf, t := s.t + hf }) := by unfold Nd; rw [ids_set _ _ s { s with b := s.b - hf, t := s.t + hf } HM0.out rfl]; exact HND.out
            have HM1 := Lib.hid hm1
            have HND1 := Lib.hid hnd1
            have HT2 := Lib.hid (takeA hI hnd1 j _ hm1 HSW.out (s.b - hf) (by omega) (Int.le_refl _))
            clear hI hF hb4 hn4 gr gn gc gfz hm1 hnd1
            go_wp2_with fail
            refine HT2.out.mono ?_
            rintro e w5 ⟨A5, c5, rfl, hI, hF⟩
            obtain ⟨hb5, hn5⟩ := HBK4.out.frg hF HNF4.out
            have HBK5 := Lib.hid hb5
            obtain ⟨gr, gn, gc, gfz⟩ := hb5.all
            have d00 := (gc 0).trans (show _ = some (.int .i64 s.id) from rfl)
            have HAS5 := Lib.hid (HAS4.out.step hF)
            have e6 : tk s = { s with b := s.b - hf - (s.b - hf), t := s.t + hf + (s.b - hf) } := by
              have hsw := HSW.out
              unfold tk
              rw [if_neg (by rw [hsw]; decide)]
              congr 1 <;> omega
            have e7 : ((mid L j).set j { s with b := s.b - hf, t := s.t + hf }).set j { s with b := s.b - hf - (s.b - hf), t := s.t + hf + (s.b - hf) } = mid L (j + 1) := by
              rw [List.set_set, ← e6, mid_next L j s HSJ.out]
            have hI2 := hI
            rw [e7] at hI2
            have hm2 : (mid L (j + 1))[j]? = some (tk s) := by rw [← e7, e6]; exact List.getElem?_set_self (by simpa using (List.getElem?_eq_some_iff.1 HM0.out).1)
            have htid : (tk s).id = s.id := by rw [e6]
            have htw : (tk s).w = false := by rw [e6]; exact HSW.out
            have htb : (tk s).b = 0 := by rw [e6]; simp
            have hT3 := takeO hI2 (show Nd (mid L (j + 1)) by unfold Nd; rw [mid_ids]; exact HN.out) j (tk s) hm2 htw 1 (by omega) (by omega)
            rw [htid] at hT3
            have HT3 := Lib.hid hT3
            clear hI hI2 hF hb5 hn5 gr gn gc gfz e6 e7 hm2 htid htw htb hT3
            go_wp2_with fail
            refine HT3.out.mono ?_
            rintro e w6 ⟨A6, c6, rfl, hI, hF⟩
            have HAS6 := Lib.hid (HAS5.out.step hF)
            have HI6 := Lib.hid hI
            clear hI hF
            go_wp2_with fail
            go_roundg (L.length - (j + 1))
            case measure => have := HK2.out; omega
            case rel => exact ⟨j + 1, A6, c6, _, by go_num, rfl, by omega, HI6.out, HAS6.out⟩
          · rw [hsw] at e3
            have HSW := Lib.hid hsw
            have hal : Inv w (wr.alloc (.cells #[.int .i64 s.id, .int .i64 s.b, .int .i64 s.t, .bool true] 39)) w.heap.size A c n live' (mid L (j + 1)) := by rw [mid_wait L j s HSJ.out HSW.out]; exact HI.out.alloc _
            have hal2 : Aside (wr.alloc (.cells #[.int .i64 s.id, .int .i64 s.b, .int .i64 s.t, .bool true] 39)) w.heap.size A (some ⟨b, 0, none⟩) c3 L := HS.out.alloc _
            have HAS := Lib.hid hal2
            have HAI := Lib.hid hal
            clear hsw hal hal2
            go_wp2_with fail
            go_roundg (L.length - (j + 1))
            case measure => have := HK2.out; omega
            case rel => exact ⟨j + 1, A, c, live', by go_num, rfl, by omega, HAI.out, HAS.out⟩
        · obtain rfl : j = L.length := by omega
          have hml : mid L L.length = L.map tk := by unfold mid; rw [List.take_of_length_le (Nat.le_refl _), List.drop_of_length_le (Nat.le_refl _), List.append_nil]
          have hI := HI.out
          rw [hml] at hI
          have hfit := hI.wf.fit
          rw [res_tk] at hfit
          have hH := heapI hI
          rw [res_tk] at hH
          have HH9 := Lib.hid hH
          have hl9 : live' ≤ n := by omega
          clear hml hI hH hfit
          go_wp2_with fail
          refine HH9.out.mono ?_
          rintro e w9 ⟨rfl, hI, hsz⟩
          unfold heapV
          have HI9 := Lib.hid (hI.alloc (.cells #[.int .i64 n, .int .i64 live', .int .i64 0] 43))
          clear hI hsz
          go_wp2
          go_ret
          exact ⟨by first | rfl | simp, HI9.out.bl⟩
theorem never_walk (n : Int) (hn : n ≤ 9223372036854775807) (a : Option Addr) (len cap : Nat) (o : Nat → OpV) (w : World) (h : AreOp w w.heap.size a len cap o) : Calls Try.prog 5 #[.int .i64 n, .slice a len cap] w fun e w' => e = .returned (.bool true) ∧ Below w.heap.size w w' := by
  by_cases h1 : 1 ≤ n ∧ n ≤ 1073741824
  · exact never_ok n a len cap o w h h1.1 h1.2
  · exact never_bad n a len cap w h1
end Go.Proofs.Ytliliimdkkaocaa
