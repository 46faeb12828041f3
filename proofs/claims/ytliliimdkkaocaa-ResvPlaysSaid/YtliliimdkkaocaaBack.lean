import Derived.Test.YtliliimdkkaocaaNever
import Derived.StillTailTactics
/- ResvBack. -/
namespace Go.Proofs.Ytliliimdkkaocaa
open Go.RowKit
set_option linter.unusedVariables false
set_option linter.unusedSimpArgs false
attribute [local go_sem] szIs_lit row_at row_past row_alloc nf_alloc row_set nf_set row_cell nf_cell row_drew nf_drew row_drewN nf_drewN cell_setRow frozen_setRow nlt1 nlt2 nlt3 nlt4 nne1 nne2 nne3 nen1 nen2 nen3

section
variable {w0 wr w' : World} {g c c' : Nat} {A A' : Option Addr} {n live live' : Int} {L L' : List Seat}
theorem giveF (h : Inv w0 wr g A c n live L) (m : Int) : Calls Try.prog 19 #[.pointer (some ⟨g, 0, none⟩), .int .i64 m] wr fun e w' => ∃ A' c' O co, e = .returned (.tuple #[.slice O (giv n live L m).1.length co, .int .i64 (giv n live L m).2.1]) ∧ Own w' wr.heap.size 3 O (giv n live L m).1.length co (fun j => .int .i64 ((giv n live L m).1.getD j 0)) ∧ Inv w0 w' g A' c' n (giv n live L m).2.2.1 (giv n live L m).2.2.2 ∧ FrG wr w' g A A' :=
  (give_ok _ _ _ _ _ _ _ wr h.ga h.wf h.bl.size m).mono fun e w' ⟨O, co, q1, q2, q3, q4⟩ => ⟨A, c, O, co, q1, q2, h.step (h.wf.giv m) q3 q4, q4⟩
end
theorem lea_head (n live : Int) (s : Seat) (r : List Seat) : lea n live (s :: r) s.id = ((admit n live r).2, 0, (admit n live r).1) := by
  have hf : findI (s :: r) s.id = 0 := by simp [findI]
  unfold lea
  rw [hf, if_neg (by omega)]
  rfl
theorem admit_len (n live : Int) (r : List Seat) : (admit n live r).1.length = r.length := adm_len _ _
theorem giv_over (n live : Int) (L : List Seat) (m : Int) (h : live < m) : giv n live L m = ([], 1, live, L) := by unfold giv; rw [if_pos (.inr h)]
theorem giv_all (n live : Int) (h0 : 0 ≤ live) : giv n live [] live = ([], 0, 0, []) := by
  unfold giv
  rw [if_neg (by omega)]
  simp [admit, adm]
set_option maxRecDepth 100000 in
set_option maxHeartbeats 2000000 in
theorem back_bad (n : Int) (a : Option Addr) (len cap : Nat) (w : World) (hn : ¬ (1 ≤ n ∧ n ≤ 1073741824)) : Calls Try.prog 6 #[.int .i64 n, .slice a len cap] w fun e w' => e = .returned (.bool true) ∧ Below w.heap.size w w' := by
  have HN := Lib.hid (new_any n w hn)
  clear hn
  go_enter Try.func6, Try.ntmps6
  go_wp2_with fail
  refine HN.out.mono ?_
  rintro e w1 ⟨rfl, rfl⟩
  go_wp2_with fail
  refine (lives_ok w).mono ?_
  rintro e w1 ⟨rfl, hB⟩
  have HB := Lib.hid hB
  clear hB
  go_wp2
  go_ret
  exact ⟨by first | rfl | simp, HB.out⟩
set_option maxRecDepth 100000 in
set_option maxHeartbeats 8000000 in
theorem back_ok (n : Int) (a : Option Addr) (len cap : Nat) (o : Nat → OpV) (w : World) (h : AreOp w w.heap.size a len cap o) (n1 : 1 ≤ n) (n2 : n ≤ 1073741824) : Calls Try.prog 6 #[.int .i64 n, .slice a len cap] w fun e w' => e = .returned (.bool true) ∧ Below w.heap.size w w' := by
  have hlen := h.2.2.1
  have hlr : len ≤ 9223372036854775806 := by unfold reachBytes at hlen; omega
  have HH := Lib.hid h
  clear h hlen
  go_enter Try.func6, Try.ntmps6
  go_wp2_with fail
  refine (newI w n1 n2).mono ?_
  rintro e w1 ⟨rfl, hI⟩
  have HI1 := Lib.hid hI
  clear hI
  go_wp2_with fail
  refine (livesI HI1.out).mono ?_
  rintro e w2 ⟨rfl, hI⟩
  have HI2 := Lib.hid hI
  clear hI
  go_wp2_with fail
  go_loopg [7] len (fun k i_ wr => ∃ (j : Nat) (A : Option Addr) (c : Nat) (live : Int) (L : List Seat), i_ = .int .i64 (j : Int) ∧ k = len - j ∧ j ≤ len ∧ Inv w wr w.heap.size A c n live L ∧ Nd L)
  case atStart => exact ⟨0, none, 0, 0, [], rfl, rfl, by omega, HI2.out, by simp [Nd, ids]⟩
  case round =>
    obtain ⟨j, A, c, live, L, rfl, hk, hj, hI, hN⟩ := hrel
    have HK := Lib.hid hk
    have HI := Lib.hid hI
    have HN := Lib.hid hN
    clear hk hI hN
    by_cases hlt : j < len
    · obtain ⟨b, off, ha, hbB, c0, c1, c2⟩ := (HH.out.below HI.out.bl).at_ j hlt
      subst ha
      generalize hx : (o j).x0 = x at *
      generalize hy : (o j).x1 = y at *
      generalize hz : (o j).x2 = z at *
      have HX := Lib.hid (And.intro hx (And.intro hy hz))
      clear hx hy hz
      by_cases h1 : x = 1
      · subst h1
        have HC := Lib.hid (enterN HI.out.drew HN.out y z)
        go_wp2_with fail
        go_still_tail 11, (by kernel_rfl)
        change wpList _ _ _ _ _ wr.drew
        go_wp2_with fail
        refine HC.out.mono ?_
        rintro e w3 ⟨v, A', c', live', L', rfl, hJ, hNd⟩
        have HJ := Lib.hid hJ
        have HNd := Lib.hid hNd
        clear hJ hNd
        go_wp2_with fail
        go_roundg (len - (j + 1))
        case measure => have := HK.out; omega
        case rel => exact ⟨j + 1, A', c', live', L', by go_num, rfl, by omega, HJ.out, HNd.out⟩
      · have k1 : (x == 1) = false := by simp [h1]
        by_cases h2 : x = 2
        · subst h2
          have HC := Lib.hid (takeN HI.out.drew HN.out y z)
          go_wp2_with fail
          go_still_tail 11, (by kernel_rfl)
          change wpList _ _ _ _ _ wr.drew
          go_wp2_with fail
          refine HC.out.mono ?_
          rintro e w3 ⟨v, A', c', live', L', rfl, hJ, hNd⟩
          have HJ := Lib.hid hJ
          have HNd := Lib.hid hNd
          clear hJ hNd
          go_wp2_with fail
          go_roundg (len - (j + 1))
          case measure => have := HK.out; omega
          case rel => exact ⟨j + 1, A', c', live', L', by go_num, rfl, by omega, HJ.out, HNd.out⟩
        · have k2 : (x == 2) = false := by simp [h2]
          go_wp2_with fail
          go_roundg (len - (j + 1))
          case measure => have := HK.out; omega
          case rel => exact ⟨j + 1, A, c, live, L, by go_num, rfl, by omega, HI.out, HN.out⟩
    · obtain rfl : j = len := by omega
      have HZ := Lib.hid (show L.length ≤ L.length from Nat.le_refl _)
      go_wp2_with fail
      go_loopg [8, 9] L.length (fun k p8 p9 wx => ∃ (A : Option Addr) (c : Nat) (live' : Int) (L' : List Seat), k = L'.length ∧ Inv w wx w.heap.size A c n live' L')
      case atStart => exact ⟨A, c, live, L, rfl, HI.out⟩
      case round =>
        obtain ⟨A, c, live', L', hk, hI⟩ := hrel
        have HK2 := Lib.hid hk
        have HI := Lib.hid hI
        have HS := Lib.hid (seatsA hI)
        clear hk hI
        cases L' with
        | nil =>
          have hl0 := HI.out.wf.l0
          have hl9 : live' ≤ n := by have := HI.out.wf.fit; simp [res] at this; omega
          go_wp2_with fail
          refine HS.out.mono ?_
          rintro e w3 ⟨A3, c3, rfl, hS3, hI3, hB3⟩
          have HC := Lib.hid (heapI hI3)
          clear hS3 hI3 hB3
          go_wp2_with fail
          refine HC.out.mono ?_
          rintro e w4 ⟨rfl, hI4, hsz⟩
          unfold heapV
          have hr0 : res ([] : List Seat) = 0 := rfl
          rw [hr0]
          have hI5 := hI4.alloc (.cells #[.int .i64 n, .int .i64 live', .int .i64 0] 43)
          have HC := Lib.hid (giveF hI5 (live' + 1))
          rw [giv_over n live' [] (live' + 1) (by omega)] at HC
          have hnf : ¬ foot w.heap.size A w4.heap.size := fun hq => by have := (hI4.ga.foot_lt hq).2; omega
          have HNF := Lib.hid hnf
          have HBK := Lib.hid (show Blk (w4.alloc (.cells #[.int .i64 n, .int .i64 live', .int .i64 0] 43)) w4.heap.size #[.int .i64 n, .int .i64 live', .int .i64 0] from Blk.of_heap (heap_alloc_new w4 _))
          have hg1 : ¬ w4.heap.size = w.heap.size := by have := hI4.lt; omega
          clear hI4 hI5 hsz hr0 hnf
          go_wp2_with fail
          refine HC.out.mono ?_
          rintro e w5 ⟨A5, c5, O, co, rfl, hO, hI, hF⟩
          obtain ⟨hb5, hn5⟩ := HBK.out.frg hF HNF.out
          have HBK5 := Lib.hid hb5
          have HNF5 := Lib.hid hn5
          obtain ⟨gr, gn, gc, gfz⟩ := hb5.all
          have d1 := (gc 1).trans (show _ = some (.int .i64 live') from rfl)
          have HC := Lib.hid (giveF hI live')
          rw [giv_all n live' hl0] at HC
          clear hO hI hF hb5 hn5 gr gn gc gfz
          go_wp2_with fail
          refine HC.out.mono ?_
          rintro e w6 ⟨A6, c6, O6, co6, rfl, hO, hI, hF⟩
          obtain ⟨hb6, hn6⟩ := HBK5.out.frg hF HNF5.out
          obtain ⟨gr, gn, gc, gfz⟩ := hb6.all
          have d2 := (gc 2).trans (show _ = some (.int .i64 0) from rfl)
          have HC := Lib.hid (heapI hI)
          clear hO hI hF hb6 hn6 gr gn gc gfz
          go_wp2_with fail
          refine HC.out.mono ?_
          rintro e w7 ⟨rfl, hI, hsz⟩
          unfold heapV
          have hr0 : res ([] : List Seat) = 0 := rfl
          rw [hr0]
          have HI7 := Lib.hid hI
          clear hI hsz hr0
          go_wp2
          go_ret
          exact ⟨by first | rfl | simp, HI7.out.bl⟩
        | cons s r =>
          go_wp2_with fail
          refine HS.out.mono ?_
          rintro e w3 ⟨A3, c3, rfl, hS3, hI3, hB3⟩
          have HS := Lib.hid (seatsA hI3)
          clear hS3 hI3 hB3
          go_wp2_with fail
          refine HS.out.mono ?_
          rintro e w4 ⟨A4, c4, rfl, hS4, hI4, hB4⟩
          obtain ⟨b, hA, hbb, hbl, hfz, e0, e1, e2, e3⟩ := hS4.at_.at_ (i := 0) rfl
          subst hA
          simp only [Nat.zero_mul, Nat.zero_add] at e0
          have HC := Lib.hid (leaveI hI4 s.id)
          rw [lea_head] at HC
          clear hS4 hI4 hB4 hfz e1 e2 e3
          go_wp2_with fail
          refine HC.out.mono ?_
          rintro e w5 ⟨A', c', O, co, rfl, hO, hI5⟩
          have HI5 := Lib.hid hI5
          clear hO hI5
          go_wp2_with fail
          go_roundg r.length
          case measure => have := HK2.out; simp at this; omega
          case rel => exact ⟨A', c', live', (admit n live' r).1, by rw [admit_len], HI5.out⟩
theorem back_walk (n : Int) (hn : n ≤ 9223372036854775807) (a : Option Addr) (len cap : Nat) (o : Nat → OpV) (w : World) (h : AreOp w w.heap.size a len cap o) : Calls Try.prog 6 #[.int .i64 n, .slice a len cap] w fun e w' => e = .returned (.bool true) ∧ Below w.heap.size w w' := by
  by_cases h1 : 1 ≤ n ∧ n ≤ 1073741824
  · exact back_ok n a len cap o w h h1.1 h1.2
  · exact back_bad n a len cap w h1
end Go.Proofs.Ytliliimdkkaocaa
