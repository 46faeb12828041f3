/- RunqTurn: for every input the statement's walk returns true. -/
import Derived.Test.YtphikmdgdbdaiaaLives
/- RunqTurn. -/
namespace Go.Proofs.Ytphikmdgdbdaiaa
open Go.RowKit Go.BigFrame
set_option linter.unusedVariables false
set_option linter.unusedSimpArgs false
attribute [local go_sem] szIs_lit row_at row_past row_alloc nf_alloc row_set nf_set row_cell nf_cell row_drew nf_drew row_drewN nf_drewN cell_setRow frozen_setRow nlt1 nlt2 nlt3 nlt4 nne1 nne2 nne3 nen1 nen2 nen3
/-- A thread that is nowhere can be put, where there is room. -/
theorem put_free {S : QS} (W : QW S) {h : Nat} (hh : h < S.n) {t : Int} (ht : 1 ≤ t) (hno : ∀ k, t ∉ hs S k) (hr : tot S < 64) : putF S h t = (0, putS S h t) := by
  have hg : S.M.get t = none := by
    cases hv : S.M.get t with
    | none => rfl
    | some v => obtain ⟨k, _, _, hk⟩ := (W.key t v).1 hv; exact absurd hk (hno k)
  unfold putF
  rw [if_neg (by simp [inH]; omega), if_neg (by rw [hg]; simp), if_neg (by rw [W.len]; omega)]
  rfl
/-- One hart, the queue l, nobody runs. -/
structure Solo (S : QS) (l : List Int) : Prop where
  n : S.n = 1
  r : S.R 0 = 0
  q : S.Q 0 = l
theorem Solo.hs0 {S : QS} {l : List Int} (h : Solo S l) : hs S 0 = l := by unfold hs; rw [h.r, h.q]; simp
theorem Solo.tot {S : QS} {l : List Int} (h : Solo S l) : tot S = l.length := by
  unfold Ytphikmdgdbdaiaa.tot; rw [h.n]; show 0 + (hs S 0).length = _; rw [h.hs0]; omega
def first (j : Nat) : List Int := (List.range j).map fun k => ((k : Nat) : Int) + 1
theorem first_succ (j : Nat) : first (j + 1) = first j ++ [(j : Int) + 1] := by simp [first, List.range_succ]
theorem Solo.put {S : QS} {j : Nat} (W : QW S) (h : Solo S (first j)) (hj : j < 64) : putF S 0 ((j : Int) + 1) = (0, putS S 0 ((j : Int) + 1)) ∧ Solo (putS S 0 ((j : Int) + 1)) (first (j + 1)) := by
  refine ⟨put_free (h := 0) W (by rw [h.n]; omega) (by omega) (fun k hk => ?_) (by rw [h.tot]; simp [first]; omega), h.n, h.r, ?_⟩
  · have := (W.mem hk).1
    rw [h.n] at this
    obtain rfl : k = 0 := by omega
    rw [h.hs0] at hk
    simp [first] at hk; omega
  · show S.Q 0 ++ [(j : Int) + 1] = _
    rw [h.q, first_succ]
/-- The queue of n threads behind i rounds. -/
def rot (n i : Nat) : List Int := (List.range n).map fun k => (((i + k) % n : Nat) : Int) + 1
theorem rot_zero (n : Nat) : rot n 0 = first n := by
  unfold rot first
  apply List.map_congr_left
  intro k hk
  have := List.mem_range.1 hk
  rw [Nat.zero_add, Nat.mod_eq_of_lt this]
theorem rot_head (n i : Nat) (hn : 2 ≤ n) : ∃ r, rot n i = (((i % n : Nat) : Int) + 1) :: r ∧ r ++ [((i % n : Nat) : Int) + 1] = rot n (i + 1) ∧ r ≠ [] := by
  obtain ⟨m, rfl⟩ : ∃ m, n = m + 1 := ⟨n - 1, by omega⟩
  refine ⟨(List.range m).map fun k => (((i + (k + 1)) % (m + 1) : Nat) : Int) + 1, ?_, ?_, ?_⟩
  · unfold rot
    rw [List.range_succ_eq_map]
    simp [List.map_map, Function.comp_def]
  · unfold rot
    rw [List.range_succ, List.map_append]
    congr 1
    · apply List.map_congr_left
      intro k _
      rw [show i + (k + 1) = i + 1 + k by omega]
    · simp only [List.map_cons, List.map_nil]
      rw [show i + 1 + m = i + (m + 1) by omega, Nat.add_mod_right]
  · intro e
    have := congrArg List.length e
    simp at this; omega
theorem Solo.next {S : QS} {x : Int} {r : List Int} (h : Solo S (x :: r)) : nextF S 0 = ((x, true), takeS S 0 x r) := by
  unfold nextF
  have : ¬ (¬ inH S 0 ∨ 0 < S.R (0 : Int).toNat) := by
    simp [inH, h.n, h.r]
  rw [if_neg this, show (0 : Int).toNat = 0 from rfl, h.q]
theorem Solo.tick {S : QS} {x : Int} {r : List Int} (h : Solo S (x :: r)) (hx : 1 ≤ x) (hr : r ≠ []) : ∃ S', tickF (takeS S 0 x r) 0 = (true, S') ∧ Solo S' (r ++ [x]) := by
  have q0 : (takeS S 0 x r).Q 0 = r := rfl
  have r0 : (takeS S 0 x r).R 0 = x := rfl
  have : ¬ (¬ inH (takeS S 0 x r) 0 ∨ (takeS S 0 x r).R (0 : Int).toNat = 0 ∨ (takeS S 0 x r).Q (0 : Int).toNat = []) := by
    have hn : (takeS S 0 x r).n = 1 := h.n
    simp only [show (0 : Int).toNat = 0 from rfl, q0, r0, inH, hn]
    simp [hr]; omega
  exact ⟨((takeS S 0 x r).setQ 0 (r ++ [x])).setR 0 0, by unfold tickF; rw [if_neg this]; rfl, h.n, rfl, rfl⟩
set_option maxRecDepth 100000 in
set_option maxHeartbeats 8000000 in
theorem turn_walk (cnt rds : Int) (hc : -9223372036854775808 ≤ cnt ∧ cnt ≤ 9223372036854775807) (hrd : -9223372036854775808 ≤ rds ∧ rds ≤ 9223372036854775807) (w : World) : Calls Try.prog 3 #[.int .i64 cnt, .int .i64 rds] w fun e w' => e = .returned (.bool true) ∧ Below w.heap.size w w' := by
  go_enter Try.func3, Try.ntmps3
  go_wp2_with fail
  refine (newI 1 w (by omega) (by omega)).mono ?_
  rintro e w1 ⟨g, rfl, hI⟩
  have HI1 := Lib.hid hI
  clear hI
  go_wp2_with fail
  refine (livesI HI1.out).mono ?_
  rintro e w2 ⟨rfl, hI⟩
  have HI2 := Lib.hid hI
  clear hI
  have hx1 : -60 < cnt.tmod 60 ∧ cnt.tmod 60 < 60 := by
    have := Int.tmod_lt_of_pos cnt (show (0 : Int) < 60 by omega)
    have h2 := Int.lt_tmod_of_pos cnt (show (0 : Int) < 60 by omega)
    omega
  have hm1 : -200 < rds.tmod 200 ∧ rds.tmod 200 < 200 := by
    have := Int.tmod_lt_of_pos rds (show (0 : Int) < 200 by omega)
    have h2 := Int.lt_tmod_of_pos rds (show (0 : Int) < 200 by omega)
    omega
  generalize hX : cnt.tmod 60 = x at *
  generalize hM : rds.tmod 200 = m at *
  obtain ⟨k, hk⟩ : ∃ k : Nat, (x < 0 ∧ x = -(k : Int)) ∨ (¬ x < 0 ∧ x = k) := by
    by_cases h : x < 0
    · exact ⟨(-x).toNat, .inl ⟨h, by omega⟩⟩
    · exact ⟨x.toNat, .inr ⟨h, by omega⟩⟩
  have hk60 : k < 60 := by omega
  have HW0 := Lib.hid (show Solo (S0 1) (first 0) from ⟨rfl, rfl, rfl⟩)
  rcases hk with ⟨hk, rfl⟩ | ⟨hk, rfl⟩
  · have hk0 : decide (0 < k) = true := by simp; omega
    go_wp2_with fail
    have HXX := Lib.hid hX
    have HMM := Lib.hid hM
    clear hX hM
    go_loopg [9] (k + 2) (fun gk i_ wr => ∃ (j : Nat) (S : QS), i_ = .int .i64 ((j : Int) + 1) ∧ gk = k + 2 - j ∧ j ≤ k + 2 ∧ QI w wr g S ∧ Solo S (first j))
    case atStart => exact ⟨0, S0 1, rfl, rfl, by omega, HI2.out, HW0.out⟩
    case round =>
      obtain ⟨j, S, rfl, hgk, hj, hI, hS⟩ := hrel
      have HK := Lib.hid hgk
      have HI := Lib.hid hI
      have HS := Lib.hid hS
      clear hgk hI hS
      by_cases hlt : j < k + 2
      · obtain ⟨e1, e2⟩ := HS.out.put HI.out.qw (by omega)
        have HP := putI HI.out 0 ((j : Int) + 1)
        rw [e1] at HP
        have HP := Lib.hid HP
        have HS2 := Lib.hid e2
        clear e1 e2
        go_wp2_with fail
        refine HP.out.mono ?_
        rintro e w3 ⟨rfl, hI⟩
        have HI3 := Lib.hid hI
        clear hI
        go_wp2_with fail
        go_roundg (k + 2 - (j + 1))
        case measure => have := HK.out; omega
        case rel => exact ⟨j + 1, _, by go_num, rfl, by omega, HI3.out, HS2.out⟩
      · obtain rfl : j = k + 2 := by omega
        have HS1 := Lib.hid (show Solo S (rot (k + 2) 0) by rw [rot_zero]; exact HS.out)
        clear hlt
        go_wp2_with fail
        go_loopg [10, 11, 12] m.toNat (fun gk i_ p11 p12 wx => ∃ (i : Nat) (S : QS), i_ = .int .i64 (i : Int) ∧ gk = m.toNat - i ∧ ((i : Int) ≤ m ∨ i = 0) ∧ QI w wx g S ∧ Solo S (rot (k + 2) i))
        case atStart => exact ⟨0, S, rfl, rfl, .inr rfl, HI.out, HS1.out⟩
        case round =>
          obtain ⟨i, S, rfl, hgk, hi, hI, hS⟩ := hrel
          have HK := Lib.hid hgk
          have HI := Lib.hid hI
          have HS := Lib.hid hS
          have hi200 : i ≤ 200 := by omega
          have HLEN := Lib.hid (show (S.Q 0).length = k + 2 by rw [hS.q]; simp [rot])
          have HN1 := Lib.hid hS.n
          clear hgk hI hS
          by_cases hlt : (i : Int) < m
          · obtain ⟨r, hr1, hr2, hr3⟩ := rot_head (k + 2) i (by omega)
            have hS' := HS.out
            rw [hr1] at hS'
            have hnx := hS'.next
            obtain ⟨S', ht1, ht2⟩ := hS'.tick (by omega) hr3
            rw [hr2] at ht2
            have hqz : (i : Int) % ((k : Int) + 2) = ((i % (k + 2) : Nat) : Int) := by rw [Int.natCast_emod]; rfl
            have hq1 : (i % (k + 2) : Nat) < k + 2 := Nat.mod_lt _ (by omega)
            generalize hqq : i % (k + 2) = q at *
            have HN := nextI HI.out 0
            rw [hnx] at HN
            have HN := Lib.hid HN
            have HT1 := Lib.hid ht1
            have HT2 := Lib.hid ht2
            clear hr1 hr2 hr3 hS' hnx ht1 ht2 hqq
            go_wp2_with fail
            refine HN.out.mono ?_
            rintro e w3 ⟨rfl, hI⟩
            have HT := tickI hI 0
            rw [HT1.out] at HT
            have HT := Lib.hid HT
            clear hI
            go_wp2_with fail
            refine HT.out.mono ?_
            rintro e w4 ⟨rfl, hI⟩
            have HI4 := Lib.hid hI
            clear hI
            go_wp2_with fail
            go_roundg (m.toNat - (i + 1))
            case measure => have := HK.out; omega
            case rel => exact ⟨i + 1, S', by go_num, rfl, by omega, HI4.out, HT2.out⟩
          · have HQ := queI HI.out 0
            rw [show queF S 0 = S.Q 0 by unfold queF; rw [if_pos ⟨by omega, by rw [HN1.out]; omega⟩]; rfl, HLEN.out] at HQ
            have HQ := Lib.hid HQ
            go_wp2_with fail
            refine HQ.out.mono ?_
            rintro e w3 ⟨A, c, rfl, _, hI, _, _⟩
            have HI3 := Lib.hid hI
            clear hI
            go_wp2_with fail
            go_ret
            exact ⟨by first | rfl | simp, HI3.out.bl⟩
  · go_wp2_with fail
    have HXX := Lib.hid hX
    have HMM := Lib.hid hM
    clear hX hM
    go_loopg [9] (k + 2) (fun gk i_ wr => ∃ (j : Nat) (S : QS), i_ = .int .i64 ((j : Int) + 1) ∧ gk = k + 2 - j ∧ j ≤ k + 2 ∧ QI w wr g S ∧ Solo S (first j))
    case atStart => exact ⟨0, S0 1, rfl, rfl, by omega, HI2.out, HW0.out⟩
    case round =>
      obtain ⟨j, S, rfl, hgk, hj, hI, hS⟩ := hrel
      have HK := Lib.hid hgk
      have HI := Lib.hid hI
      have HS := Lib.hid hS
      clear hgk hI hS
      by_cases hlt : j < k + 2
      · obtain ⟨e1, e2⟩ := HS.out.put HI.out.qw (by omega)
        have HP := putI HI.out 0 ((j : Int) + 1)
        rw [e1] at HP
        have HP := Lib.hid HP
        have HS2 := Lib.hid e2
        clear e1 e2
        go_wp2_with fail
        refine HP.out.mono ?_
        rintro e w3 ⟨rfl, hI⟩
        have HI3 := Lib.hid hI
        clear hI
        go_wp2_with fail
        go_roundg (k + 2 - (j + 1))
        case measure => have := HK.out; omega
        case rel => exact ⟨j + 1, _, by go_num, rfl, by omega, HI3.out, HS2.out⟩
      · obtain rfl : j = k + 2 := by omega
        have HS1 := Lib.hid (show Solo S (rot (k + 2) 0) by rw [rot_zero]; exact HS.out)
        clear hlt
        go_wp2_with fail
        go_loopg [10, 11, 12] m.toNat (fun gk i_ p11 p12 wx => ∃ (i : Nat) (S : QS), i_ = .int .i64 (i : Int) ∧ gk = m.toNat - i ∧ ((i : Int) ≤ m ∨ i = 0) ∧ QI w wx g S ∧ Solo S (rot (k + 2) i))
        case atStart => exact ⟨0, S, rfl, rfl, .inr rfl, HI.out, HS1.out⟩
        case round =>
          obtain ⟨i, S, rfl, hgk, hi, hI, hS⟩ := hrel
          have HK := Lib.hid hgk
          have HI := Lib.hid hI
          have HS := Lib.hid hS
          have hi200 : i ≤ 200 := by omega
          have HLEN := Lib.hid (show (S.Q 0).length = k + 2 by rw [hS.q]; simp [rot])
          have HN1 := Lib.hid hS.n
          clear hgk hI hS
          by_cases hlt : (i : Int) < m
          · obtain ⟨r, hr1, hr2, hr3⟩ := rot_head (k + 2) i (by omega)
            have hS' := HS.out
            rw [hr1] at hS'
            have hnx := hS'.next
            obtain ⟨S', ht1, ht2⟩ := hS'.tick (by omega) hr3
            rw [hr2] at ht2
            have hqz : (i : Int) % ((k : Int) + 2) = ((i % (k + 2) : Nat) : Int) := by rw [Int.natCast_emod]; rfl
            have hq1 : (i % (k + 2) : Nat) < k + 2 := Nat.mod_lt _ (by omega)
            generalize hqq : i % (k + 2) = q at *
            have HN := nextI HI.out 0
            rw [hnx] at HN
            have HN := Lib.hid HN
            have HT1 := Lib.hid ht1
            have HT2 := Lib.hid ht2
            clear hr1 hr2 hr3 hS' hnx ht1 ht2 hqq
            go_wp2_with fail
            refine HN.out.mono ?_
            rintro e w3 ⟨rfl, hI⟩
            have HT := tickI hI 0
            rw [HT1.out] at HT
            have HT := Lib.hid HT
            clear hI
            go_wp2_with fail
            refine HT.out.mono ?_
            rintro e w4 ⟨rfl, hI⟩
            have HI4 := Lib.hid hI
            clear hI
            go_wp2_with fail
            go_roundg (m.toNat - (i + 1))
            case measure => have := HK.out; omega
            case rel => exact ⟨i + 1, S', by go_num, rfl, by omega, HI4.out, HT2.out⟩
          · have HQ := queI HI.out 0
            rw [show queF S 0 = S.Q 0 by unfold queF; rw [if_pos ⟨by omega, by rw [HN1.out]; omega⟩]; rfl, HLEN.out] at HQ
            have HQ := Lib.hid HQ
            go_wp2_with fail
            refine HQ.out.mono ?_
            rintro e w3 ⟨A, c, rfl, _, hI, _, _⟩
            have HI3 := Lib.hid hI
            clear hI
            go_wp2_with fail
            go_ret
            exact ⟨by first | rfl | simp, HI3.out.bl⟩
end Go.Proofs.Ytphikmdgdbdaiaa
