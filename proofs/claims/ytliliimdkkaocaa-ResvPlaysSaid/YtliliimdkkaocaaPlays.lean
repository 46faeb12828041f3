/- ResvPlays: every call at the gate answers as the reference. -/
import Derived.Test.YtliliimdkkaocaaLookW
/- ResvPlays. -/
namespace Go.Proofs.Ytliliimdkkaocaa
open Go.RowKit Go.BigFrame
set_option linter.unusedVariables false
set_option linter.unusedSimpArgs false
attribute [local go_sem] szIs_lit row_at row_past row_alloc nf_alloc row_set nf_set row_cell nf_cell row_drew nf_drew row_drewN nf_drewN cell_setRow frozen_setRow nlt1 nlt2 nlt3 nlt4 nne1 nne2 nne3 nen1 nen2 nen3
set_option maxRecDepth 100000 in
set_option maxHeartbeats 4000000 in
theorem step_look (w0 wr : World) (g x c d : Nat) (A B : Option Addr) (n live : Int) (L : List Seat) (h : Duo w0 wr g x A B c d n live L live L) (nd : Nd L) (k y z : Int) (k1 : ¬ k = 1) (k2 : ¬ k = 2) (k3 : ¬ k = 3) (k4 : ¬ k = 4) : Calls Try.prog 21 #[.pointer (some ⟨g, 0, none⟩), .pointer (some ⟨x, 0, none⟩), .agg #[.int .i64 k, .int .i64 y, .int .i64 z]] wr fun e w' => ∃ A' B' c' d' live' L', e = .returned (.bool true) ∧ Duo w0 w' g x A' B' c' d' n live' L' live' L' ∧ (Nd L → Nd L') := by
  have h1 := h.alloc (.cells #[.int .i64 k, .int .i64 y, .int .i64 z] 48)
  have H1 := Lib.hid h1
  have HC := Lib.hid (looks_ok _ _ _ _ _ _ _ _ _ _ _ h1 nd y)
  have q1 : (k == 1) = false := by simp [k1]
  have q2 : (k == 2) = false := by simp [k2]
  have q3 : (k == 3) = false := by simp [k3]
  have q4 : (k == 4) = false := by simp [k4]
  clear h h1 nd k1 k2 k3 k4
  go_enter Try.func21, Try.ntmps21
  go_wp2_with fail
  refine HC.out.mono ?_
  rintro e w2 ⟨rfl, hD⟩
  have HD := Lib.hid hD
  clear hD
  go_wp2_with fail
  go_ret
  exact ⟨A, B, c, d, live, L, by first | rfl | simp, HD.out, fun q => q⟩
theorem step_any (w0 wr : World) (g x c d : Nat) (A B : Option Addr) (n live : Int) (L : List Seat) (h : Duo w0 wr g x A B c d n live L live L) (nd : Nd L) (k y z : Int) : Calls Try.prog 21 #[.pointer (some ⟨g, 0, none⟩), .pointer (some ⟨x, 0, none⟩), .agg #[.int .i64 k, .int .i64 y, .int .i64 z]] wr fun e w' => ∃ A' B' c' d' live' L', e = .returned (.bool true) ∧ Duo w0 w' g x A' B' c' d' n live' L' live' L' ∧ Nd L' := by
  have fin : ∀ {e : Ending} {w' : World}, (∃ A' B' c' d' live' L', e = .returned (.bool true) ∧ Duo w0 w' g x A' B' c' d' n live' L' live' L' ∧ (Nd L → Nd L')) → ∃ A' B' c' d' live' L', e = .returned (.bool true) ∧ Duo w0 w' g x A' B' c' d' n live' L' live' L' ∧ Nd L' := fun ⟨a, b, c, d, e, f, q1, q2, q3⟩ => ⟨a, b, c, d, e, f, q1, q2, q3 nd⟩
  by_cases h1 : k = 1
  · exact (step_enter _ _ _ _ _ _ _ _ _ _ _ h k y z h1).mono fun _ _ q => fin q
  by_cases h2 : k = 2
  · exact (step_take _ _ _ _ _ _ _ _ _ _ _ h k y z h2).mono fun _ _ q => fin q
  by_cases h3 : k = 3
  · exact (step_give _ _ _ _ _ _ _ _ _ _ _ h k y z h3).mono fun _ _ q => fin q
  by_cases h4 : k = 4
  · exact (step_leave _ _ _ _ _ _ _ _ _ _ _ h k y z h4).mono fun _ _ q => fin q
  exact (step_look _ _ _ _ _ _ _ _ _ _ _ h nd k y z h1 h2 h3 h4).mono fun _ _ q => fin q
set_option maxRecDepth 100000 in
set_option maxHeartbeats 4000000 in
theorem plays_bad (n : Int) (a : Option Addr) (len cap : Nat) (w : World) (hn : ¬ (1 ≤ n ∧ n ≤ 1073741824)) : Calls Try.prog 7 #[.int .i64 n, .slice a len cap] w fun e w' => e = .returned (.bool true) ∧ Below w.heap.size w w' := by
  have HN := Lib.hid (new_any n w hn)
  have HR := Lib.hid (rnew_bad n w hn)
  clear hn
  go_enter Try.func7, Try.ntmps7
  go_wp2_with fail
  refine HN.out.mono ?_
  rintro e w1 ⟨rfl, rfl⟩
  go_wp2_with fail
  refine HR.out.mono ?_
  rintro e w1 ⟨rfl, rfl⟩
  go_wp2_with fail
  refine (lives_ok w).mono ?_
  rintro e w1 ⟨rfl, hB⟩
  have HB := Lib.hid hB
  clear hB
  go_wp2_with fail
  go_loopg [9] 0 (fun k i_ wr => i_ = .int .i64 0 ∧ wr = w1)
  case atStart => exact ⟨rfl, rfl⟩
  case round =>
    obtain ⟨rfl, rfl⟩ := hrel
    by_cases hlt : 0 < len
    · go_wp2_with fail
      go_ret
      exact ⟨by first | rfl | simp, HB.out⟩
    · obtain rfl : len = 0 := by omega
      go_wp2_with fail
      go_ret
      exact ⟨by first | rfl | simp, HB.out⟩
set_option maxRecDepth 100000 in
set_option maxHeartbeats 8000000 in
theorem plays_ok (n : Int) (a : Option Addr) (len cap : Nat) (o : Nat → OpV) (w : World) (h : AreOp w w.heap.size a len cap o) (n1 : 1 ≤ n) (n2 : n ≤ 1073741824) : Calls Try.prog 7 #[.int .i64 n, .slice a len cap] w fun e w' => e = .returned (.bool true) ∧ Below w.heap.size w w' := by
  have hlen := h.2.2.1
  have hlr : len ≤ 9223372036854775806 := by unfold reachBytes at hlen; omega
  have HH := Lib.hid h
  clear h hlen
  go_enter Try.func7, Try.ntmps7
  go_wp2_with fail
  refine (new_ok n w n1 n2).mono ?_
  rintro e w1 ⟨rfl, hG1, hB1⟩
  have hz1 := hB1.size
  have HG1 := Lib.hid hG1
  have HB1 := Lib.hid hB1
  clear hB1 hG1
  go_wp2_with fail
  refine (rnew_ok n w1 n1 n2).mono ?_
  rintro e w2 ⟨rfl, hG2, hB2⟩
  have hD : Duo w w2 w.heap.size w1.heap.size none none 0 0 n 0 [] 0 [] := ⟨wf0 n n1 n2, wf0 n n1 n2, HG1.out.below hB2, ⟨hG2.blk, SeatsAt.nil _ _, hz1, by simp [inB]⟩, fun k h1 h2 => by
    rcases h1 with h1 | h1 <;> rcases h2 with h2 | h2
    · have := HG1.out.blk.lt; omega
    · simp [inB] at h2
    · simp [inB] at h1
    · simp [inB] at h2, HB1.out.trans (hB2.mono hz1)⟩
  have HD2 := Lib.hid hD
  clear hB2 hG2 hD
  go_wp2_with fail
  refine (lives_ok w2).mono ?_
  rintro e w3 ⟨rfl, hB⟩
  have HD3 := Lib.hid (HD2.out.look hB)
  clear hB
  generalize hgg : w.heap.size = g at *
  generalize hxx : w1.heap.size = x at *
  have HGX := Lib.hid (And.intro hgg hxx)
  clear hgg hxx hz1
  go_wp2_with fail
  go_loopg [9] len (fun k i_ wr => ∃ (j : Nat) (A B : Option Addr) (c d : Nat) (live : Int) (L : List Seat), i_ = .int .i64 (j : Int) ∧ k = len - j ∧ j ≤ len ∧ Duo w wr g x A B c d n live L live L ∧ Nd L)
  case atStart => exact ⟨0, none, none, 0, 0, 0, [], rfl, rfl, by omega, HD3.out, by simp [Nd, ids]⟩
  case round =>
    obtain ⟨j, A, B, c, d, live, L, rfl, hk, hj, hD, hN⟩ := hrel
    have HK := Lib.hid hk
    have HD := Lib.hid hD
    have HN := Lib.hid hN
    clear hk hD hN
    by_cases hlt : j < len
    · obtain ⟨b, off, ha, hbB, c0, c1, c2⟩ := (HH.out.below (show Below g w wr by rw [← HGX.out.1]; exact HD.out.bl)).at_ j hlt
      subst ha
      generalize hx : (o j).x0 = x0 at *
      generalize hy : (o j).x1 = y at *
      generalize hz : (o j).x2 = z at *
      have HX := Lib.hid (And.intro hx (And.intro hy hz))
      clear hx hy hz
      have HC := Lib.hid (step_any _ _ _ _ _ _ _ _ _ _ _ HD.out HN.out x0 y z)
      go_wp2_with fail
      refine HC.out.mono ?_
      rintro e w4 ⟨A', B', c', d', live', L', rfl, hJ, hNd⟩
      have HJ := Lib.hid hJ
      have HNd := Lib.hid hNd
      clear hJ hNd
      go_wp2_with fail
      go_roundg (len - (j + 1))
      case measure => have := HK.out; omega
      case rel => exact ⟨j + 1, A', B', c', d', live', L', by go_num, rfl, by omega, HJ.out, HNd.out⟩
    · have HC := Lib.hid (looks_ok _ _ _ _ _ _ _ _ _ _ _ HD.out HN.out 1)
      go_wp2_with fail
      refine HC.out.mono ?_
      rintro e w4 ⟨rfl, hJ⟩
      have HJ := Lib.hid hJ
      clear hJ
      go_wp2_with fail
      go_ret
      exact ⟨by first | rfl | simp, HJ.out.bl⟩
theorem plays_walk (n : Int) (hb : n ≤ 9223372036854775807) (a : Option Addr) (len cap : Nat) (o : Nat → OpV) (w : World) (h : AreOp w w.heap.size a len cap o) : Calls Try.prog 7 #[.int .i64 n, .slice a len cap] w fun e w' => e = .returned (.bool true) ∧ Below w.heap.size w w' := by
  by_cases hn : 1 ≤ n ∧ n ≤ 1073741824
  · exact plays_ok n a len cap o w h hn.1 hn.2
  · exact plays_bad n a len cap w hn
end Go.Proofs.Ytliliimdkkaocaa
