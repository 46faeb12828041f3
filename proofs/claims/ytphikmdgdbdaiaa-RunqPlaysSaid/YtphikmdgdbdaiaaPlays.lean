import Derived.Test.YtphikmdgdbdaiaaLooksQ
import Derived.Test.YtphikmdgdbdaiaaRefNew
/- RunqPlays: every call answers as the reference. -/
namespace Go.Proofs.Ytphikmdgdbdaiaa
open Go.RowKit Go.BigFrame
set_option linter.unusedVariables false
set_option linter.unusedSimpArgs false
attribute [local go_sem] szIs_lit row_at row_past row_alloc nf_alloc row_set nf_set row_cell nf_cell row_drew nf_drew row_drewN nf_drewN cell_setRow frozen_setRow nlt1 nlt2 nlt3 nlt4 nne1 nne2 nne3 nen1 nen2 nen3
set_option maxRecDepth 100000 in
set_option maxHeartbeats 8000000 in
theorem step_where (w0 wr : World) (g x : Nat) (S : QS) (h : DU (fun _ => False) w0 wr g x S S) (k y z : Int) (hk : k = 7) : Calls Try.prog 21 #[.pointer (some ⟨g, 0, none⟩), .pointer (some ⟨x, 0, none⟩), .agg #[.int .i64 k, .int .i64 y, .int .i64 z]] wr fun e w' => e = .returned (.bool true) ∧ ∃ S', DU (fun _ => False) w0 w' g x S' S' := by
  subst hk
  have h1 : DU (fun _ => False) w0 (wr.alloc (.cells #[.int .i64 7, .int .i64 y, .int .i64 z] 36)) g x S S := h.look ((Below.refl _ _).alloc (Nat.le_refl _) _)
  have e2 : (wr.alloc (.cells #[.int .i64 7, .int .i64 y, .int .i64 z] 36)).cell? ⟨wr.heap.size, 2, none⟩ = some (.int .i64 z) := by simp [go_sem]
  have e0 : (wr.alloc (.cells #[.int .i64 7, .int .i64 y, .int .i64 z] 36)).cell? ⟨wr.heap.size, 0, none⟩ = some (.int .i64 7) := by simp [go_sem]
  obtain ⟨c1, c2, hF⟩ : ∃ c1 c2, whereF S z = (c1, c2) := ⟨_, _, rfl⟩
  have HF := Lib.hid hF
  clear h hF
  generalize hv0 : wr.alloc (.cells #[.int .i64 7, .int .i64 y, .int .i64 z] 36) = v0 at *
  generalize hob : wr.heap.size = ob at *
  have HD := Lib.hid h1
  clear h1
  go_enter Try.func21, Try.ntmps21
  go_wp2_with fail
  clear hv0 hob
  refine (HD.out.where_ z).mono ?_
  rintro e w2 ⟨rfl, rfl⟩
  rw [HF.out]
  go_wp2_with fail
  refine (HD.out.rwhere z).mono ?_
  rintro e w2 ⟨rfl, rfl⟩
  rw [HF.out]
  go_wp2_with fail
  go_ret
  first | exact ⟨by first | rfl | simp, S, HD.out⟩ | exact ⟨S, by first | rfl | simp, HD.out⟩
set_option maxRecDepth 100000 in
set_option maxHeartbeats 8000000 in
theorem step_look (w0 wr : World) (g x : Nat) (S : QS) (h : DU (fun _ => False) w0 wr g x S S) (k y z : Int) (k1 : ¬ k = 1) (k2 : ¬ k = 2) (k3 : ¬ k = 3) (k4 : ¬ k = 4) (k5 : ¬ k = 5) (k6 : ¬ k = 6) (k7 : ¬ k = 7) : Calls Try.prog 21 #[.pointer (some ⟨g, 0, none⟩), .pointer (some ⟨x, 0, none⟩), .agg #[.int .i64 k, .int .i64 y, .int .i64 z]] wr fun e w' => e = .returned (.bool true) ∧ ∃ S', DU (fun _ => False) w0 w' g x S' S' := by
  have h1 : DU (fun _ => False) w0 (wr.alloc (.cells #[.int .i64 k, .int .i64 y, .int .i64 z] 36)) g x S S := h.look ((Below.refl _ _).alloc (Nat.le_refl _) _)
  have HC := Lib.hid (looks_ok _ _ _ _ _ h1)
  have q1 : (k == 1) = false := by simp [k1]
  have q2 : (k == 2) = false := by simp [k2]
  have q3 : (k == 3) = false := by simp [k3]
  have q4 : (k == 4) = false := by simp [k4]
  have q5 : (k == 5) = false := by simp [k5]
  have q6 : (k == 6) = false := by simp [k6]
  have q7 : (k == 7) = false := by simp [k7]
  clear h h1 k1 k2 k3 k4 k5 k6 k7
  go_enter Try.func21, Try.ntmps21
  go_wp2_with fail
  refine HC.out.mono ?_
  rintro e w2 ⟨rfl, hD⟩
  have HD := Lib.hid hD
  clear hD
  go_wp2_with fail
  go_ret
  first | exact ⟨by first | rfl | simp, S, HD.out⟩ | exact ⟨S, by first | rfl | simp, HD.out⟩
theorem step_any (w0 wr : World) (g x : Nat) (S : QS) (h : DU (fun _ => False) w0 wr g x S S) (k y z : Int) : Calls Try.prog 21 #[.pointer (some ⟨g, 0, none⟩), .pointer (some ⟨x, 0, none⟩), .agg #[.int .i64 k, .int .i64 y, .int .i64 z]] wr fun e w' => e = .returned (.bool true) ∧ ∃ S', DU (fun _ => False) w0 w' g x S' S' := by
  by_cases h1 : k = 1
  · exact step_put _ _ _ _ _ h k y z h1
  by_cases h2 : k = 2
  · exact step_wake _ _ _ _ _ h k y z h2
  by_cases h3 : k = 3
  · exact step_next _ _ _ _ _ h k y z h3
  by_cases h4 : k = 4
  · exact step_tick _ _ _ _ _ h k y z h4
  by_cases h5 : k = 5
  · exact step_sleep _ _ _ _ _ h k y z h5
  by_cases h6 : k = 6
  · exact step_remove _ _ _ _ _ h k y z h6
  by_cases h7 : k = 7
  · exact step_where _ _ _ _ _ h k y z h7
  exact step_look _ _ _ _ _ h k y z h1 h2 h3 h4 h5 h6 h7
set_option maxRecDepth 100000 in
set_option maxHeartbeats 4000000 in
theorem plays_bad (n : Int) (a : Option Addr) (len cap : Nat) (w : World) (hn : ¬ (1 ≤ n ∧ n ≤ 8)) : Calls Try.prog 7 #[.int .i64 n, .slice a len cap] w fun e w' => e = .returned (.bool true) ∧ Below w.heap.size w w' := by
  have HN := Lib.hid (new_bad n w hn)
  have HR := Lib.hid (rnew_bad n w hn)
  clear hn
  go_enter Try.func7, Try.ntmps7
  go_wp2_with fail
  refine HN.out.mono ?_
  rintro e w1 ⟨rfl, rfl⟩
  go_wp2_with fail
  refine HR.out.mono ?_
  rintro e w1 ⟨rfl, rfl⟩
  go_wp2_with fail
  refine (lives_ok w).mono ?_
  rintro e w1 ⟨rfl, hB⟩
  have HB := Lib.hid hB
  clear hB
  go_wp2_with fail
  go_loopg [9] 0 (fun k i_ wr => i_ = .int .i64 0 ∧ wr = w1)
  case atStart => exact ⟨rfl, rfl⟩
  case round =>
    obtain ⟨rfl, rfl⟩ := hrel
    by_cases hlt : 0 < len
    · go_wp2_with fail
      go_ret
      exact ⟨by first | rfl | simp, HB.out⟩
    · obtain rfl : len = 0 := by omega
      go_wp2_with fail
      go_ret
      exact ⟨by first | rfl | simp, HB.out⟩
set_option maxRecDepth 100000 in
set_option maxHeartbeats 8000000 in
theorem plays_ok (H : Nat) (a : Option Addr) (len cap : Nat) (o : Nat → OpV) (w : World) (h : AreOp w w.heap.size a len cap o) (n1 : 1 ≤ H) (n2 : H ≤ 8) : Calls Try.prog 7 #[.int .i64 (H : Int), .slice a len cap] w fun e w' => e = .returned (.bool true) ∧ Below w.heap.size w w' := by
  have hlen := h.2.2.1
  have hlr : len ≤ 9223372036854775806 := by unfold reachBytes at hlen; omega
  have HH := Lib.hid h
  clear h hlen
  go_enter Try.func7, Try.ntmps7
  go_wp2_with fail
  refine (newI H w n1 n2).mono ?_
  rintro e w1 ⟨g, rfl, hI⟩
  have HI1 := Lib.hid hI
  clear hI
  go_wp2_with fail
  refine (rnew_ok H w1 n1 n2).mono ?_
  rintro e w2 ⟨r, rfl, hR, hB, hF⟩
  have hD : DU (fun _ => False) w w2 g r.x (S0 H) (S0 H) := by
    obtain ⟨a, q1, q2, q3⟩ := HI1.out.ok
    exact ⟨⟨a, r, q1, rfl, q2.below hB, hR, QW.start n1 n2, fun k hk => ⟨q3 k hk, fun e => e, fun hf => by have := hF k hf; have := q2.r.foot_lt hk; omega⟩, fun k hk => ⟨Nat.le_trans HI1.out.bl.size (hF k hk), fun e => e⟩⟩, HI1.out.bl.trans (hB.mono HI1.out.bl.size), fun k hk => hk.elim⟩
  have HD2 := Lib.hid hD
  clear hB hR hF hD
  generalize r.x = x at *
  go_wp2_with fail
  refine (lives_ok w2).mono ?_
  rintro e w3 ⟨rfl, hB⟩
  have HD3 := Lib.hid (HD2.out.look hB)
  clear hB
  go_wp2_with fail
  go_loopg [9] len (fun k i_ wr => ∃ (j : Nat) (S : QS), i_ = .int .i64 (j : Int) ∧ k = len - j ∧ j ≤ len ∧ DU (fun _ => False) w wr g x S S)
  case atStart => exact ⟨0, S0 H, rfl, rfl, by omega, HD3.out⟩
  case round =>
    obtain ⟨j, S, rfl, hk, hj, hD⟩ := hrel
    have HK := Lib.hid hk
    have HD := Lib.hid hD
    clear hk hD
    by_cases hlt : j < len
    · obtain ⟨b, off, ha, hbB, c0, c1, c2⟩ := (HH.out.below HD.out.bl).at_ j hlt
      subst ha
      generalize hx : (o j).x0 = x0 at *
      generalize hy : (o j).x1 = y at *
      generalize hz : (o j).x2 = z at *
      have HX := Lib.hid (And.intro hx (And.intro hy hz))
      clear hx hy hz
      go_wp2_with fail
      refine (step_any _ _ _ _ _ HD.out x0 y z).mono ?_
      rintro e w4 ⟨rfl, S', hD⟩
      have HD4 := Lib.hid hD
      clear hD
      go_wp2_with fail
      go_roundg (len - (j + 1))
      case measure => have := HK.out; omega
      case rel => exact ⟨j + 1, S', by go_num, rfl, by omega, HD4.out⟩
    · obtain rfl : j = len := by omega
      go_wp2_with fail
      refine (looks_ok _ _ _ _ _ HD.out).mono ?_
      rintro e w4 ⟨rfl, hD⟩
      have HD4 := Lib.hid hD
      clear hD
      go_wp2_with fail
      go_ret
      exact ⟨by first | rfl | simp, HD4.out.bl⟩
theorem plays_walk (n : Int) (hb : -9223372036854775808 ≤ n ∧ n ≤ 9223372036854775807) (a : Option Addr) (len cap : Nat) (o : Nat → OpV) (w : World) (h : AreOp w w.heap.size a len cap o) : Calls Try.prog 7 #[.int .i64 n, .slice a len cap] w fun e w' => e = .returned (.bool true) ∧ Below w.heap.size w w' := by
  by_cases hn : 1 ≤ n ∧ n ≤ 8
  · obtain ⟨H, rfl⟩ : ∃ H : Nat, n = H := ⟨n.toNat, by omega⟩
    exact plays_ok H a len cap o w h (by omega) (by omega)
  · exact plays_bad n a len cap w hn
end Go.Proofs.Ytphikmdgdbdaiaa
