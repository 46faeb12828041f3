import Derived.Test.YtkamalaideimgaaFrame
import Derived.Test.YtkamalaideimgaaOnce
import Derived.OpenShut
/- The walk of PhysWords. -/
namespace Go.Proofs.Ytkamalaideimgaa
open Go.RowKit
set_option linter.unusedVariables false
attribute [local go_sem] szIs_lit row_at row_past row_alloc nf_alloc row_set nf_set row_cell nf_cell row_drew nf_drew row_drewN nf_drewN cell_setRow frozen_setRow nlt1 nlt2 nlt3 nlt4 nne1 nne2 nne3 nen1 nen2 nen3
attribute [local go_sem] by_get by_set

theorem st32_at (M : Nat → Int) (a i : Nat) (v : Int) (h : i < 4) : st32 M a v 4 (a + i) = v / 2 ^ (8 * i) % 256 := by
  unfold st32; rw [if_pos (by omega), Nat.add_sub_cancel_left]
theorem st32_out (a j : Nat) (v : Int) (h : ¬ (a ≤ j ∧ j < a + 4)) : st32 (fun _ => 0) a v 4 j = 0 := by
  unfold st32; rw [if_neg h]
theorem words_pos_odn (f : Int) (k : Nat) (he : f.tmod 64 = k) (k1 : 1 ≤ k) (k2 : k ≤ 64) (x v : Int) (w : World) (hr : (x.tmod 4 != 0) = true) (h2 : x < 0) : Calls Try.prog 4 #[.int .i64 f, .int .i64 x, .int .u32 v] w fun e w' => e = .returned (.bool true) ∧ Below w.heap.size w w' := by
  have He := Lib.hid he
  clear he
  have HN := Lib.hid (new_ok k (by omega) (by omega))
  have HL := Lib.hid lives_true
  have HS := Lib.hid (fun (g b : Nat) (w : World) (hg : Blk w g (memS b (k * 256))) (hb : Blk w b (bytes (fun _ => 0) (k * 256))) => store32_odd g w x v hr)
  have k3 : ¬ (k : Int) < 1 := by omega
  go_enter Try.func4, Try.ntmps4
  have he := He.out
  go_wp2_with fail
  clear he
  refine (HL.out _).mono ?_; rintro e w1 ⟨rfl, bel1⟩
  have Hbel1 := Lib.hid bel1
  clear bel1
  have he := He.out
  go_wp2_with fail
  clear he
  refine (HN.out _).mono ?_; rintro e w2 ⟨g, b, rfl, hg, hb, lg, lb, hne, bel⟩
  have hg2 := Lib.hid hg
  have hb2 := Lib.hid hb
  have Hbel := Lib.hid bel
  clear hg hb bel
  go_wp2_with fail
  refine (HS.out _ _ _ hg2.out hb2.out).mono ?_; rintro e w' ⟨rfl, rfl⟩
  go_wp2
  go_ret
  exact ⟨by simp, Hbel1.out.trans (Hbel.out.mono Hbel1.out.size)⟩
theorem words_pos_neg (f : Int) (k : Nat) (he : f.tmod 64 = k) (k1 : 1 ≤ k) (k2 : k ≤ 64) (x v : Int) (w : World) (hr : (x.tmod 4 != 0) = false) (h2 : x < 0) : Calls Try.prog 4 #[.int .i64 f, .int .i64 x, .int .u32 v] w fun e w' => e = .returned (.bool true) ∧ Below w.heap.size w w' := by
  have He := Lib.hid he
  clear he
  have HN := Lib.hid (new_ok k (by omega) (by omega))
  have HL := Lib.hid lives_true
  have HS := Lib.hid (fun (g b : Nat) (w : World) (hg : Blk w g (memS b (k * 256))) (hb : Blk w b (bytes (fun _ => 0) (k * 256))) => store32_neg g b (k * 256) (fun _ => 0) w x v hg hb (by omega) hr h2)
  have k3 : ¬ (k : Int) < 1 := by omega
  go_enter Try.func4, Try.ntmps4
  have he := He.out
  go_wp2_with fail
  clear he
  refine (HL.out _).mono ?_; rintro e w1 ⟨rfl, bel1⟩
  have Hbel1 := Lib.hid bel1
  clear bel1
  have he := He.out
  go_wp2_with fail
  clear he
  refine (HN.out _).mono ?_; rintro e w2 ⟨g, b, rfl, hg, hb, lg, lb, hne, bel⟩
  have hg2 := Lib.hid hg
  have hb2 := Lib.hid hb
  have Hbel := Lib.hid bel
  clear hg hb bel
  go_wp2_with fail
  refine (HS.out _ _ _ hg2.out hb2.out).mono ?_; rintro e w' ⟨rfl, rfl⟩
  go_wp2
  go_ret
  exact ⟨by simp, Hbel1.out.trans (Hbel.out.mono Hbel1.out.size)⟩
theorem words_pos_odp (f : Int) (k : Nat) (he : f.tmod 64 = k) (k1 : 1 ≤ k) (k2 : k ≤ 64) (x v : Int) (w : World) (hr : (x.tmod 4 != 0) = true) (h2 : 0 ≤ x) : Calls Try.prog 4 #[.int .i64 f, .int .i64 x, .int .u32 v] w fun e w' => e = .returned (.bool true) ∧ Below w.heap.size w w' := by
  have He := Lib.hid he
  clear he
  have HN := Lib.hid (new_ok k (by omega) (by omega))
  have HL := Lib.hid lives_true
  have HS := Lib.hid (fun (g b : Nat) (w : World) (hg : Blk w g (memS b (k * 256))) (hb : Blk w b (bytes (fun _ => 0) (k * 256))) => store32_odd g w x v hr)
  rw [Int.tmod_eq_emod_of_nonneg h2] at hr
  have hr2 : ¬ (x % 4 = 0) := by simpa using hr
  clear hr
  have k3 : ¬ (k : Int) < 1 := by omega
  go_enter Try.func4, Try.ntmps4
  have he := He.out
  go_wp2_with fail
  clear he
  refine (HL.out _).mono ?_; rintro e w1 ⟨rfl, bel1⟩
  have Hbel1 := Lib.hid bel1
  clear bel1
  have he := He.out
  go_wp2_with fail
  clear he
  refine (HN.out _).mono ?_; rintro e w2 ⟨g, b, rfl, hg, hb, lg, lb, hne, bel⟩
  have hg2 := Lib.hid hg
  have hb2 := Lib.hid hb
  have Hbel := Lib.hid bel
  clear hg hb bel
  go_wp2_with fail
  refine (HS.out _ _ _ hg2.out hb2.out).mono ?_; rintro e w' ⟨rfl, rfl⟩
  go_wp2
  go_ret
  exact ⟨by simp, Hbel1.out.trans (Hbel.out.mono Hbel1.out.size)⟩
theorem words_pos_far (f : Int) (k : Nat) (he : f.tmod 64 = k) (k1 : 1 ≤ k) (k2 : k ≤ 64) (x v : Int) (w : World) (hr : (x.tmod 4 != 0) = false) (h2 : 0 ≤ x) (h3 : ((k * 256 : Nat) : Int) < x) (h5 : 256 * (k : Int) - 4 < x) : Calls Try.prog 4 #[.int .i64 f, .int .i64 x, .int .u32 v] w fun e w' => e = .returned (.bool true) ∧ Below w.heap.size w w' := by
  have He := Lib.hid he
  clear he
  have HN := Lib.hid (new_ok k (by omega) (by omega))
  have HL := Lib.hid lives_true
  have HS := Lib.hid (fun (g b : Nat) (w : World) (hg : Blk w g (memS b (k * 256))) (hb : Blk w b (bytes (fun _ => 0) (k * 256))) => store32_far g b (k * 256) (fun _ => 0) w x v hg hb (by omega) hr h2 h3)
  clear h3 
  rw [Int.tmod_eq_emod_of_nonneg h2] at hr
  have hr2 : x % 4 = 0 := by simpa using hr
  clear hr
  have k3 : ¬ (k : Int) < 1 := by omega
  go_enter Try.func4, Try.ntmps4
  have he := He.out
  go_wp2_with fail
  clear he
  refine (HL.out _).mono ?_; rintro e w1 ⟨rfl, bel1⟩
  have Hbel1 := Lib.hid bel1
  clear bel1
  have he := He.out
  go_wp2_with fail
  clear he
  refine (HN.out _).mono ?_; rintro e w2 ⟨g, b, rfl, hg, hb, lg, lb, hne, bel⟩
  have hg2 := Lib.hid hg
  have hb2 := Lib.hid hb
  have Hbel := Lib.hid bel
  clear hg hb bel
  go_wp2_with fail
  refine (HS.out _ _ _ hg2.out hb2.out).mono ?_; rintro e w' ⟨rfl, rfl⟩
  go_wp2
  go_ret
  exact ⟨by simp, Hbel1.out.trans (Hbel.out.mono Hbel1.out.size)⟩
theorem words_pos_end (f : Int) (k : Nat) (he : f.tmod 64 = k) (k1 : 1 ≤ k) (k2 : k ≤ 64) (x v : Int) (w : World) (hr : (x.tmod 4 != 0) = false) (h2 : 0 ≤ x) (h3 : ¬ ((k * 256 : Nat) : Int) < x) (h4 : ((k * 256 : Nat) : Int) - x < 4) (h5 : 256 * (k : Int) - 4 < x) : Calls Try.prog 4 #[.int .i64 f, .int .i64 x, .int .u32 v] w fun e w' => e = .returned (.bool true) ∧ Below w.heap.size w w' := by
  have He := Lib.hid he
  clear he
  have HN := Lib.hid (new_ok k (by omega) (by omega))
  have HL := Lib.hid lives_true
  have HS := Lib.hid (fun (g b : Nat) (w : World) (hg : Blk w g (memS b (k * 256))) (hb : Blk w b (bytes (fun _ => 0) (k * 256))) => store32_end g b (k * 256) (fun _ => 0) w x v hg hb (by omega) hr h2 h3 h4)
  clear h3 h4 
  rw [Int.tmod_eq_emod_of_nonneg h2] at hr
  have hr2 : x % 4 = 0 := by simpa using hr
  clear hr
  have k3 : ¬ (k : Int) < 1 := by omega
  go_enter Try.func4, Try.ntmps4
  have he := He.out
  go_wp2_with fail
  clear he
  refine (HL.out _).mono ?_; rintro e w1 ⟨rfl, bel1⟩
  have Hbel1 := Lib.hid bel1
  clear bel1
  have he := He.out
  go_wp2_with fail
  clear he
  refine (HN.out _).mono ?_; rintro e w2 ⟨g, b, rfl, hg, hb, lg, lb, hne, bel⟩
  have hg2 := Lib.hid hg
  have hb2 := Lib.hid hb
  have Hbel := Lib.hid bel
  clear hg hb bel
  go_wp2_with fail
  refine (HS.out _ _ _ hg2.out hb2.out).mono ?_; rintro e w' ⟨rfl, rfl⟩
  go_wp2
  go_ret
  exact ⟨by simp, Hbel1.out.trans (Hbel.out.mono Hbel1.out.size)⟩
set_option maxRecDepth 20000 in
set_option maxHeartbeats 4000000 in
theorem words_pos_ok (f : Int) (k : Nat) (he : f.tmod 64 = k) (k1 : 1 ≤ k) (k2 : k ≤ 64) (a : Nat) (v : Int) (w : World) (hv : word v) (h0 : a % 4 = 0) (h2 : a + 4 ≤ k * 256) : Calls Try.prog 4 #[.int .i64 f, .int .i64 a, .int .u32 v] w fun e w' => e = .returned (.bool true) ∧ Below w.heap.size w w' := by
  have He := Lib.hid he
  clear he
  have HN := Lib.hid (new_ok k (by omega) (by omega))
  have HL := Lib.hid lives_true
  have HS := Lib.hid (fun (g b : Nat) (w : World) hg hb => store32_ok g b (k * 256) a (fun _ => 0) v w hg hb (by omega) hv.1 hv.2 h0 h2)
  have HLD := Lib.hid (fun (g b i : Nat) (w : World) hg hb (hi : i < 4) => load8_ok g b (k * 256) (a + i) (st32 (fun _ => 0) a v 4) w hg hb (by omega) (by omega))
  have HFR := Lib.hid (fun (g b j : Nat) (w : World) hg hb (hj : j < k) => frame_ok g b (k * 256) a j (st32 (fun _ => 0) a v 4) w hg hb (by omega) (by omega) (by omega))
  have HAT := Lib.hid (fun i (h : i < 4) => st32_at (fun _ => 0) a i v h)
  have HOUT := Lib.hid (fun j h => st32_out a j v h)
  have v0 := hv.1
  have v1 := hv.2
  clear hv h0
  have k3 : ¬ (k : Int) < 1 := by omega
  go_enter Try.func4, Try.ntmps4
  have he := He.out
  go_wp2_with fail
  clear he
  refine (HL.out _).mono ?_; rintro e w1 ⟨rfl, bel1⟩
  have Hbel1 := Lib.hid bel1
  clear bel1
  have he := He.out
  go_wp2_with fail
  clear he
  refine (HN.out _).mono ?_; rintro e w2 ⟨g, b, rfl, hg, hb, lg, lb, hne, bel⟩
  have hg2 := Lib.hid hg
  have hb2 := Lib.hid hb
  have Hbel := Lib.hid bel
  clear hg hb bel
  go_wp2_with fail
  refine (HS.out _ _ _ hg2.out hb2.out).mono ?_; rintro e w3 ⟨rfl, hb, hon⟩
  have hb3 := Lib.hid hb
  have hg3 := Lib.hid (hg2.out.only hon hg2.out.lt hne)
  have z1 := Hbel1.out.size
  have z2 := Hbel.out.size
  have Hbel3 := Lib.hid (below_only (Hbel1.out.trans (Hbel.out.mono Hbel1.out.size)) hon (by omega) (by omega))
  clear hb hon
  have hlb : w.heap.size ≤ b := by omega
  clear z1 z2 lg lb
  go_wp2_with fail
  go_loopw [10] (fun s10 wr => ∃ (i : Nat), i ≤ 4 ∧ s10 = .int .i64 i ∧ wr = w3) (fun s _ => 4 - (intOf s).toNat)
  case atStart => exact ⟨0, by omega, rfl, rfl⟩
  case round =>
    obtain ⟨i, hi, rfl, rfl⟩ := hrel
    have hl0 : (0 : Int) ≤ (i : Int) := Int.natCast_nonneg _
    by_cases hlt : i < 4
    · have HLD' := HLD.out g b i wr hg3.out hb3.out hlt
      rw [HAT.out i hlt] at HLD'
      rw [show ((a + i : Nat) : Int) = (a : Int) + (i : Int) from by omega] at HLD'
      have HL' := Lib.hid HLD'
      clear HLD'
      go_wp2_with fail
      refine HL'.out.mono ?_; rintro e w' ⟨rfl, rfl⟩
      go_wp2
      go_roundw
      case rel => exact ⟨i + 1, by omega, by go_num, by first | rfl | trivial⟩
      case measure => simp [intOf]; omega
    · have hge : (4 : Int) ≤ (i : Int) := by omega
      go_wp2_with fail
      go_loopw [13] (fun s13 wr => ∃ (j : Nat), j ≤ k ∧ s13 = .int .i64 j ∧ Blk wr g (memS b (k * 256)) ∧ Blk wr b (bytes (st32 (fun _ => 0) a v 4) (k * 256)) ∧ Below w.heap.size w wr) (fun s _ => k - (intOf s).toNat)
      case atStart => exact ⟨0, by omega, rfl, hg3.out, hb3.out, Hbel3.out⟩
      case round =>
        obtain ⟨j, hj, rfl, hgr, hbr, hbel⟩ := hrel
        have Hgr := Lib.hid hgr
        have Hbr := Lib.hid hbr
        have Hbl := Lib.hid hbel
        clear hgr hbr hbel
        have hj0 : (0 : Int) ≤ (j : Int) := Int.natCast_nonneg _
        by_cases hjt : j < k
        · have HF' := Lib.hid (HFR.out g b j wr Hgr.out Hbr.out hjt)
          go_wp2_with fail
          refine HF'.out.mono ?_; rintro e w5 ⟨g1, cap, C, rfl, hb1, hc1, hl1, hbel5⟩
          have HC1 := Lib.hid hc1
          have Hb1 := Lib.hid hb1
          have Hg5 := Lib.hid (Hgr.out.below hbel5 Hgr.out.lt)
          have Hb5 := Lib.hid (Hbr.out.below hbel5 Hbr.out.lt)
          have Hbl5 := Lib.hid (Hbl.out.trans (hbel5.mono Hbl.out.size))
          clear hc1 hb1 hbel5
          go_wp2_with fail
          go_loopw [16] (fun s16 wr => ∃ (i : Nat), i ≤ 256 ∧ s16 = .int .i64 i ∧ wr = w5) (fun s _ => 256 - (intOf s).toNat)
          case atStart => exact ⟨0, by omega, rfl, rfl⟩
          case round =>
            obtain ⟨i, hi, rfl, rfl⟩ := hrel
            have hi0 : (0 : Int) ≤ (i : Int) := Int.natCast_nonneg _
            by_cases hit : i < 256
            · obtain ⟨cr, cn, cc, cf⟩ := Hb1.out.all
              have hc := cell_row (i := i) cn
              rw [cr, HC1.out i hit] at hc
              clear cr cn cc cf
              by_cases hin : a ≤ j * 256 + i ∧ j * 256 + i < a + 4
              · have q1 : ¬ ((j : Int) * 256 + (i : Int) < (a : Int)) := by omega
                have q2 : ¬ ((j : Int) * 256 + (i : Int) ≥ (a : Int) + 4) := by omega
                generalize st32 (fun _ => 0) a v 4 (j * 256 + i) = y at hc
                cases hy : y != 0 with
                | true =>
                  go_wp2
                  go_roundw
                  case rel => exact ⟨i + 1, by omega, by go_num, by first | rfl | trivial⟩
                  case measure => simp [intOf]; omega
                | false =>
                  go_wp2
                  go_roundw
                  case rel => exact ⟨i + 1, by omega, by go_num, by first | rfl | trivial⟩
                  case measure => simp [intOf]; omega
              · rw [HOUT.out _ hin] at hc
                go_wp2
                go_roundw
                case rel => exact ⟨i + 1, by omega, by go_num, by first | rfl | trivial⟩
                case measure => simp [intOf]; omega
            · have hge : (256 : Int) ≤ (i : Int) := by omega
              go_wp2
              go_roundw
              case rel => exact ⟨j + 1, by omega, by go_num, Hg5.out, Hb5.out, Hbl5.out⟩
              case measure => simp [intOf]; omega
        · obtain rfl : j = k := by omega
          go_wp2
          go_ret
          exact ⟨by simp, Hbl.out⟩
theorem words_neg_odn (f : Int) (k : Nat) (m y : Int) (he : f.tmod 64 = m) (m1 : m < 1) (m2 : -64 < m) (hy : m * m = y) (y0 : 0 ≤ y) (y1 : y ≤ 4096) (hk : y % 64 + 1 = k) (k1 : 1 ≤ k) (k2 : k ≤ 64) (x v : Int) (w : World) (hr : (x.tmod 4 != 0) = true) (h2 : x < 0) : Calls Try.prog 4 #[.int .i64 f, .int .i64 x, .int .u32 v] w fun e w' => e = .returned (.bool true) ∧ Below w.heap.size w w' := by
  have He := Lib.hid he
  have Hy := Lib.hid hy
  have Hk := Lib.hid hk
  clear he hy hk
  have HN := Lib.hid (new_ok k (by omega) (by omega))
  have HL := Lib.hid lives_true
  have HS := Lib.hid (fun (g b : Nat) (w : World) (hg : Blk w g (memS b (k * 256))) (hb : Blk w b (bytes (fun _ => 0) (k * 256))) => store32_odd g w x v hr)
  go_enter Try.func4, Try.ntmps4
  go_wp2_with fail
  refine (HL.out _).mono ?_; rintro e w1 ⟨rfl, bel1⟩
  have Hbel1 := Lib.hid bel1
  clear bel1
  have he := He.out
  have hy := Hy.out
  have hk := Hk.out
  go_wp2_with fail
  clear he hy hk
  refine (HN.out _).mono ?_; rintro e w2 ⟨g, b, rfl, hg, hb, lg, lb, hne, bel⟩
  have hg2 := Lib.hid hg
  have hb2 := Lib.hid hb
  have Hbel := Lib.hid bel
  clear hg hb bel
  go_wp2_with fail
  refine (HS.out _ _ _ hg2.out hb2.out).mono ?_; rintro e w' ⟨rfl, rfl⟩
  go_wp2
  go_ret
  exact ⟨by simp, Hbel1.out.trans (Hbel.out.mono Hbel1.out.size)⟩
theorem words_neg_neg (f : Int) (k : Nat) (m y : Int) (he : f.tmod 64 = m) (m1 : m < 1) (m2 : -64 < m) (hy : m * m = y) (y0 : 0 ≤ y) (y1 : y ≤ 4096) (hk : y % 64 + 1 = k) (k1 : 1 ≤ k) (k2 : k ≤ 64) (x v : Int) (w : World) (hr : (x.tmod 4 != 0) = false) (h2 : x < 0) : Calls Try.prog 4 #[.int .i64 f, .int .i64 x, .int .u32 v] w fun e w' => e = .returned (.bool true) ∧ Below w.heap.size w w' := by
  have He := Lib.hid he
  have Hy := Lib.hid hy
  have Hk := Lib.hid hk
  clear he hy hk
  have HN := Lib.hid (new_ok k (by omega) (by omega))
  have HL := Lib.hid lives_true
  have HS := Lib.hid (fun (g b : Nat) (w : World) (hg : Blk w g (memS b (k * 256))) (hb : Blk w b (bytes (fun _ => 0) (k * 256))) => store32_neg g b (k * 256) (fun _ => 0) w x v hg hb (by omega) hr h2)
  go_enter Try.func4, Try.ntmps4
  go_wp2_with fail
  refine (HL.out _).mono ?_; rintro e w1 ⟨rfl, bel1⟩
  have Hbel1 := Lib.hid bel1
  clear bel1
  have he := He.out
  have hy := Hy.out
  have hk := Hk.out
  go_wp2_with fail
  clear he hy hk
  refine (HN.out _).mono ?_; rintro e w2 ⟨g, b, rfl, hg, hb, lg, lb, hne, bel⟩
  have hg2 := Lib.hid hg
  have hb2 := Lib.hid hb
  have Hbel := Lib.hid bel
  clear hg hb bel
  go_wp2_with fail
  refine (HS.out _ _ _ hg2.out hb2.out).mono ?_; rintro e w' ⟨rfl, rfl⟩
  go_wp2
  go_ret
  exact ⟨by simp, Hbel1.out.trans (Hbel.out.mono Hbel1.out.size)⟩
theorem words_neg_odp (f : Int) (k : Nat) (m y : Int) (he : f.tmod 64 = m) (m1 : m < 1) (m2 : -64 < m) (hy : m * m = y) (y0 : 0 ≤ y) (y1 : y ≤ 4096) (hk : y % 64 + 1 = k) (k1 : 1 ≤ k) (k2 : k ≤ 64) (x v : Int) (w : World) (hr : (x.tmod 4 != 0) = true) (h2 : 0 ≤ x) : Calls Try.prog 4 #[.int .i64 f, .int .i64 x, .int .u32 v] w fun e w' => e = .returned (.bool true) ∧ Below w.heap.size w w' := by
  have He := Lib.hid he
  have Hy := Lib.hid hy
  have Hk := Lib.hid hk
  clear he hy hk
  have HN := Lib.hid (new_ok k (by omega) (by omega))
  have HL := Lib.hid lives_true
  have HS := Lib.hid (fun (g b : Nat) (w : World) (hg : Blk w g (memS b (k * 256))) (hb : Blk w b (bytes (fun _ => 0) (k * 256))) => store32_odd g w x v hr)
  rw [Int.tmod_eq_emod_of_nonneg h2] at hr
  have hr2 : ¬ (x % 4 = 0) := by simpa using hr
  clear hr
  go_enter Try.func4, Try.ntmps4
  go_wp2_with fail
  refine (HL.out _).mono ?_; rintro e w1 ⟨rfl, bel1⟩
  have Hbel1 := Lib.hid bel1
  clear bel1
  have he := He.out
  have hy := Hy.out
  have hk := Hk.out
  go_wp2_with fail
  clear he hy hk
  refine (HN.out _).mono ?_; rintro e w2 ⟨g, b, rfl, hg, hb, lg, lb, hne, bel⟩
  have hg2 := Lib.hid hg
  have hb2 := Lib.hid hb
  have Hbel := Lib.hid bel
  clear hg hb bel
  go_wp2_with fail
  refine (HS.out _ _ _ hg2.out hb2.out).mono ?_; rintro e w' ⟨rfl, rfl⟩
  go_wp2
  go_ret
  exact ⟨by simp, Hbel1.out.trans (Hbel.out.mono Hbel1.out.size)⟩
theorem words_neg_far (f : Int) (k : Nat) (m y : Int) (he : f.tmod 64 = m) (m1 : m < 1) (m2 : -64 < m) (hy : m * m = y) (y0 : 0 ≤ y) (y1 : y ≤ 4096) (hk : y % 64 + 1 = k) (k1 : 1 ≤ k) (k2 : k ≤ 64) (x v : Int) (w : World) (hr : (x.tmod 4 != 0) = false) (h2 : 0 ≤ x) (h3 : ((k * 256 : Nat) : Int) < x) (h5 : 256 * (k : Int) - 4 < x) : Calls Try.prog 4 #[.int .i64 f, .int .i64 x, .int .u32 v] w fun e w' => e = .returned (.bool true) ∧ Below w.heap.size w w' := by
  have He := Lib.hid he
  have Hy := Lib.hid hy
  have Hk := Lib.hid hk
  clear he hy hk
  have HN := Lib.hid (new_ok k (by omega) (by omega))
  have HL := Lib.hid lives_true
  have HS := Lib.hid (fun (g b : Nat) (w : World) (hg : Blk w g (memS b (k * 256))) (hb : Blk w b (bytes (fun _ => 0) (k * 256))) => store32_far g b (k * 256) (fun _ => 0) w x v hg hb (by omega) hr h2 h3)
  clear h3 
  rw [Int.tmod_eq_emod_of_nonneg h2] at hr
  have hr2 : x % 4 = 0 := by simpa using hr
  clear hr
  go_enter Try.func4, Try.ntmps4
  go_wp2_with fail
  refine (HL.out _).mono ?_; rintro e w1 ⟨rfl, bel1⟩
  have Hbel1 := Lib.hid bel1
  clear bel1
  have he := He.out
  have hy := Hy.out
  have hk := Hk.out
  go_wp2_with fail
  clear he hy hk
  refine (HN.out _).mono ?_; rintro e w2 ⟨g, b, rfl, hg, hb, lg, lb, hne, bel⟩
  have hg2 := Lib.hid hg
  have hb2 := Lib.hid hb
  have Hbel := Lib.hid bel
  clear hg hb bel
  go_wp2_with fail
  refine (HS.out _ _ _ hg2.out hb2.out).mono ?_; rintro e w' ⟨rfl, rfl⟩
  go_wp2
  go_ret
  exact ⟨by simp, Hbel1.out.trans (Hbel.out.mono Hbel1.out.size)⟩
theorem words_neg_end (f : Int) (k : Nat) (m y : Int) (he : f.tmod 64 = m) (m1 : m < 1) (m2 : -64 < m) (hy : m * m = y) (y0 : 0 ≤ y) (y1 : y ≤ 4096) (hk : y % 64 + 1 = k) (k1 : 1 ≤ k) (k2 : k ≤ 64) (x v : Int) (w : World) (hr : (x.tmod 4 != 0) = false) (h2 : 0 ≤ x) (h3 : ¬ ((k * 256 : Nat) : Int) < x) (h4 : ((k * 256 : Nat) : Int) - x < 4) (h5 : 256 * (k : Int) - 4 < x) : Calls Try.prog 4 #[.int .i64 f, .int .i64 x, .int .u32 v] w fun e w' => e = .returned (.bool true) ∧ Below w.heap.size w w' := by
  have He := Lib.hid he
  have Hy := Lib.hid hy
  have Hk := Lib.hid hk
  clear he hy hk
  have HN := Lib.hid (new_ok k (by omega) (by omega))
  have HL := Lib.hid lives_true
  have HS := Lib.hid (fun (g b : Nat) (w : World) (hg : Blk w g (memS b (k * 256))) (hb : Blk w b (bytes (fun _ => 0) (k * 256))) => store32_end g b (k * 256) (fun _ => 0) w x v hg hb (by omega) hr h2 h3 h4)
  clear h3 h4 
  rw [Int.tmod_eq_emod_of_nonneg h2] at hr
  have hr2 : x % 4 = 0 := by simpa using hr
  clear hr
  go_enter Try.func4, Try.ntmps4
  go_wp2_with fail
  refine (HL.out _).mono ?_; rintro e w1 ⟨rfl, bel1⟩
  have Hbel1 := Lib.hid bel1
  clear bel1
  have he := He.out
  have hy := Hy.out
  have hk := Hk.out
  go_wp2_with fail
  clear he hy hk
  refine (HN.out _).mono ?_; rintro e w2 ⟨g, b, rfl, hg, hb, lg, lb, hne, bel⟩
  have hg2 := Lib.hid hg
  have hb2 := Lib.hid hb
  have Hbel := Lib.hid bel
  clear hg hb bel
  go_wp2_with fail
  refine (HS.out _ _ _ hg2.out hb2.out).mono ?_; rintro e w' ⟨rfl, rfl⟩
  go_wp2
  go_ret
  exact ⟨by simp, Hbel1.out.trans (Hbel.out.mono Hbel1.out.size)⟩
set_option maxRecDepth 20000 in
set_option maxHeartbeats 4000000 in
theorem words_neg_ok (f : Int) (k : Nat) (m y : Int) (he : f.tmod 64 = m) (m1 : m < 1) (m2 : -64 < m) (hy : m * m = y) (y0 : 0 ≤ y) (y1 : y ≤ 4096) (hk : y % 64 + 1 = k) (k1 : 1 ≤ k) (k2 : k ≤ 64) (a : Nat) (v : Int) (w : World) (hv : word v) (h0 : a % 4 = 0) (h2 : a + 4 ≤ k * 256) : Calls Try.prog 4 #[.int .i64 f, .int .i64 a, .int .u32 v] w fun e w' => e = .returned (.bool true) ∧ Below w.heap.size w w' := by
  have He := Lib.hid he
  have Hy := Lib.hid hy
  have Hk := Lib.hid hk
  clear he hy hk
  have HN := Lib.hid (new_ok k (by omega) (by omega))
  have HL := Lib.hid lives_true
  have HS := Lib.hid (fun (g b : Nat) (w : World) hg hb => store32_ok g b (k * 256) a (fun _ => 0) v w hg hb (by omega) hv.1 hv.2 h0 h2)
  have HLD := Lib.hid (fun (g b i : Nat) (w : World) hg hb (hi : i < 4) => load8_ok g b (k * 256) (a + i) (st32 (fun _ => 0) a v 4) w hg hb (by omega) (by omega))
  have HFR := Lib.hid (fun (g b j : Nat) (w : World) hg hb (hj : j < k) => frame_ok g b (k * 256) a j (st32 (fun _ => 0) a v 4) w hg hb (by omega) (by omega) (by omega))
  have HAT := Lib.hid (fun i (h : i < 4) => st32_at (fun _ => 0) a i v h)
  have HOUT := Lib.hid (fun j h => st32_out a j v h)
  have v0 := hv.1
  have v1 := hv.2
  clear hv h0
  go_enter Try.func4, Try.ntmps4
  go_wp2_with fail
  refine (HL.out _).mono ?_; rintro e w1 ⟨rfl, bel1⟩
  have Hbel1 := Lib.hid bel1
  clear bel1
  have he := He.out
  have hy := Hy.out
  have hk := Hk.out
  go_wp2_with fail
  clear he hy hk
  refine (HN.out _).mono ?_; rintro e w2 ⟨g, b, rfl, hg, hb, lg, lb, hne, bel⟩
  have hg2 := Lib.hid hg
  have hb2 := Lib.hid hb
  have Hbel := Lib.hid bel
  clear hg hb bel
  go_wp2_with fail
  refine (HS.out _ _ _ hg2.out hb2.out).mono ?_; rintro e w3 ⟨rfl, hb, hon⟩
  have hb3 := Lib.hid hb
  have hg3 := Lib.hid (hg2.out.only hon hg2.out.lt hne)
  have z1 := Hbel1.out.size
  have z2 := Hbel.out.size
  have Hbel3 := Lib.hid (below_only (Hbel1.out.trans (Hbel.out.mono Hbel1.out.size)) hon (by omega) (by omega))
  clear hb hon
  have hlb : w.heap.size ≤ b := by omega
  clear z1 z2 lg lb
  go_wp2_with fail
  go_loopw [10] (fun s10 wr => ∃ (i : Nat), i ≤ 4 ∧ s10 = .int .i64 i ∧ wr = w3) (fun s _ => 4 - (intOf s).toNat)
  case atStart => exact ⟨0, by omega, rfl, rfl⟩
  case round =>
    obtain ⟨i, hi, rfl, rfl⟩ := hrel
    have hl0 : (0 : Int) ≤ (i : Int) := Int.natCast_nonneg _
    by_cases hlt : i < 4
    · have HLD' := HLD.out g b i wr hg3.out hb3.out hlt
      rw [HAT.out i hlt] at HLD'
      rw [show ((a + i : Nat) : Int) = (a : Int) + (i : Int) from by omega] at HLD'
      have HL' := Lib.hid HLD'
      clear HLD'
      go_wp2_with fail
      refine HL'.out.mono ?_; rintro e w' ⟨rfl, rfl⟩
      go_wp2
      go_roundw
      case rel => exact ⟨i + 1, by omega, by go_num, by first | rfl | trivial⟩
      case measure => simp [intOf]; omega
    · have hge : (4 : Int) ≤ (i : Int) := by omega
      go_wp2_with fail
      go_loopw [13] (fun s13 wr => ∃ (j : Nat), j ≤ k ∧ s13 = .int .i64 j ∧ Blk wr g (memS b (k * 256)) ∧ Blk wr b (bytes (st32 (fun _ => 0) a v 4) (k * 256)) ∧ Below w.heap.size w wr) (fun s _ => k - (intOf s).toNat)
      case atStart => exact ⟨0, by omega, rfl, hg3.out, hb3.out, Hbel3.out⟩
      case round =>
        obtain ⟨j, hj, rfl, hgr, hbr, hbel⟩ := hrel
        have Hgr := Lib.hid hgr
        have Hbr := Lib.hid hbr
        have Hbl := Lib.hid hbel
        clear hgr hbr hbel
        have hj0 : (0 : Int) ≤ (j : Int) := Int.natCast_nonneg _
        by_cases hjt : j < k
        · have HF' := Lib.hid (HFR.out g b j wr Hgr.out Hbr.out hjt)
          go_wp2_with fail
          refine HF'.out.mono ?_; rintro e w5 ⟨g1, cap, C, rfl, hb1, hc1, hl1, hbel5⟩
          have HC1 := Lib.hid hc1
          have Hb1 := Lib.hid hb1
          have Hg5 := Lib.hid (Hgr.out.below hbel5 Hgr.out.lt)
          have Hb5 := Lib.hid (Hbr.out.below hbel5 Hbr.out.lt)
          have Hbl5 := Lib.hid (Hbl.out.trans (hbel5.mono Hbl.out.size))
          clear hc1 hb1 hbel5
          go_wp2_with fail
          go_loopw [16] (fun s16 wr => ∃ (i : Nat), i ≤ 256 ∧ s16 = .int .i64 i ∧ wr = w5) (fun s _ => 256 - (intOf s).toNat)
          case atStart => exact ⟨0, by omega, rfl, rfl⟩
          case round =>
            obtain ⟨i, hi, rfl, rfl⟩ := hrel
            have hi0 : (0 : Int) ≤ (i : Int) := Int.natCast_nonneg _
            by_cases hit : i < 256
            · obtain ⟨cr, cn, cc, cf⟩ := Hb1.out.all
              have hc := cell_row (i := i) cn
              rw [cr, HC1.out i hit] at hc
              clear cr cn cc cf
              by_cases hin : a ≤ j * 256 + i ∧ j * 256 + i < a + 4
              · have q1 : ¬ ((j : Int) * 256 + (i : Int) < (a : Int)) := by omega
                have q2 : ¬ ((j : Int) * 256 + (i : Int) ≥ (a : Int) + 4) := by omega
                generalize st32 (fun _ => 0) a v 4 (j * 256 + i) = y at hc
                cases hy : y != 0 with
                | true =>
                  go_wp2
                  go_roundw
                  case rel => exact ⟨i + 1, by omega, by go_num, by first | rfl | trivial⟩
                  case measure => simp [intOf]; omega
                | false =>
                  go_wp2
                  go_roundw
                  case rel => exact ⟨i + 1, by omega, by go_num, by first | rfl | trivial⟩
                  case measure => simp [intOf]; omega
              · rw [HOUT.out _ hin] at hc
                go_wp2
                go_roundw
                case rel => exact ⟨i + 1, by omega, by go_num, by first | rfl | trivial⟩
                case measure => simp [intOf]; omega
            · have hge : (256 : Int) ≤ (i : Int) := by omega
              go_wp2
              go_roundw
              case rel => exact ⟨j + 1, by omega, by go_num, Hg5.out, Hb5.out, Hbl5.out⟩
              case measure => simp [intOf]; omega
        · obtain rfl : j = k := by omega
          go_wp2
          go_ret
          exact ⟨by simp, Hbl.out⟩
theorem words_pos (f : Int) (k : Nat) (he : f.tmod 64 = k) (k1 : 1 ≤ k) (k2 : k ≤ 64) (x v : Int) (hv : word v) (w : World) : Calls Try.prog 4 #[.int .i64 f, .int .i64 x, .int .u32 v] w fun e w' => e = .returned (.bool true) ∧ Below w.heap.size w w' := by
  cases hr : x.tmod 4 != 0 with
  | true =>
    by_cases h2 : x < 0
    · exact words_pos_odn f k he k1 k2 x v w hr h2
    · exact words_pos_odp f k he k1 k2 x v w hr (by omega)
  | false =>
    by_cases h2 : x < 0
    · exact words_pos_neg f k he k1 k2 x v w hr h2
    · by_cases h3 : ((k * 256 : Nat) : Int) < x
      · exact words_pos_far f k he k1 k2 x v w hr (by omega) h3 (by omega)
      · by_cases h4 : ((k * 256 : Nat) : Int) - x < 4
        · exact words_pos_end f k he k1 k2 x v w hr (by omega) h3 h4 (by omega)
        · obtain ⟨a, rfl⟩ := Int.eq_ofNat_of_zero_le (show 0 ≤ x by omega)
          have h0 : a % 4 = 0 := by
            rw [Int.tmod_eq_emod_of_nonneg (by omega)] at hr
            have : ((a : Int) % 4) = 0 := by simpa using hr
            omega
          exact words_pos_ok f k he k1 k2 a v w hv h0 (by omega)
theorem words_neg (f : Int) (k : Nat) (m y : Int) (he : f.tmod 64 = m) (m1 : m < 1) (m2 : -64 < m) (hy : m * m = y) (y0 : 0 ≤ y) (y1 : y ≤ 4096) (hk : y % 64 + 1 = k) (k1 : 1 ≤ k) (k2 : k ≤ 64) (x v : Int) (hv : word v) (w : World) : Calls Try.prog 4 #[.int .i64 f, .int .i64 x, .int .u32 v] w fun e w' => e = .returned (.bool true) ∧ Below w.heap.size w w' := by
  cases hr : x.tmod 4 != 0 with
  | true =>
    by_cases h2 : x < 0
    · exact words_neg_odn f k m y he m1 m2 hy y0 y1 hk k1 k2 x v w hr h2
    · exact words_neg_odp f k m y he m1 m2 hy y0 y1 hk k1 k2 x v w hr (by omega)
  | false =>
    by_cases h2 : x < 0
    · exact words_neg_neg f k m y he m1 m2 hy y0 y1 hk k1 k2 x v w hr h2
    · by_cases h3 : ((k * 256 : Nat) : Int) < x
      · exact words_neg_far f k m y he m1 m2 hy y0 y1 hk k1 k2 x v w hr (by omega) h3 (by omega)
      · by_cases h4 : ((k * 256 : Nat) : Int) - x < 4
        · exact words_neg_end f k m y he m1 m2 hy y0 y1 hk k1 k2 x v w hr (by omega) h3 h4 (by omega)
        · obtain ⟨a, rfl⟩ := Int.eq_ofNat_of_zero_le (show 0 ≤ x by omega)
          have h0 : a % 4 = 0 := by
            rw [Int.tmod_eq_emod_of_nonneg (by omega)] at hr
            have : ((a : Int) % 4) = 0 := by simpa using hr
            omega
          exact words_neg_ok f k m y he m1 m2 hy y0 y1 hk k1 k2 a v w hv h0 (by omega)
theorem words_walk (f x v : Int) (hv : word v) (w : World) : Calls Try.prog 4 #[.int .i64 f, .int .i64 x, .int .u32 v] w fun e w' => e = .returned (.bool true) ∧ Below w.heap.size w w' := by
  have b1 := Int.tmod_lt_of_pos f (show (0 : Int) < 64 by decide)
  have b2 : -64 < f.tmod 64 := by
    have := Int.lt_tmod_of_pos f (show (0 : Int) < 64 by decide)
    omega
  by_cases h : f.tmod 64 < 1
  · have hy0 : 0 ≤ f.tmod 64 * f.tmod 64 := by
      rcases Int.le_total 0 (f.tmod 64) with h | h
      · exact Int.mul_nonneg h h
      · exact Int.mul_nonneg_of_nonpos_of_nonpos h h
    have hy1 : f.tmod 64 * f.tmod 64 ≤ 4096 := by
      have e : f.tmod 64 * f.tmod 64 = (-(f.tmod 64)) * (-(f.tmod 64)) := by rw [Int.neg_mul_neg]
      rw [e]
      exact Int.le_trans (Int.mul_le_mul (show -(f.tmod 64) ≤ 64 by omega) (show -(f.tmod 64) ≤ 64 by omega) (by omega) (by decide)) (by decide)
    obtain ⟨k, hk⟩ := Int.eq_ofNat_of_zero_le (show 0 ≤ (f.tmod 64 * f.tmod 64) % 64 + 1 by omega)
    exact words_neg f k _ _ rfl h b2 rfl hy0 hy1 hk (by omega) (by omega) x v hv w
  · obtain ⟨k, hk⟩ := Int.eq_ofNat_of_zero_le (show 0 ≤ f.tmod 64 by omega)
    exact words_pos f k hk (by omega) (by omega) x v hv w
end Go.Proofs.Ytkamalaideimgaa
