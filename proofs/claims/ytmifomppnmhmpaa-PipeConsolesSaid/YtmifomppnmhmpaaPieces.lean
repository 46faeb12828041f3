import Derived.Test.YtmifomppnmhmpaaOwn
import Derived.Deep.LoopGhost
import Derived.Deep.Cut
import Derived.Deep.CutRange
import Derived.Deep.DeepMust
/- PipePieces. -/
namespace Go.Proofs.Ytmifomppnmhmpaa
open Go.RowKit
set_option linter.unusedVariables false
set_option linter.unusedSimpArgs false
attribute [local go_sem] szIs_lit row_at row_past row_alloc nf_alloc row_set nf_set row_cell nf_cell row_drew nf_drew row_drewN nf_drewN cell_setRow frozen_setRow nlt1 nlt2 nlt3 nlt4 nne1 nne2 nne3 nen1 nen2 nen3
attribute [local go_sem] rg_setf rg_setn rg_setm

theorem cut26lh (A : Option Addr) (len cap lo n : Nat) (h : lo + n ≤ cap) : ∃ A', (∀ w : World, (Instr.slice 26 (.slice A len cap) (some (.int .i64 (lo : Int))) (some (.int .i64 ((lo : Int) + (n : Int)))) none).run Try.prog w = .ok (.slice A' n (cap - lo)) w) ∧ (0 < n → A' = A.map (·.add lo)) := by
  have h26 : Try.prog.underlying 26 = some (.slice (Try.prog.elem 26)) := by kernel_rfl
  have he : ∀ w : World, (sizeOf (Try.prog.elem 26)).run Try.prog w = .ok 1 w := fun w => by kernel_rfl
  refine ⟨if cap = lo then A else A.map (·.add lo), fun w => ?_, fun h2 => by rw [if_neg (by omega)]⟩
  have := run_slice_lh (P := Try.prog) w 26 A len cap h26 .i64 .i64 (lo : Int) ((lo : Int) + (n : Int)) (by omega) (by omega) (by omega)
  rw [this, he w]
  have e : ((lo : Int) + (n : Int)).toNat = lo + n := by omega
  simp [sliced, Result.andThen, e]
theorem Nums.at_ {w : World} {B len cap : Nat} {a : Option Addr} {Y : Nat → Int} (h : Nums .i64 w B a len cap Y) (i : Nat) (hl : 0 < len) : ∃ ad j, a = some ad ∧ (i : Int) % (len : Int) = ((j : Nat) : Int) ∧ j < len ∧ w.cell? (ad.add j) = some (.int .i64 (Y j)) ∧ Y j ≤ 9223372036854775807 := by
  obtain ⟨ad, e, _, hc⟩ := h.2.2.2 hl
  have hj : i % len < len := Nat.mod_lt _ hl
  refine ⟨ad, i % len, e, by omega, hj, hc _ hj, ?_⟩
  have := h.2.2.1 (i % len)
  simp [Lit.wf, IntKind.min, IntKind.max, IntKind.signed, IntKind.bits] at this
  omega
theorem ty26 : Try.prog.underlying 26 = some (.slice 5) := u26
theorem i5 : (Try.prog.info? 5).map (fun i => (i.zero, i.size, i.bytes)) = some (some (.int .u8 0), 1, 1) := by kernel_rfl
theorem PipeAt.heap {w w1 : World} {g m n : Nat} {Q : Nat → Int} {r s : Int} (h : PipeAt w g m Q n r s) (h1 : w1.heap[g]? = w.heap[g]?) (h2 : w1.heap[m]? = w.heap[m]?) : PipeAt w1 g m Q n r s := by
  obtain ⟨B, f, hb, hm, hr⟩ := h
  exact ⟨B, f, ⟨(row_heap h1).trans hb.1, (nf_heap h1).trans hb.2⟩, h2.trans hm, hr⟩
theorem PipeAt.le5 {w : World} {g m n : Nat} {Q : Nat → Int} {r s : Int} (h : PipeAt w g m Q n r s) : n ≤ 512 := by
  obtain ⟨_, _, _, _, _, h, _⟩ := h
  exact h
theorem Nums.pick {w : World} {B len cap : Nat} {a : Option Addr} {Y : Nat → Int} (h : Nums .i64 w B a len cap Y) (i : Nat) :
    ∃ β : Bool, (β = false → ¬ 0 < len ∨ (0 < len ∧ ∃ ad j, a = some ad ∧ (i : Int) % (len : Int) = ((j : Nat) : Int) ∧ j < len ∧ w.cell? (ad.add j) = some (.int .i64 (Y j)) ∧ Y j ≤ 0)) ∧
          (β = true → 0 < len ∧ ∃ ad j, a = some ad ∧ (i : Int) % (len : Int) = ((j : Nat) : Int) ∧ j < len ∧ w.cell? (ad.add j) = some (.int .i64 (Y j)) ∧ 0 < Y j ∧ Y j ≤ 9223372036854775807) := by
  by_cases hl : 0 < len
  · obtain ⟨ad, j, e, hj, hjl, hc, hm⟩ := h.at_ i hl
    by_cases hy : Y j ≤ 0
    · exact ⟨false, fun _ => .inr ⟨hl, ad, j, e, hj, hjl, hc, hy⟩, fun h => by cases h⟩
    · exact ⟨true, (fun h => by cases h), fun _ => ⟨hl, ad, j, e, hj, hjl, hc, by omega, hm⟩⟩
  · exact ⟨false, fun _ => .inl hl, fun h => by cases h⟩
set_option maxRecDepth 100000 in
set_option maxHeartbeats 2000000 in
theorem pieces_walk (A : Option Addr) (len cap : Nat) (Y : Nat → Int) (w : World) (hY : Nums .u8 w w.heap.size A len cap Y) (hsz : len * 1 ≤ reachBytes)
    (A1 : Option Addr) (len1 cap1 : Nat) (Y1 : Nat → Int) (hY1 : Nums .i64 w w.heap.size A1 len1 cap1 Y1) (A2 : Option Addr) (len2 cap2 : Nat) (Y2 : Nat → Int) (hY2 : Nums .i64 w w.heap.size A2 len2 cap2 Y2) :
    Calls Try.prog 4 #[.slice A len cap, .slice A1 len1 cap1, .slice A2 len2 cap2] w fun e w' => e = .returned (.bool true) ∧ Below w.heap.size w w' := by
  have hlc : len ≤ cap := hY.1
  have hcm : cap ≤ 9223372036854775807 := hY.2.1
  have hlm : len ≤ 140737488351232 := by unfold reachBytes at hsz; omega
  have hm1 : len1 ≤ 9223372036854775807 := Nat.le_trans hY1.1 hY1.2.1
  have hm2 : len2 ≤ 9223372036854775807 := Nat.le_trans hY2.1 hY2.2.1
  have H0 := Lib.hid hY
  have H1 := Lib.hid hY1
  have H2 := Lib.hid hY2
  clear hY hY1 hY2 hsz
  go_enter Try.func4, Try.ntmps4
  go_wp2_with fail
  refine (new_ok _).mono ?_
  rintro e w1 ⟨g, m, rfl, hg, hm, hP, hB⟩
  have HP1 := Lib.hid hP
  have HB1 := Lib.hid hB
  clear hP hB
  go_wp2_with fail
  refine (lives_ok _).mono ?_
  rintro e w2 ⟨rfl, hB⟩
  have HP2 := Lib.hid (HP1.out.below hB HP1.out.lt.1 HP1.out.lt.2)
  have HB2 := Lib.hid (HB1.out.trans (hB.mono HB1.out.size))
  clear hB HP1 HB1
  go_wp2_with fail
  go_loopg [8, 9, 10, 11] len (fun k got at_ i1 i2 wr => ∃ (G : Option Addr) (gn gc a x1 x2 : Nat), got = .slice G gn gc ∧ at_ = .int .i64 (a : Int) ∧ i1 = .int .i64 (x1 : Int) ∧ i2 = .int .i64 (x2 : Int) ∧ k = len - gn ∧ gn ≤ a ∧ a ≤ len ∧ x1 ≤ gn ∧ x2 ≤ gn ∧
    Own wr w.heap.size 5 G gn gc (fun j => .int .u8 (Y j)) ∧ PipeAt wr g m (fun j => Y (gn + j)) (a - gn) 1 1 ∧ inB G ≠ some g ∧ inB G ≠ some m ∧ Below w.heap.size w wr)
  case atStart => exact ⟨none, 0, 0, 0, 0, 0, rfl, rfl, rfl, rfl, rfl, by omega, by omega, by omega, by omega, Own.nil _ _ _ _, HP2.out.ext fun i hi => by omega, by simp [inB], by simp [inB], HB2.out⟩
  case round =>
    obtain ⟨G, gn, gc, a, x1, x2, rfl, rfl, rfl, rfl, hk, hga, hal, hx1, hx2, hO, hP, ng, nm, hB⟩ := hrel
    have HO := Lib.hid hO
    have HP := Lib.hid hP
    have HB := Lib.hid hB
    have HNG := Lib.hid ng
    have HNM := Lib.hid nm
    have HK := Lib.hid hk
    clear hO hP hB ng nm hk
    by_cases hlt : gn < len
    · have hpick1 : ∃ β : Bool, (β = false → ¬ 0 < len1 ∨ (0 < len1 ∧ ∃ ad j, A1 = some ad ∧ (x1 : Int) % (len1 : Int) = ((j : Nat) : Int) ∧ j < len1 ∧ wr.cell? (ad.add j) = some (.int .i64 (Y1 j)) ∧ Y1 j ≤ 0)) ∧
          (β = true → 0 < len1 ∧ ∃ ad j, A1 = some ad ∧ (x1 : Int) % (len1 : Int) = ((j : Nat) : Int) ∧ j < len1 ∧ wr.cell? (ad.add j) = some (.int .i64 (Y1 j)) ∧ 0 < Y1 j ∧ Y1 j ≤ 9223372036854775807) := (H1.out.below HB.out).pick x1
      obtain ⟨β1, hf1, ht1⟩ := hpick1
      have HF1 := Lib.hid hf1
      have HT1 := Lib.hid ht1
      clear hf1 ht1
      go_upto_region 8 with (fail)
      go_cut [40] from 23 to 140 (fun b wx => b = .bool β1 ∧ wr = wx)
      case first =>
        cases β1 with
        | true =>
          obtain ⟨h0, ad, j, hA, hj, hjl, hc, hp, hx⟩ := HT1.out rfl
          subst hA
          go_wp2_with fail
          go_meet
          exact ⟨rfl, rfl⟩
        | false =>
          rcases HF1.out rfl with h0 | ⟨h0, ad, j, hA, hj, hjl, hc, hp⟩
          · go_wp2_with fail
            go_meet
            exact ⟨rfl, rfl⟩
          · subst hA
            go_wp2_with fail
            go_meet
            exact ⟨by simp; omega, rfl⟩
      case rest =>
        obtain ⟨rfl, rfl⟩ := hcut
        go_upto_if 40 with (fail)
        go_cut [12] from 23 to 140 (fun n wx => ∃ N : Int, n = .int .i64 N ∧ 1 ≤ N ∧ N ≤ 9223372036854775807 ∧ wr = wx)
        case first =>
          cases β1 with
          | true =>
            obtain ⟨h0, ad, j, hA, hj, hjl, hc, hp, hx⟩ := HT1.out rfl
            subst hA
            go_wp2_with fail
            go_meet
            exact ⟨_, rfl, by omega, hx, rfl⟩
          | false =>
            go_wp2_with fail
            go_meet
            exact ⟨1, rfl, by omega, by omega, rfl⟩
        case rest =>
          obtain ⟨N0, rfl, hN0, hN1, rfl⟩ := hcut
          go_upto_if 55 with (fail)
          go_cut [12] from 23 to 140 (fun n wx => ∃ N : Nat, n = .int .i64 (N : Int) ∧ a + N ≤ len ∧ (a < len → 1 ≤ N) ∧ wr = wx)
          case first =>
            by_cases hcl : (len : Int) - (a : Int) < N0
            · go_wp2_with fail
              go_meet
              exact ⟨len - a, by congr 1; omega, by omega, by omega, rfl⟩
            · obtain ⟨K, rfl⟩ : ∃ K : Nat, N0 = K := ⟨N0.toNat, by omega⟩
              go_wp2_with fail
              go_meet
              exact ⟨K, rfl, by omega, by omega, rfl⟩
          case rest =>
            obtain ⟨N, rfl, hN2, hN3, rfl⟩ := hcut
            obtain ⟨A', hA, hA'⟩ := cut26lh A len cap a N (by omega)
            have HA' := Lib.hid hA'
            clear hA'
            have hsrc : Src wr g A' N (fun i => Y (a + i)) := fun hn => by
              obtain ⟨ad, e, hb, hc⟩ := (H0.out.below HB.out).2.2.2 (by omega)
              exact ⟨ad.add a, by rw [HA'.out hn, e]; rfl, by rw [block_of_add]; omega, fun i hi => by rw [add_of_add]; exact hc _ (by omega)⟩
            have HSRC := Lib.hid hsrc
            clear hsrc
            go_wp2_with fail
            refine (write_any g m (a - gn) _ 1 1 wr HP.out A' N (cap - a) _ (by omega) (by omega) (by omega) HSRC.out).mono ?_
            rintro e w4 ⟨rfl, hP, hK⟩
            have hc1 : wrote 1 (a - gn) N = min N (512 - (a - gn)) := by unfold wrote; rw [if_neg (by omega)]
            have hcE : wroteE 1 (a - gn) N = 0 ∨ wroteE 1 (a - gn) N = 211 := by
              unfold wroteE; rw [if_neg (by omega)]
              by_cases h1 : N = 0
              · exact .inl (if_pos h1)
              · rw [if_neg h1]
                by_cases h2 : a - gn = 512
                · exact .inr (if_pos h2)
                · exact .inl (if_neg h2)
            have hp5 := HP.out.le5
            generalize hcc : wrote 1 (a - gn) N = c at *
            generalize wroteE 1 (a - gn) N = E at *
            have hcN : c ≤ N := by omega
            have hn4 : 0 < a - gn + c := by omega
            have hcl : a + c ≤ len := by omega
            have hc5 : c ≤ 512 := by omega
            have HP4 := Lib.hid (show PipeAt w4 g m (fun j => Y (gn + j)) (a - gn + c) 1 1 from hP.ext fun i hi => by
              unfold cat
              by_cases h : i < a - gn
              · rw [if_pos h]
              · rw [if_neg h]; exact congrArg Y (by omega))
            have HO4 := Lib.hid (HO.out.heap (w' := w4) fun k hk => hK.block k (HO.out.lt k hk).2 (fun e => HNG.out (by rw [hk, e])) (fun e => HNM.out (by rw [hk, e])))
            have HB4 := Lib.hid (HB.out.trans (hK.below hg hm HB.out.size))
            have HE := Lib.hid hcE
            clear hP hK hc1 hcc hcE HSRC hp5 hN3
            go_upto_region 14 with (fail)
            go_cut [85] from 23 to 140 (fun b wx => b = .bool false ∧ w4 = wx)
            case first =>
              rcases HE.out with rfl | rfl
              · go_wp2_with fail
                go_meet
                exact ⟨by simp; omega, rfl⟩
              · go_wp2_with fail
                go_meet
                exact ⟨by simp; omega, rfl⟩
            case rest =>
              obtain ⟨rfl, rfl⟩ := hcut
              have hpick2 := (H2.out.below HB4.out).pick x2
              obtain ⟨β2, hf2, ht2⟩ := hpick2
              have HF2 := Lib.hid hf2
              have HT2 := Lib.hid ht2
              clear hf2 ht2
              go_upto_region 18 with (fail)
              go_cut [101] from 23 to 140 (fun b wx => b = .bool β2 ∧ w4 = wx)
              case first =>
                cases β2 with
                | true =>
                  obtain ⟨h0, ad, j, hA, hj, hjl, hc, hp, hx⟩ := HT2.out rfl
                  subst hA
                  go_wp2_with fail
                  go_meet
                  exact ⟨rfl, rfl⟩
                | false =>
                  rcases HF2.out rfl with h0 | ⟨h0, ad, j, hA, hj, hjl, hc, hp⟩
                  · go_wp2_with fail
                    go_meet
                    exact ⟨rfl, rfl⟩
                  · subst hA
                    go_wp2_with fail
                    go_meet
                    exact ⟨by simp; omega, rfl⟩
              case rest =>
                obtain ⟨rfl, rfl⟩ := hcut
                go_upto_if 101 with (fail)
                go_cut [12] from 23 to 140 (fun n wx => ∃ N : Int, n = .int .i64 N ∧ 1 ≤ N ∧ N ≤ 9223372036854775807 ∧ w4 = wx)
                case first =>
                  cases β2 with
                  | true =>
                    obtain ⟨h0, ad, j, hA, hj, hjl, hc, hp, hx⟩ := HT2.out rfl
                    subst hA
                    go_wp2_with fail
                    go_meet
                    exact ⟨_, rfl, by omega, hx, rfl⟩
                  | false =>
                    go_wp2_with fail
                    go_meet
                    exact ⟨1, rfl, by omega, by omega, rfl⟩
                case rest =>
                  obtain ⟨M, rfl, hM0, hM1, rfl⟩ := hcut
                  go_wp2_with fail
                  refine (read_any g m _ _ 1 1 w4 HP4.out M (by omega)).mono ?_
                  rintro e w5 ⟨A5, rfl, hA5, _, hP, hK⟩
                  have ht : took (a - gn + c) M = min M.toNat (a - gn + c) := by unfold took; rw [if_neg (by omega)]
                  have htE : tookE 1 (a - gn + c) M = 0 := by unfold tookE; rw [if_neg (by omega), if_neg (by omega), if_neg (by omega)]
                  rw [htE]
                  generalize took (a - gn + c) M = T at *
                  have hT0 : 0 < T := by omega
                  have hTM : (T : Int) ≤ M := by omega
                  have hTn : T ≤ a - gn + c := by omega
                  have hTz : ((T : Int) == 0) = false := beq_eq_false_iff_ne.2 (by omega)
                  obtain ⟨rfl, hblk⟩ := hA5 hT0
                  have HR5 := Lib.hid (show RdV w5 (some ⟨w4.heap.size, 0, none⟩) T (fun i => .int .u8 (Y (gn + i))) from fun hn => by
                    obtain ⟨ad, e, hc⟩ := Rd.of_blk (Q := fun j => Y (gn + j)) (fun _ => hblk) hn
                    exact ⟨ad, e, fun i hi => ⟨hc i hi, rfl⟩⟩)
                  have HP5 := Lib.hid (show PipeAt w5 g m (fun j => Y (gn + T + j)) (a + c - (gn + T)) 1 1 from by
                    have e : a - gn + c - T = a + c - (gn + T) := by omega
                    rw [← e]
                    exact hP.ext fun i hi => congrArg Y (by omega))
                  have HO5 := Lib.hid (HO4.out.heap (w' := w5) fun k hk => hK.block k (HO4.out.lt k hk).2 (fun e => HNG.out (by rw [hk, e])) (fun e => HNM.out (by rw [hk, e])))
                  have HB5 := Lib.hid (HB4.out.trans (hK.below hg hm HB4.out.size))
                  clear hP hK ht htE hA5 hblk hn4
                  generalize w4.heap.size = h4 at *
                  have HL1 := Lib.hid (show gn + T ≤ maxLen by unfold maxLen; omega)
                  have HL2 := Lib.hid (show (gn + T) * 1 ≤ 140737488355328 by omega)
                  obtain ⟨gl5, ml5⟩ := HP5.out.lt
                  go_wp2_with (at_builtin; go_must (refine wpList_app rfl (.tmp 138) (.tmp 139) 26 5 rfl (.int .u8 0) 1 ty26 i5 rfl w.heap.size _ _ _ rfl _ _ _ rfl _ HO5.out _ HR5.out HL1.out HL2.out HB5.out.size ?_; intro A6 c6 w6 hO6 hg6 hb6))
                  have hB6 : Below w.heap.size w w6 := HB5.out.trans (Below.grown (Below.refl _ _) hg6 HB5.out.size (fun k hk => (HO5.out.lt k hk).1))
                  have hP6 : PipeAt w6 g m (fun j => Y (gn + T + j)) (a + c - (gn + T)) 1 1 := HP5.out.heap (hg6.block g gl5 (fun e => HNG.out e.symm)) (hg6.block m ml5 (fun e => HNM.out e.symm))
                  go_roundg (len - (gn + T))
                  case measure => have := HK.out; omega
                  case rel =>
                    exact ⟨A6, gn + T, c6, a + c, x1 + 1, x2 + 1, rfl, by go_num, by go_num, by go_num, rfl, by omega, by omega, by omega, by omega, hO6.ext (fun i hi => by
                      unfold catV
                      by_cases h : i < gn
                      · rw [if_pos h]
                      · rw [if_neg h]; show Value.int .u8 (Y (gn + (i - gn))) = _; rw [show gn + (i - gn) = i by omega]), hP6, (by rcases hb6 with e | e <;> rw [e]; exact HNG.out; intro e; injection e; omega), (by rcases hb6 with e | e <;> rw [e]; exact HNM.out; intro e; injection e; omega), hB6⟩
    · obtain rfl : gn = len := by omega
      obtain rfl : a = gn := by omega
      have HR := Lib.hid (show Rd wr G a Y from fun hn => by obtain ⟨g0, h1, h2⟩ := HO.out.cells hn; exact ⟨_, h1, h2⟩)
      have HR2 := Lib.hid (show Rd wr A a Y from fun hn => by obtain ⟨ad, h1, _, h2⟩ := (H0.out.below HB.out).2.2.2 hn; exact ⟨_, h1, h2⟩)
      go_wp2_with fail
      refine (same_yes G A a gc cap Y Y wr HR.out HR2.out (fun i hi => rfl)).mono ?_
      rintro e w3 ⟨rfl, rfl⟩
      go_wp2
      go_ret
      exact ⟨by simp, HB.out⟩
end Go.Proofs.Ytmifomppnmhmpaa
