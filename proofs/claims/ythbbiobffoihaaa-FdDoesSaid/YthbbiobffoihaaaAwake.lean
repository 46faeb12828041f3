import Derived.Test.YthbbiobffoihaaaTab5
import Derived.Deep.QuietTactic
import Derived.BigQuiet
/- sameInts; the chapter's example. -/
namespace Go.Proofs.Ythbbiobffoihaaa
open Go.RowKit Go.BigFrame
set_option linter.unusedVariables false
set_option linter.unusedSimpArgs false
attribute [local go_sem] szIs_lit row_at row_past row_alloc nf_alloc row_set nf_set row_cell nf_cell row_drew nf_drew row_drewN nf_drewN cell_setRow frozen_setRow nlt1 nlt2 nlt3 nlt4 nne1 nne2 nne3 nen1 nen2 nen3
set_option maxRecDepth 20000
theorem below_drewN' (w : World) (n : Nat) : Below w.heap.size w (w.drewN n) := ⟨rfl, rfl, rfl, Nat.le_refl _, fun _ _ => rfl⟩
set_option maxHeartbeats 1000000 in
theorem same_ok (A B : Option Addr) (c d : Nat) (l k : List Int) (w : World) (h : Rw w 3 1 A l.length c (iv l)) (h2 : Rw w 3 1 B k.length d (iv k)) (hl : l.length ≤ 1000) : Calls Try.prog 36 #[.slice A l.length c, .slice B k.length d] w fun e w' => e = .returned (.bool (decide (l = k))) ∧ Below w.heap.size w w' := by
  by_cases hlen : l.length = k.length
  · have HH := Lib.hid h
    have HH2 := Lib.hid h2
    have HL := Lib.hid hlen
    clear h h2
    rw [← hlen]
    clear hlen
    go_enter Try.func36, Try.ntmps36
    go_wp2_with fail
    go_loopg [13] l.length (fun r i_ wr => ∃ (j : Nat), i_ = .int .i64 (j : Int) ∧ r = l.length - j ∧ j ≤ l.length ∧ (∀ i, i < j → l[i]? = k[i]?) ∧ ∃ n, wr = w.drewN n)
    case atStart => exact ⟨0, rfl, rfl, by omega, fun i hi => by omega, 0, rfl⟩
    case round =>
      obtain ⟨j, rfl, hk, hj, hq, m, rfl⟩ := hrel
      have HK := Lib.hid (And.intro hk hq)
      clear hk hq
      by_cases hlt : j < l.length
      · obtain ⟨x, hx⟩ : ∃ x, l[j]? = some x := ⟨_, List.getElem?_eq_getElem hlt⟩
        obtain ⟨y, hy⟩ : ∃ y, k[j]? = some y := ⟨_, List.getElem?_eq_getElem (by have := HL.out; omega)⟩
        obtain ⟨b, rfl⟩ := HH.out.some_ (by omega)
        obtain ⟨b2, rfl⟩ := HH2.out.some_ (by have := HL.out; omega)
        have e1 : w.cell? ⟨b, j, none⟩ = some (.int .i64 x) := (HH.out.cell j (by omega)).trans (iv_get hx)
        have e2 : w.cell? ⟨b2, j, none⟩ = some (.int .i64 y) := (HH2.out.cell j (by have := HL.out; omega)).trans (iv_get hy)
        have HX := Lib.hid (And.intro hx hy)
        have hw : IntKind.i64.wrap ((j : Int) + 1) = (j : Int) + 1 := IntWalk.i64_in _ (by omega)
        clear hx hy
        by_cases hxy : x = y
        · subst hxy
          go_wp2_with fail
          go_quiet (fail)
          go_wp2_with fail
          go_roundg (l.length - (j + 1))
          case measure => have := HK.out.1; omega
          case rel =>
            refine ⟨j + 1, by first | rfl | go_num, rfl, by omega, fun i hi => ?_, _, rfl⟩
            rcases Nat.lt_or_ge i j with h4 | h4
            · exact HK.out.2 i h4
            · obtain rfl : i = j := by omega
              rw [HX.out.1, HX.out.2]
        · have hne : (x == y) = false := by simpa using hxy
          have HN := Lib.hid hxy
          clear hxy
          go_wp2_with fail
          go_quiet (fail)
          go_wp2_with fail
          go_ret
          refine ⟨?_, ⟨rfl, rfl, rfl, Nat.le_refl _, fun _ _ => rfl⟩⟩
          have : decide (l = k) = false := by
            simp only [decide_eq_false_iff_not]
            rintro rfl
            have h1 := HX.out.1
            rw [HX.out.2] at h1
            injection h1 with h1
            exact HN.out h1.symm
          rw [this]; first | rfl | simp
      · obtain rfl : j = l.length := by omega
        go_wp2_with fail
        go_ret
        refine ⟨?_, ⟨rfl, rfl, rfl, Nat.le_refl _, fun _ _ => rfl⟩⟩
        have : decide (l = k) = true := by
          simp only [decide_eq_true_eq]
          apply List.ext_getElem?
          intro i
          rcases Nat.lt_or_ge i l.length with h4 | h4
          · exact HK.out.2 i h4
          · rw [List.getElem?_eq_none h4, List.getElem?_eq_none (by have := HL.out; omega)]
        rw [this]; first | rfl | simp
  · have hd : decide (l = k) = false := by
      simp only [decide_eq_false_iff_not]
      rintro rfl; exact hlen rfl
    rw [hd]
    have hl2 : (((l.length : Int)) == ((k.length : Int))) = false := by simp; omega
    clear h h2 hd hlen
    go_enter Try.func36, Try.ntmps36
    go_wp2_with fail
    go_ret
    exact ⟨by first | rfl | simp, Below.refl _ _⟩
theorem bs56_2 (x y : Int) (w : World) : (Instr.buildSlice 56 2 #[(0, .int .i64 x), (1, .int .i64 y)]).run Try.prog w = .ok (.slice (some ⟨w.heap.size, 0, none⟩) 2 2) (w.alloc (.cells #[.int .i64 x, .int .i64 y] 3)) := by
  simp [go_sem]
theorem not_all {g m t : Nat} {L : PL Fl} (h1 : t ≠ g) (h2 : t ≠ m) (h3 : t ∉ PL.bs L) : ¬ FR.all g m L t := by
  rintro (e | e | e)
  · exact h1 e
  · exact h2 e
  · exact h3 e
set_option maxHeartbeats 4000000 in
theorem awake_ok (w : World) : Calls Try.prog 18 #[] w fun e w' => e = .returned (.bool true) ∧ Below w.heap.size w w' := by
  go_enter Try.func18, Try.ntmps18
  go_wp2_with fail
  refine (new_ok w).mono ?_
  rintro e w1 ⟨rfl, hF1, hB1⟩
  have HF1 := Lib.hid hF1
  have HB1 := Lib.hid hB1
  have hg1 : w.heap.size + 1 < w1.heap.size := hF1.lt (.inl rfl)
  clear hF1 hB1
  go_wp2_with fail
  refine (table_ok HF1.out).mono ?_
  rintro e w2 ⟨rfl, hT2, hB2⟩
  have HT2 := Lib.hid hT2
  have HB2 := Lib.hid (HB1.out.trans (hB2.mono HB1.out.size))
  have HF2 := Lib.hid (HF1.out.below hB2)
  have ht2 : w1.heap.size < w2.heap.size := hT2.lt
  clear hT2 hB2
  go_wp2_with fail
  refine (open_yes HF2.out 1 5 0 (by omega) (by omega) (by simp)).mono ?_
  rintro e w3 ⟨i, hi, hg0, hmin, rfl, hF3, hC3⟩
  obtain rfl : i = 0 := by
    rcases Nat.eq_zero_or_pos i with h | h
    · exact h
    · exact absurd rfl (hmin 0 h)
  have hT3 := HT2.out.ch hC3 (show ¬ w1.heap.size = w.heap.size by omega)
  have hB3 : Below w.heap.size w w3 := HB2.out.trans (hC3.below (fun k hk q => by omega) HB2.out.size)
  simp only [List.nil_append] at hF3
  have hn3 : ¬ FR.all (w.heap.size + 1) w.heap.size [(((0 : Nat) : Int), w2.heap.size, (⟨1, 5, 0, 0, 1⟩ : Fl))] w1.heap.size := not_all (by omega) (by omega) (by simp [PL.bs]; omega)
  clear hg0 hmin hC3 hi
  generalize hgd : w.heap.size + 1 = g at *
  generalize hmd : w.heap.size = m at *
  generalize htd : w1.heap.size = t at *
  generalize hbd : w2.heap.size = b at *
  have HF3 := Lib.hid hF3
  have HT3 := Lib.hid hT3
  have HB3 := Lib.hid hB3
  have HN3 := Lib.hid hn3
  have HX := Lib.hid (And.intro hg1 (And.intro ht2 (And.intro hgd hmd)))
  clear hF3 hT3 hB3 hn3 hgd hmd htd hbd hg1 ht2 HF1 HB1 HF2 HT2 HB2
  go_wp2_with fail
  refine (inst_ok (x := 0) (b := b) (f := ⟨1, 5, 0, 0, 1⟩) (j := 0) HT3.out HF3.out rfl rfl).mono ?_
  rintro e w4 ⟨rfl, hT4, hC4⟩
  have hF4 := HF3.out.ch hC4 (fun k q e => HN3.out (e ▸ q))
  have HT4 := Lib.hid hT4
  have HF4 := Lib.hid hF4
  have HB4 := Lib.hid (HB3.out.trans (hC4.below (B := m) (fun k hk q => by have := HX.out; omega) (by have := HB3.out.size; have := HX.out; omega)))
  clear hT4 hC4 hF4
  go_wp2_with fail
  refine (dup_ok (i := 0) (x := 0) (b := b) (j := 1) HT4.out HF4.out HN3.out rfl (by decide) 1 5 0 0 1 rfl (by decide) (by decide) (by rfl)).mono ?_
  rintro e w5 ⟨rfl, hT5, hF5, hC5⟩
  have HT5 := Lib.hid hT5
  have HF5 := Lib.hid hF5
  have hmm : m < w4.heap.size := HF4.out.lt (.inr (.inl rfl))
  have HB5 := Lib.hid (HB4.out.trans (hC5.below (B := m) (fun k hk q => by
    have := HX.out
    rcases q with q | q | q
    · omega
    · omega
    · simp [PL.bs] at q; omega) (by omega)))
  clear hT5 hF5 hC5 hmm
  go_wp2_with fail
  refine (fork_ok HT5.out HF5.out (fun q => HN3.out (FR.all_set q)) (fun x q hq => ?_)).mono ?_
  · rw [PL.get_set] at hq
    split at hq
    · simp [PL.get] at hq; subst hq; simp
    · rename_i hx
      simp [PL.get, Ne.symm hx] at hq
  rintro e w6 ⟨rfl, hC6, hT6, hF6, hCh6⟩
  have hmm : m < w5.heap.size := HF5.out.lt (.inr (.inl rfl))
  have htt : t < w5.heap.size := HT5.out.lt
  have hbc : b < w5.heap.size := HF5.out.lt (.inr (.inr (by rw [PL.bs_set]; simp [PL.bs])))
  have hLL : bumps (PL.set [(((0 : Nat) : Int), b, (⟨1, 5, 0, 0, 1⟩ : Fl))] 0 ⟨1, 5, 0, 0, 1 + 1⟩) (((List.replicate 16 (-1)).set 0 0).set 1 0) = [(0, b, ⟨1, 5, 0, 0, 4⟩)] := by kernel_rfl
  rw [hLL] at hF6
  have HB6 := Lib.hid (HB5.out.trans (hCh6.below (B := m) (fun k hk q => by
    have := HX.out
    rcases q with q | q
    · omega
    · rw [PL.bs_set] at q; simp [PL.bs] at q; omega) (by omega)))
  generalize hcd : w5.heap.size = c at *
  have HC6 := Lib.hid hC6
  have HT6 := Lib.hid hT6
  have HF6 := Lib.hid hF6
  have HTC := Lib.hid (And.intro (show t < c from htt) (show b < c from hbc))
  clear hC6 hT6 hF6 hCh6 hmm htt hLL hcd
  go_wp2_with fail
  refine (close_yes (i := 0) (x := 0) (b := b) HT6.out HF6.out (fun q => HN3.out (by unfold FR.all PL.foot PL.bs at q ⊢; simpa using q)) rfl (by decide) 1 5 0 0 4 rfl (by decide) (by decide)).mono ?_
  rintro e w7 ⟨rfl, hT7, hF7, hCh7⟩
  have hmm : m < w6.heap.size := HF6.out.lt (.inr (.inl rfl))
  have hbb : b < w6.heap.size := HF6.out.lt (.inr (.inr (by simp [PL.bs])))
  have hcc : c < w6.heap.size := HC6.out.lt
  have HB7 := Lib.hid (HB6.out.trans (hCh7.below (B := m) (fun k hk q => by
    have := HX.out
    rcases q with q | q | q
    · omega
    · omega
    · simp [PL.bs] at q; omega) (by omega)))
  have HC7 := Lib.hid (HC6.out.ch hCh7 (fun q => by
    have := HX.out
    have := HTC.out
    rcases q with q | q | q
    · omega
    · omega
    · simp [PL.bs] at q; omega))
  have HT7 := Lib.hid hT7
  clear hT7 hF7 hCh7 hbb hcc
  have hk : Blk (w7.alloc (.cells #[.int .i64 0, .int .i64 0, .int .i64 0, .int .i64 0, .int .i64 0] 40)) w7.heap.size #[.int .i64 0, .int .i64 0, .int .i64 0, .int .i64 0, .int .i64 0] := Blk.of_heap (heap_at rfl)
  have hb8 : Below w7.heap.size w7 (w7.alloc (.cells #[.int .i64 0, .int .i64 0, .int .i64 0, .int .i64 0, .int .i64 0] 40)) := (Below.refl _ _).alloc (Nat.le_refl _) _
  obtain ⟨w9, s1, s2, s3, s4⟩ := store5 (w7.alloc (.cells #[.int .i64 0, .int .i64 0, .int .i64 0, .int .i64 0, .int .i64 0] 40)) w7.heap.size 0 0 0 0 0 1 5 0 0 3 hk
  have hb9 : Below w7.heap.size w7 w9 := hb8.trans (s3.below (B := w7.heap.size) (fun k hk q => by omega) hb8.size)
  have HB9 := Lib.hid (HB7.out.trans (hb9.mono (by have := HB7.out.size; have := HX.out; omega)))
  have HC9 := Lib.hid (HC7.out.below hb9)
  have HT9 := Lib.hid (HT7.out.below hb9)
  have hc4 : w9.cell? ⟨w7.heap.size, 4, none⟩ = some (.int .i64 3) := (s2.all.2.2.1 4).trans rfl
  clear hk hb8 hb9 s2 s3 s4 hmm
  generalize hu8 : w7.alloc (.cells #[.int .i64 0, .int .i64 0, .int .i64 0, .int .i64 0, .int .i64 0] 40) = w8 at *
  go_wp2_with (first | (rw [hu8]) | (refine wpList_runU rfl (s := Instr.storeAt 40 (.pointer (some ⟨w7.heap.size, 0, none⟩)) (.agg #[.int .i64 1, .int .i64 5, .int .i64 0, .int .i64 0, .int .i64 3])) (by kernel_rfl) s1 ?_) | fail)
  clear hu8 s1
  refine (fds_ok HC9.out).mono ?_
  rintro e w10 ⟨A, d, rfl, hr, hb, _⟩
  have HR := Lib.hid hr
  have hfd : fdl (((List.replicate 16 (-1)).set 0 0).set 1 0) 16 = [0, 1] := by kernel_rfl
  rw [hfd] at hr ⊢
  have HB10 := Lib.hid (HB9.out.trans (hb.mono (by have := HB9.out.size; have := HX.out; omega)))
  have HT10 := Lib.hid (HT9.out.below hb)
  have hb11 : Below w10.heap.size w10 (w10.alloc (.cells #[.int .i64 0, .int .i64 1] 3)) := (Below.refl _ _).alloc (Nat.le_refl _) _
  have hsm := same_ok A (some ⟨w10.heap.size, 0, none⟩) d 2 [0, 1] [0, 1] (w10.alloc (.cells #[.int .i64 0, .int .i64 1] 3)) (hr.below hb11) (Rw.fresh w10 3 #[.int .i64 0, .int .i64 1] 2 2 (Nat.le_refl _) (by unfold maxLen; omega) rfl) (by simp)
  have HS := Lib.hid (show Calls Try.prog 36 #[.slice A 2 d, .slice (some ⟨w10.heap.size, 0, none⟩) 2 2] (w10.alloc (.cells #[.int .i64 0, .int .i64 1] 3)) _ from hsm)
  have HB11 := Lib.hid (HB10.out.trans (hb11.mono (by have := HB10.out.size; have := HX.out; omega)))
  have HT11 := Lib.hid (HT10.out.below hb11)
  have hbs := bs56_2 0 1 w10
  generalize hu11 : w10.alloc (.cells #[.int .i64 0, .int .i64 1] 3) = w11 at *
  have HU := Lib.hid hu11
  clear hr HR hb hb11 hsm hfd hu11 hbc
  go_wp2_with (rw [HU.out])
  refine HS.out.mono ?_
  rintro e w12 ⟨rfl, hb⟩
  have hde : decide True = true := by decide
  rw [hde]
  have HB12 := Lib.hid (HB11.out.trans (hb.mono (by have := HB11.out.size; have := HX.out; omega)))
  have HT12 := Lib.hid (HT11.out.below hb)
  clear hb hde
  go_wp2_with fail
  refine (free_ok HT12.out).mono ?_
  rintro e w13 ⟨rfl, hb⟩
  have hfd : fdl ((((List.replicate 16 (-1)).set 0 0).set 1 0).set 0 (-1)) 16 = [1] := by kernel_rfl
  rw [hfd]
  have HB13 := Lib.hid (HB12.out.trans (hb.mono (by have := HB12.out.size; have := HX.out; omega)))
  clear hb hfd
  go_wp2_with fail
  go_ret
  exact ⟨by first | rfl | simp, by rw [HX.out.2.2.2]; exact HB13.out⟩
end Go.Proofs.Ythbbiobffoihaaa
