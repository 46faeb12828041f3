import Derived.Test.YtphikmdgdbdaiaaDelF
/- New; steal; Queue; Wake. -/
namespace Go.Proofs.Ytphikmdgdbdaiaa
open Go.RowKit Go.BigFrame
set_option linter.unusedVariables false
set_option linter.unusedSimpArgs false
attribute [local go_sem] szIs_lit row_at row_past row_alloc nf_alloc row_set nf_set row_cell nf_cell row_drew nf_drew row_drewN nf_drewN cell_setRow frozen_setRow nlt1 nlt2 nlt3 nlt4 nne1 nne2 nne3 nen1 nen2 nen3
theorem new_bad (n : Int) (w : World) (hn : ¬ (1 ≤ n ∧ n ≤ 8)) : Calls Try.prog 9 #[.int .i64 n] w fun e w' => e = .returned (.tuple #[.pointer none, .int .i64 1]) ∧ w = w' := by
  by_cases h1 : n < 1
  · clear hn
    go_enter Try.func9, Try.ntmps9
    go_wp2
    go_ret2
    exact ⟨by first | rfl | simp, rfl⟩
  · have h2 : 8 < n := by omega
    clear hn
    go_enter Try.func9, Try.ntmps9
    go_wp2
    go_ret2
    exact ⟨by first | rfl | simp, rfl⟩
def S0 (n : Nat) : QS := ⟨n, fun _ => 0, fun _ => [], []⟩
def a0 (g m : Nat) : QA := ⟨g, m, fun _ => none, fun _ => 0⟩
theorem new_ok (n : Nat) (w : World) (h1 : 1 ≤ n) (h2 : n ≤ 8) : Calls Try.prog 9 #[.int .i64 (n : Int)] w fun e w' => ∃ g m, e = .returned (.tuple #[.pointer (some ⟨g, 0, none⟩), .int .i64 0]) ∧ QR w' (a0 g m) (S0 n) ∧ Below w.heap.size w w' ∧ w.heap.size ≤ g ∧ w.heap.size ≤ m := by
  go_enter Try.func9, Try.ntmps9
  have hmk := fun w => run_makeMap (P := Try.prog) 48 w
  go_wp2
  go_outline
  go_ret2
  refine ⟨w.heap.size + 1, w.heap.size, by simp, ⟨h2, Blk.of_heap (heap_at (by simp [a0])), ?_, fun h _ => Rw.nil _ _ _, by simp [a0], by simp [a0, blkOf], by simp [a0, blkOf]⟩, ((Below.refl _ _).alloc (Nat.le_refl _) _).alloc (by simp) _, by omega, Nat.le_refl _⟩
  refine (IMap.made w).heap ?_
  exact heap_past (by simp [a0])
section
variable {w : World} {a : QA} {S : QS}
/-- The first of the longest queues among the first k. -/
def lng (S : QS) : Nat → Nat
  | 0 => 0
  | k + 1 => if (S.Q (lng S k)).length < (S.Q k).length then k else lng S k
theorem lng_lt (S : QS) : ∀ k, lng S k < k ∨ lng S k = 0
  | 0 => .inr rfl
  | k + 1 => by
    unfold lng
    split
    · exact .inl (by omega)
    · rcases lng_lt S k with h | h
      · exact .inl (by omega)
      · exact .inr h
theorem QR.drewN (h : QR w a S) (n : Nat) : QR (w.drewN n) a S := h.same fun _ _ => rfl
set_option maxRecDepth 100000 in
set_option maxHeartbeats 4000000 in
theorem steal_ok (H : QR w a S) (n1 : 1 ≤ S.n) (hlen : ∀ h, h < 8 → (S.Q h).length ≤ 1000) : Calls Try.prog 26 #[.pointer (some ⟨a.g, 0, none⟩)] w fun e w' => ∃ t S', e = .returned (.int .i64 t) ∧ QR w' a S' ∧ Mv w a w' a ∧ ((S.Q (lng S S.n) = [] ∧ t = 0 ∧ S' = S) ∨ ∃ l, S.Q (lng S S.n) = l ++ [t] ∧ S' = S.setQ (lng S S.n) l) := by
  have HH := Lib.hid H
  have HN := Lib.hid hlen
  have c0 := H.cells.1
  have hn8 := H.n8
  clear H hlen
  go_enter Try.func26, Try.ntmps26
  go_wp2_with fail
  go_loopg [3, 4, 10] S.n (fun k b_ p4 i_ wr => ∃ (j : Nat), i_ = .int .i64 (j : Int) ∧ b_ = .int .i64 (lng S j : Int) ∧ k = S.n - j ∧ j ≤ S.n ∧ ∃ m, wr = w.drewN m)
  case atStart => exact ⟨0, rfl, rfl, by omega, by omega, 0, rfl⟩
  case round =>
    obtain ⟨j, rfl, rfl, hk, hj, m, rfl⟩ := hrel
    have HK := Lib.hid hk
    clear hk
    have hb8 : lng S j < 8 := by rcases lng_lt S j with h | h <;> omega
    by_cases hlt : j < S.n
    · have e1 := HH.out.queue (i := j) (by omega)
      have e2 := HH.out.queue hb8
      have HL := Lib.hid (show lng S (j + 1) = if (S.Q (lng S j)).length < (S.Q j).length then j else lng S j from rfl)
      generalize hbb : lng S j = bb at *
      have HBB := Lib.hid hbb
      clear hbb
      by_cases hc : (S.Q bb).length < (S.Q j).length
      · rw [if_pos hc] at HL
        go_wp2_with fail
        go_quiet (fail)
        go_wp2_with fail
        go_roundg (S.n - (j + 1))
        case measure => have := HK.out; omega
        case rel => exact ⟨j + 1, by go_num, by rw [HL.out], rfl, by omega, _, rfl⟩
      · rw [if_neg hc] at HL
        go_wp2_with fail
        go_quiet (fail)
        go_wp2_with fail
        go_roundg (S.n - (j + 1))
        case measure => have := HK.out; omega
        case rel => exact ⟨j + 1, by go_num, by rw [HL.out], rfl, by omega, _, rfl⟩
    · obtain rfl : j = S.n := by omega
      have H2 := HH.out.drewN m
      have e1 := H2.queue hb8
      have HL := Lib.hid (H2.row _ hb8)
      have hml := HN.out _ hb8
      have HMV := Lib.hid (show Mv w a (w.drewN m) a from Mv.of_below a (below_drewN (Below.refl _ _) m))
      have HZ := Lib.hid H2.cells.2.2
      have HH2 := Lib.hid H2
      generalize hbb : lng S S.n = bb at *
      have HBB := Lib.hid hbb
      generalize w.drewN m = wm at *
      clear hbb H2
      rcases List.eq_nil_or_concat (S.Q bb) with hq | ⟨l, t, hq⟩
      · rw [hq] at e1
        have HQ := Lib.hid hq
        clear hq
        go_wp2_with fail
        go_ret
        exact ⟨0, S, by first | rfl | simp, HH2.out, HMV.out, .inl ⟨by rw [HBB.out]; exact HQ.out, rfl, rfl⟩⟩
      · rw [List.concat_eq_append] at hq
        have hq2 : (S.Q bb).length = l.length + 1 := by rw [hq]; simp
        rw [hq2] at e1 hml HL
        obtain ⟨b, hA⟩ := HL.out.some_ (by omega)
        rw [hA] at e1 HL
        have hct : wm.cell? ⟨b, l.length, none⟩ = some (.int .i64 t) := by rw [HL.out.cell l.length (by omega), hq]; simp [iv]
        have hcc := HL.out.le
        have hr : Rw wm 3 1 (a.A bb) l.length (a.c bb) (iv l) := by
          rw [hA]
          have := HL.out.take l.length (by omega)
          rw [hq, Nat.mul_one] at this
          simpa [iv] using this
        have hp := HH2.out.putQ hb8 hr (Ch.refl _ _) (.inl rfl)
        have HQ := Lib.hid hq
        have hcut := cut_h (P := Try.prog) intT (some ⟨b, 0, none⟩) (l.length + 1) (a.c bb) l.length (by omega) hcc.2
        have k0 : ((((l.length : Int) + 1)) == 0) = false := by
          have : ¬ ((l.length : Int) + 1) = 0 := by omega
          simpa using this
        have hb1 : ¬ b = a.g := fun e => (HH2.out.ag bb hb8).1 (by rw [hA, e]; rfl)
        have hu : wm.cell? ⟨a.g, 1 + bb * 2 + 1, none⟩ = some (.slice (a.A bb) (S.Q bb).length (a.c bb)) := HH2.out.queue hb8
        rw [hA] at hp
        have HP := Lib.hid hp
        have HA := Lib.hid hA
        have HS := Lib.hid (store_cell (P := Try.prog) 31 ⟨a.g, 1 + bb * 2 + 1, none⟩ (.slice (some ⟨b, 0, none⟩) l.length (a.c bb)) _ wm.drew (sz31 _) rfl hu (HZ.out _))
        have HPD := Lib.hid (show QR (wm.drew.setCell ⟨a.g, 1 + bb * 2 + 1, none⟩ (.slice (some ⟨b, 0, none⟩) l.length (a.c bb))) (a.setA bb (some ⟨b, 0, none⟩) (a.c bb)) (S.setQ bb l) ∧ Mv w a (wm.drew.setCell ⟨a.g, 1 + bb * 2 + 1, none⟩ (.slice (some ⟨b, 0, none⟩) l.length (a.c bb))) a from ⟨hp.1.drew, HMV.out.trans ⟨(Ch.refl _ _).drew.cell _ _ fun _ => .inl rfl, rfl, fun _ q => .inl q⟩⟩)
        have hct2 : (wm.drew.setCell ⟨a.g, 1 + bb * 2 + 1, none⟩ (.slice (some ⟨b, 0, none⟩) l.length (a.c bb))).cell? ⟨b, l.length, none⟩ = some (.int .i64 t) := by
          rw [World.cell?_setCell_other _ _ _ _ (by simp [hb1])]; exact hct
        clear hq hA hr hp hu
        go_wp2_with fail
        generalize hW : wm.drew.setCell ⟨a.g, 1 + bb * 2 + 1, none⟩ (.slice (some ⟨b, 0, none⟩) l.length (a.c bb)) = w2 at *
        have HW := Lib.hid hW
        clear hW
        haveI i1 := k1K_ne wm.drew w2 11
        haveI i2 := k1K_ne0 wm.drew w2 11
        refine wp_segs [(11, [], [11])] ([], []) (k1K wm.drew w2 11) ?_ ?_ ?_ ?_ ?_ ?_ ?_ ?_ ?_
        · kernel_rfl
        · kernel_rfl
        · kernel_rfl
        · kernel_rfl
        · kernel_rfl
        · kernel_rfl
        · rfl
        · exact fun jj hj D u hK => k1K_out wm.drew w2 11 jj (by simpa using hj) D u hK
        · simp only [Segs, List.take_succ_cons, List.take_zero, List.drop_succ_cons, List.drop_zero, Nat.sub_zero, Nat.reduceSub, Nat.reduceAdd, List.drop_nil, List.take_nil]
          repeat (go_big_quiet_step (fail))
          refine wpQuiet_nil ?_
          refine ⟨undef, stepOK_skip (by kernel_rfl) (fun D u hb hb2 hi hK => k1K_1 hi hK (run_skip_any (s := Instr.storeAt 31 (.pointer (some ⟨a.g, 1 + bb * 2 + 1, none⟩)) (.slice (some ⟨b, 0, none⟩) l.length (a.c bb))) (by kernel_rfl) HS.out)), ?_⟩
          (try go_frame)
          repeat (go_big_quiet_step (fail))
          refine wpQuiet_nil ?_
          intro u hK
          obtain rfl := k1K_end (D := _) (by decide) hK
          go_wp2_with fail
          go_ret
          have hse : a.setA bb (some ⟨b, 0, none⟩) (a.c bb) = a := by
            obtain ⟨g, m, A, c⟩ := a
            simp only [QA.setA, QA.mk.injEq, true_and]
            constructor
            · funext k; by_cases e : k = bb
              · subst e; rw [if_pos rfl]; exact HA.out.symm
              · rw [if_neg e]
            · funext k; by_cases e : k = bb
              · subst e; rw [if_pos rfl]
              · rw [if_neg e]
          have h1 := HPD.out.1
          rw [hse] at h1
          exact ⟨t, _, by first | rfl | simp, h1, HPD.out.2, .inr ⟨l, by rw [HBB.out]; exact HQ.out, by rw [HBB.out]⟩⟩
end
end Go.Proofs.Ytphikmdgdbdaiaa
