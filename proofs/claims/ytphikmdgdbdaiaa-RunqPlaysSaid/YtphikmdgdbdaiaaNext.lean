import Derived.Test.YtphikmdgdbdaiaaSteal
/- Queue; Next; Wake; Remove. -/
namespace Go.Proofs.Ytphikmdgdbdaiaa
open Go.RowKit Go.BigFrame
set_option linter.unusedVariables false
set_option linter.unusedSimpArgs false
attribute [local go_sem] szIs_lit row_at row_past row_alloc nf_alloc row_set nf_set row_cell nf_cell row_drew nf_drew row_drewN nf_drewN cell_setRow frozen_setRow nlt1 nlt2 nlt3 nlt4 nne1 nne2 nne3 nen1 nen2 nen3
section
variable {w : World} {a : QA} {S : QS}
theorem queue_nil (h : Int) (w : World) : Calls Try.prog 14 #[.pointer none, .int .i64 h] w fun e w' => e = .returned (.slice none 0 0) ∧ w = w' := by
  go_enter Try.func14, Try.ntmps14
  go_wp2_with fail
  refine (is_nil h w).mono ?_
  rintro e w' ⟨rfl, rfl⟩
  go_wp2
  go_ret
  exact ⟨by first | rfl | simp, rfl⟩
theorem queue_out (H : QR w a S) (h : Int) (hh : ¬ (0 ≤ h ∧ h < S.n)) : Calls Try.prog 14 #[.pointer (some ⟨a.g, 0, none⟩), .int .i64 h] w fun e w' => e = .returned (.slice none 0 0) ∧ w = w' := by
  have HI := Lib.hid (is_no H h hh)
  clear H hh
  go_enter Try.func14, Try.ntmps14
  go_wp2_with fail
  refine HI.out.mono ?_
  rintro e w' ⟨rfl, rfl⟩
  go_wp2
  go_ret
  exact ⟨by first | rfl | simp, rfl⟩
theorem queue_in (H : QR w a S) (h : Nat) (hh : h < S.n) (hlen : (S.Q h).length ≤ 1000) : Calls Try.prog 14 #[.pointer (some ⟨a.g, 0, none⟩), .int .i64 (h : Int)] w fun e w' => ∃ A c, e = .returned (.slice A (S.Q h).length c) ∧ Rw w' 3 1 A (S.Q h).length c (iv (S.Q h)) ∧ Below w.heap.size w w' ∧ (∀ k, blkOf A = some k → w.heap.size ≤ k) := by
  have h8 : h < 8 := Nat.lt_of_lt_of_le hh H.n8
  have HI := Lib.hid (is_yes H h hh)
  have cq := H.queue h8
  have HC := Lib.hid (clone_ok w _ _ _ (H.row h h8) hlen)
  clear H hh
  go_enter Try.func14, Try.ntmps14
  go_wp2_with fail
  refine HI.out.mono ?_
  rintro e w' ⟨rfl, rfl⟩
  go_wp2_with fail
  refine HC.out.mono ?_
  rintro e w1 ⟨A, c, rfl, hr, hb, hk⟩
  have HR := Lib.hid (And.intro hr (And.intro hb hk))
  clear hr hb hk
  go_wp2_with fail
  go_ret
  exact ⟨A, c, by first | rfl | simp, HR.out⟩
theorem next_nil (h : Int) (w : World) : Calls Try.prog 12 #[.pointer none, .int .i64 h] w fun e w' => e = .returned (.tuple #[.int .i64 0, .bool false]) ∧ w = w' := by
  go_enter Try.func12, Try.ntmps12
  go_wp2_with fail
  refine (is_nil h w).mono ?_
  rintro e w' ⟨rfl, rfl⟩
  go_wp2
  go_ret2
  exact ⟨by first | rfl | simp, rfl⟩
theorem next_out (H : QR w a S) (h : Int) (hh : ¬ (0 ≤ h ∧ h < S.n)) : Calls Try.prog 12 #[.pointer (some ⟨a.g, 0, none⟩), .int .i64 h] w fun e w' => e = .returned (.tuple #[.int .i64 0, .bool false]) ∧ w = w' := by
  have HI := Lib.hid (is_no H h hh)
  clear H hh
  go_enter Try.func12, Try.ntmps12
  go_wp2_with fail
  refine HI.out.mono ?_
  rintro e w' ⟨rfl, rfl⟩
  go_wp2
  go_ret2
  exact ⟨by first | rfl | simp, rfl⟩
theorem next_busy (H : QR w a S) (h : Nat) (hh : h < S.n) (h0 : 0 < S.R h) : Calls Try.prog 12 #[.pointer (some ⟨a.g, 0, none⟩), .int .i64 (h : Int)] w fun e w' => e = .returned (.tuple #[.int .i64 0, .bool false]) ∧ w = w' := by
  have h8 : h < 8 := Nat.lt_of_lt_of_le hh H.n8
  have HI := Lib.hid (is_yes H h hh)
  have c1 := H.runs h8
  clear H hh
  go_enter Try.func12, Try.ntmps12
  go_wp2_with fail
  refine HI.out.mono ?_
  rintro e w' ⟨rfl, rfl⟩
  go_wp2
  go_ret2
  exact ⟨by first | rfl | simp, rfl⟩
set_option maxRecDepth 100000 in
set_option maxHeartbeats 4000000 in
theorem next_own (H : QR w a S) (h : Nat) (hh : h < S.n) (h0 : S.R h = 0) (x : Int) (r : List Int) (hq : S.Q h = x :: r) (hx : 1 ≤ x) (hlen : (S.Q h).length ≤ 1000) : Calls Try.prog 12 #[.pointer (some ⟨a.g, 0, none⟩), .int .i64 (h : Int)] w fun e w' => ∃ a', e = .returned (.tuple #[.int .i64 x, .bool true]) ∧ QR w' a' (((S.setQ h r).setR h x).setM (S.M.put x (.int .i64 h))) ∧ Mv w a w' a' := by
  have h8 : h < 8 := Nat.lt_of_lt_of_le hh H.n8
  have HI := Lib.hid (is_yes H h hh)
  have c1 := H.runs h8
  have c2 := H.queue h8
  have hrow := H.row h h8
  rw [h0] at c1
  rw [hq] at hrow hlen
  simp only [List.length_cons] at hrow hlen
  obtain ⟨b, hA⟩ := hrow.some_ (by omega)
  rw [hq, hA] at c2
  simp only [List.length_cons] at c2
  rw [hA] at hrow
  have hcx : w.cell? ⟨b, 0, none⟩ = some (.int .i64 x) := by rw [hrow.cell 0 (by omega)]; rfl
  have hrc := hrow.le.1
  have HC := Lib.hid (del1_ok w b (a.c h) x r hrow (by omega))
  have HH := Lib.hid H
  have HA := Lib.hid hA
  have k0 : (x == 0) = false := by
    have : ¬ x = 0 := by omega
    simpa using this
  clear H hh h0 hq hrow hA
  go_enter Try.func12, Try.ntmps12
  go_wp2_with fail
  refine HI.out.mono ?_
  rintro e w' ⟨rfl, rfl⟩
  go_wp2_with fail
  refine HC.out.mono ?_
  rintro e w1 ⟨rfl, hr, hc⟩
  have hc' : Ch (fun k => blkOf (a.A h) = some k) w w1 := hc.mono fun k _ e => by rw [HA.out, e]; rfl
  have hp := HH.out.putQ h8 (A := some ⟨b, 0, none⟩) (c := a.c h) hr hc' (.inl (by rw [HA.out]))
  have hB := (HH.out.blk.ch hc' (HH.out.ag h h8).1).all
  have hu : w1.cell? ⟨a.g, 1 + h * 2 + 1, none⟩ = some (.slice (a.A h) (S.Q h).length (a.c h)) := (hB.2.2.1 _).trans (qcells_Q a S h8)
  have hz := hB.2.2.2 (1 + h * 2 + 1)
  have hp2 := hp.1.putR h8 x
  have hr2 := hp.1.runs h8
  have hz2 := hp.1.cells.2.2 (1 + h * 2)
  have h17 := hp2.1.cells.2.1
  obtain ⟨w4, m1, m2, m3, _⟩ := imap_update (P := Try.prog) hp2.1.map ty48 ty3 x (.int .i64 (h : Int))
  have hp3 := hp2.1.putM m2 m3
  have HF := Lib.hid (And.intro hp3.1 (And.intro hp.2 (And.intro hp2.2 hp3.2)))
  clear hp hp2 hp3 hB m2 m3 hr hc hc'
  generalize hW2 : w1.setCell ⟨a.g, 1 + h * 2 + 1, none⟩ (.slice (some ⟨b, 0, none⟩) r.length (a.c h)) = w2 at *
  change w2.cell? ⟨a.g, 1 + h * 2, none⟩ = _ at hr2
  change w2.frozen? ⟨a.g, 1 + h * 2, none⟩ = _ at hz2
  change (w2.setCell ⟨a.g, 1 + h * 2, none⟩ (.int .i64 x)).cell? ⟨a.g, 17, none⟩ = some (.map (some a.m)) at h17
  change (Instr.mapUpdate 48 (.map (some a.m)) (.int .i64 x) (.int .i64 (h : Int))).run Try.prog (w2.setCell ⟨a.g, 1 + h * 2, none⟩ (.int .i64 x)) = .ok () w4 at m1
  generalize hW3 : w2.setCell ⟨a.g, 1 + h * 2, none⟩ (.int .i64 x) = w3 at *
  go_wp2_with fail
  go_ret2
  have hset : ∀ k, (a.setA h (some ⟨b, 0, none⟩) (a.c h)).foot k → a.foot k ∨ w.heap.size ≤ k := fun k q => QA.foot_setA h8 (.inl (by rw [HA.out])) q
  exact ⟨_, by first | rfl | simp, HF.out.1, ⟨HF.out.2.1.trans (HF.out.2.2.1.trans HF.out.2.2.2 (fun k _ q => q)) (fun k hk q => (hset k q).elim id fun q => by omega), rfl, hset⟩⟩
set_option maxRecDepth 100000 in
set_option maxHeartbeats 4000000 in
theorem next_none (H : QR w a S) (n1 : 1 ≤ S.n) (h : Nat) (hh : h < S.n) (h0 : S.R h = 0) (hq : S.Q h = []) (hlen : ∀ h, h < 8 → (S.Q h).length ≤ 1000) (hs : S.Q (lng S S.n) = []) : Calls Try.prog 12 #[.pointer (some ⟨a.g, 0, none⟩), .int .i64 (h : Int)] w fun e w' => e = .returned (.tuple #[.int .i64 0, .bool false]) ∧ QR w' a S ∧ Mv w a w' a := by
  have h8 : h < 8 := Nat.lt_of_lt_of_le hh H.n8
  have HI := Lib.hid (is_yes H h hh)
  have c1 := H.runs h8
  have c2 := H.queue h8
  rw [h0] at c1
  rw [hq] at c2
  have HC := Lib.hid (steal_ok H n1 hlen)
  have HS := Lib.hid hs
  clear H hh h0 hq hlen hs
  go_enter Try.func12, Try.ntmps12
  go_wp2_with fail
  refine HI.out.mono ?_
  rintro e w' ⟨rfl, rfl⟩
  go_wp2_with fail
  refine HC.out.mono ?_
  rintro e w1 ⟨t, S', rfl, h1, h2, h3⟩
  rcases h3 with ⟨_, rfl, rfl⟩ | ⟨l, h4, _⟩
  · have HF := Lib.hid (And.intro h1 h2)
    clear h1 h2
    go_wp2_with fail
    go_ret2
    exact ⟨by first | rfl | simp, HF.out⟩
  · rw [HS.out] at h4
    simp at h4
set_option maxRecDepth 100000 in
set_option maxHeartbeats 4000000 in
theorem next_steal (H : QR w a S) (n1 : 1 ≤ S.n) (h : Nat) (hh : h < S.n) (h0 : S.R h = 0) (hq : S.Q h = []) (hlen : ∀ h, h < 8 → (S.Q h).length ≤ 1000) (l : List Int) (t : Int) (hs : S.Q (lng S S.n) = l ++ [t]) (ht : 1 ≤ t) : Calls Try.prog 12 #[.pointer (some ⟨a.g, 0, none⟩), .int .i64 (h : Int)] w fun e w' => ∃ a', e = .returned (.tuple #[.int .i64 t, .bool true]) ∧ QR w' a' (((S.setQ (lng S S.n) l).setR h t).setM (S.M.put t (.int .i64 h))) ∧ Mv w a w' a' := by
  have h8 : h < 8 := Nat.lt_of_lt_of_le hh H.n8
  have HI := Lib.hid (is_yes H h hh)
  have c1 := H.runs h8
  have c2 := H.queue h8
  rw [h0] at c1
  rw [hq] at c2
  have HC := Lib.hid (steal_ok H n1 hlen)
  have HS := Lib.hid hs
  have k0 : (t == 0) = false := by
    have : ¬ t = 0 := by omega
    simpa using this
  clear H hh h0 hq hlen hs
  go_enter Try.func12, Try.ntmps12
  go_wp2_with fail
  refine HI.out.mono ?_
  rintro e w' ⟨rfl, rfl⟩
  go_wp2_with fail
  refine HC.out.mono ?_
  rintro e w1 ⟨t', S', rfl, h1, h2, h3⟩
  rcases h3 with ⟨h4, _⟩ | ⟨l', h4, rfl⟩
  · rw [HS.out] at h4
    simp at h4
  · rw [HS.out] at h4
    obtain ⟨rfl, h5⟩ := List.append_inj' h4 rfl
    injection h5 with h5 _
    subst h5
    have hp2 := h1.putR h8 t
    have hr2 := h1.runs h8
    have hz2 := h1.cells.2.2 (1 + h * 2)
    have h17 := hp2.1.cells.2.1
    obtain ⟨w4, m1, m2, m3, _⟩ := imap_update (P := Try.prog) hp2.1.map ty48 ty3 t (.int .i64 (h : Int))
    have hp3 := hp2.1.putM m2 m3
    have HF := Lib.hid (And.intro hp3.1 (And.intro h2 (And.intro hp2.2 hp3.2)))
    clear h1 h2 hp2 hp3 m2 m3 h4
    generalize hW3 : w1.setCell ⟨a.g, 1 + h * 2, none⟩ (.int .i64 t) = w3 at *
    go_wp2_with fail
    go_ret2
    exact ⟨a, by first | rfl | simp, HF.out.1, HF.out.2.1.trans ⟨HF.out.2.2.1.trans HF.out.2.2.2 (fun k _ q => q), rfl, fun _ q => .inl q⟩⟩
/-- The first of the shortest harts among the first k. -/
def sht (S : QS) : Nat → Nat
  | 0 => 0
  | k + 1 => if longS S k < longS S (sht S k) then k else sht S k
theorem sht_lt (S : QS) : ∀ k, sht S k < k ∨ sht S k = 0
  | 0 => .inr rfl
  | k + 1 => by
    unfold sht
    split
    · exact .inl (by omega)
    · rcases sht_lt S k with h | h
      · exact .inl (by omega)
      · exact .inr h
theorem wake_nil (t : Int) (w : World) : Calls Try.prog 18 #[.pointer none, .int .i64 t] w fun e w' => e = .returned (.tuple #[.int .i64 0, .int .i64 6]) ∧ w = w' := by
  go_enter Try.func18, Try.ntmps18
  go_wp2
  go_ret2
  exact ⟨by first | rfl | simp, rfl⟩
set_option maxRecDepth 100000 in
set_option maxHeartbeats 4000000 in
theorem wake_any (H : QR w a S) (n1 : 1 ≤ S.n) (hlen : ∀ h, h < 8 → (S.Q h).length ≤ 1000) (t : Int) (k : Int) (S' : QS) (HP : Calls Try.prog 11 #[.pointer (some ⟨a.g, 0, none⟩), .int .i64 (sht S S.n : Int), .int .i64 t] w fun e w' => ∃ a', e = .returned (.int .i64 k) ∧ QR w' a' S' ∧ Mv w a w' a') : Calls Try.prog 18 #[.pointer (some ⟨a.g, 0, none⟩), .int .i64 t] w fun e w' => ∃ a', e = .returned (.tuple #[.int .i64 (if k = 0 then (sht S S.n : Int) else 0), .int .i64 k]) ∧ QR w' a' S' ∧ Mv w a w' a' := by
  have HH := Lib.hid H
  have HN := Lib.hid hlen
  have HPP := Lib.hid HP
  have c0 := H.cells.1
  have hn8 := H.n8
  clear H hlen HP
  go_enter Try.func18, Try.ntmps18
  go_wp2_with fail
  go_loopg [6, 7, 15] S.n (fun k b_ p4 i_ wr => ∃ (j : Nat), i_ = .int .i64 (j : Int) ∧ b_ = .int .i64 (sht S j : Int) ∧ k = S.n - j ∧ j ≤ S.n ∧ wr = w)
  case atStart => exact ⟨0, rfl, rfl, by omega, by omega, rfl⟩
  case round =>
    obtain ⟨j, rfl, rfl, hk, hj, hw⟩ := hrel
    obtain rfl : w = wr := hw.symm
    have HK := Lib.hid hk
    clear hk hw
    have hb8 : sht S j < 8 := by rcases sht_lt S j with h | h <;> omega
    by_cases hlt : j < S.n
    · have H1 := Lib.hid (long_any HH.out j (by omega) (HN.out j (by omega)))
      have H2 := Lib.hid (long_any HH.out (sht S j) hb8 (HN.out _ hb8))
      have HL := Lib.hid (show sht S (j + 1) = if longS S j < longS S (sht S j) then j else sht S j from rfl)
      generalize hbb : sht S j = bb at *
      have HBB := Lib.hid hbb
      generalize longS S j = x1 at *
      generalize longS S bb = x2 at *
      clear hbb
      by_cases hc : x1 < x2
      · rw [if_pos hc] at HL
        go_wp2_with fail
        refine H1.out.mono ?_
        rintro e w' ⟨rfl, rfl⟩
        go_wp2_with fail
        refine H2.out.mono ?_
        rintro e w' ⟨rfl, rfl⟩
        go_wp2_with fail
        go_roundg (S.n - (j + 1))
        case measure => have := HK.out; omega
        case rel => exact ⟨j + 1, by go_num, by rw [HL.out], rfl, by omega, rfl⟩
      · rw [if_neg hc] at HL
        go_wp2_with fail
        refine H1.out.mono ?_
        rintro e w' ⟨rfl, rfl⟩
        go_wp2_with fail
        refine H2.out.mono ?_
        rintro e w' ⟨rfl, rfl⟩
        go_wp2_with fail
        go_roundg (S.n - (j + 1))
        case measure => have := HK.out; omega
        case rel => exact ⟨j + 1, by go_num, by rw [HL.out], rfl, by omega, rfl⟩
    · obtain rfl : j = S.n := by omega
      generalize hbb : sht S S.n = bb at *
      have HBB := Lib.hid hbb
      clear hbb
      go_wp2_with fail
      refine HPP.out.mono ?_
      rintro e w1 ⟨a', rfl, h1, h2⟩
      have HF := Lib.hid (And.intro h1 h2)
      clear h1 h2
      by_cases hk0 : k = 0
      · subst hk0
        go_wp2_with fail
        go_ret2
        exact ⟨by first | rfl | simp [HBB.out], a', HF.out⟩
      · have k1 : (k == 0) = false := by simpa using hk0
        have HK0 := Lib.hid hk0
        clear hk0
        go_wp2_with fail
        go_ret2
        exact ⟨by first | rfl | simp, a', HF.out⟩
theorem remove_nil (t : Int) (w : World) : Calls Try.prog 19 #[.pointer none, .int .i64 t] w fun e w' => e = .returned (.bool false) ∧ Below w.heap.size w w' := by
  go_enter Try.func19, Try.ntmps19
  go_wp2_with fail
  refine (where_nil t _).mono ?_
  rintro e w' ⟨rfl, rfl⟩
  go_wp2
  go_ret
  exact ⟨by first | rfl | simp, (Below.refl _ _).alloc (Nat.le_refl _) _⟩
theorem remove_none (H : QR w a S) (t : Int) (ht : S.M.get t = none) : Calls Try.prog 19 #[.pointer (some ⟨a.g, 0, none⟩), .int .i64 t] w fun e w' => e = .returned (.bool false) ∧ QR w' a S ∧ Mv w a w' a := by
  have HI := Lib.hid (where_none (H.alloc (.cells #[.int .i64 t] 3)) t ht)
  have HH := Lib.hid H
  clear H ht
  go_enter Try.func19, Try.ntmps19
  go_wp2_with fail
  refine HI.out.mono ?_
  rintro e w' ⟨rfl, rfl⟩
  go_wp2
  go_ret
  exact ⟨by first | rfl | simp, HH.out.alloc _, Mv.of_below a ((Below.refl _ _).alloc (Nat.le_refl _) _)⟩
end
end Go.Proofs.Ytphikmdgdbdaiaa
