import Derived.Test.YtphikmdgdbdaiaaAside
/- RunqAll: with any number of harts, in rounds of Next and Tick, each thread runs: the walk returns true for every input. -/
namespace Go.Proofs.Ytphikmdgdbdaiaa
open Go.RowKit Go.BigFrame
set_option linter.unusedVariables false
set_option linter.unusedSimpArgs false
attribute [local go_sem] szIs_lit row_at row_past row_alloc nf_alloc row_set nf_set row_cell nf_cell row_drew nf_drew row_drewN nf_drewN cell_setRow frozen_setRow nlt1 nlt2 nlt3 nlt4 nne1 nne2 nne3 nen1 nen2 nen3
theorem AreOp.at_ {w : World} {B len cap : Nat} {a : Option Addr} {o : Nat → OpV} (h : AreOp w B a len cap o) (i : Nat) (hi : i < len) : ∃ b off, a = some ⟨b, off, none⟩ ∧ b < B ∧ w.cell? ⟨b, off + i * 3, none⟩ = some (.int .i64 (o i).x0) ∧ w.cell? ⟨b, off + i * 3 + 1, none⟩ = some (.int .i64 (o i).x1) ∧ w.cell? ⟨b, off + i * 3 + 2, none⟩ = some (.int .i64 (o i).x2) := by
  obtain ⟨b, off, e, hb, hc⟩ := h.2.2.2 (by omega)
  obtain ⟨h1, _, h2, _, h3, _⟩ := hc i hi
  exact ⟨b, off, e, hb, h1, h2, h3⟩
theorem boolT : ElT Try.prog 37 4 1 1 (.bool false) := ⟨by kernel_rfl, by kernel_rfl, rfl, by simp [Value.cells, Value.oneCell'], by decide⟩
def bv (l : List Bool) : List Value := l.map .bool
/-- The threads 1 .. j are put, nobody runs. -/
structure Put1 (S : QS) (H j : Nat) : Prop where
  n : S.n = H
  r : ∀ k, S.R k = 0
  t : tot S = j
  le : ∀ k t, t ∈ S.Q k → t ≤ (j : Int)
  all : ∀ t : Nat, 1 ≤ t → t ≤ j → ∃ k, (t : Int) ∈ S.Q k
theorem Put1.hs {S : QS} {H j : Nat} (h : Put1 S H j) (k : Nat) : hs S k = S.Q k := by unfold Ytphikmdgdbdaiaa.hs; rw [h.r]; simp
theorem Put1.start (H : Nat) : Put1 (S0 H) H 0 := by
  refine ⟨rfl, fun _ => rfl, ?_, fun k t ht => by simp [S0] at ht, fun t h1 h2 => by omega⟩
  have : ∀ k, sumTo (fun h => (Ytphikmdgdbdaiaa.hs (S0 H) h).length) k = 0 := by
    intro k
    induction k with
    | zero => rfl
    | succ k ih => unfold sumTo; rw [ih]; simp [Ytphikmdgdbdaiaa.hs, S0]
  exact this _
theorem Put1.next {S : QS} {H j : Nat} (W : QW S) (h : Put1 S H j) (hj : j < 64) (k : Nat) (hk : k < H) : putF S k ((j : Int) + 1) = (0, putS S k ((j : Int) + 1)) ∧ Put1 (putS S k ((j : Int) + 1)) H (j + 1) := by
  have hno : ∀ i, ((j : Int) + 1) ∉ Ytphikmdgdbdaiaa.hs S i := fun i hi => by rw [h.hs] at hi; have := h.le i _ hi; omega
  have e1 := put_free W (h := k) (t := (j : Int) + 1) (by rw [h.n]; exact hk) (by omega) hno (by rw [h.t]; omega)
  have hq : ∀ i, (putS S k ((j : Int) + 1)).Q i = if i = k then S.Q i ++ [(j : Int) + 1] else S.Q i := fun i => by
    by_cases e : i = k
    · subst e; simp [putS, QS.setM, QS.setQ]
    · simp [putS, QS.setM, QS.setQ, e]
  have hr : ∀ i, (putS S k ((j : Int) + 1)).R i = 0 := h.r
  refine ⟨e1, h.n, hr, ?_, fun i t ht => ?_, fun t h1 h2 => ?_⟩
  · have hh : ∀ i, (Ytphikmdgdbdaiaa.hs (putS S k ((j : Int) + 1)) i).length = if i = k then (Ytphikmdgdbdaiaa.hs S i).length + 1 else (Ytphikmdgdbdaiaa.hs S i).length := fun i => by
      unfold Ytphikmdgdbdaiaa.hs
      rw [hr, h.r, hq]
      by_cases e : i = k <;> simp [e]
    have := sumTo_upd (f := fun i => (Ytphikmdgdbdaiaa.hs (putS S k ((j : Int) + 1)) i).length) (g := fun i => (Ytphikmdgdbdaiaa.hs S i).length) S.n (by rw [h.n]; exact hk) (fun i _ hi => by simp only [hh, if_neg hi])
    have ht := h.t
    unfold tot at ht ⊢
    have hkk := hh k
    rw [if_pos rfl] at hkk
    have hn : (putS S k ((j : Int) + 1)).n = S.n := rfl
    rw [hn]
    omega
  · rw [hq] at ht
    split at ht
    · rcases List.mem_append.1 ht with q | q
      · have := h.le i t q; omega
      · rw [List.mem_singleton] at q; omega
    · have := h.le i t ht; omega
  · by_cases e : t = j + 1
    · subst e; exact ⟨k, by rw [hq, if_pos rfl]; simp⟩
    · obtain ⟨i, hi⟩ := h.all t h1 (by omega)
      exact ⟨i, by rw [hq]; split; exact List.mem_append_left _ hi; exact hi⟩
theorem Put1.fair {S : QS} {H n : Nat} (W : QW S) (h : Put1 S H n) : Fair S n (List.replicate (n + 1) false) 0 0 := by
  refine ⟨fun k hk => absurd (h.r k) hk, fun k t ht => by rw [h.hs] at ht; exact h.le k t ht, by simp, fun t h1 h2 _ => ?_⟩
  obtain ⟨k, hk⟩ := h.all t h1 h2
  obtain ⟨p, hp⟩ := List.mem_iff_getElem?.1 hk
  have hl := (List.getElem?_eq_some_iff.1 hp).1
  have hkn : k < S.n := (W.mem (by rw [h.hs]; exact hk)).1
  have hle := sumTo_le (fun i => (Ytphikmdgdbdaiaa.hs S i).length) S.n hkn
  have ht := h.t
  unfold tot at ht
  have hhk : (Ytphikmdgdbdaiaa.hs S k).length = (S.Q k).length := by rw [h.hs]
  have hle2 : (Ytphikmdgdbdaiaa.hs S k).length ≤ sumTo (fun i => (Ytphikmdgdbdaiaa.hs S i).length) S.n := hle
  exact ⟨k, p, hp, by rw [if_neg (by omega)]; omega⟩
set_option maxRecDepth 100000 in
set_option maxHeartbeats 4000000 in
theorem all_bad (n : Int) (a : Option Addr) (len cap : Nat) (cnt : Int) (w : World) (hn : ¬ (1 ≤ n ∧ n ≤ 8)) : Calls Try.prog 4 #[.int .i64 n, .slice a len cap, .int .i64 cnt] w fun e w' => e = .returned (.bool true) ∧ Below w.heap.size w w' := by
  have HN := Lib.hid (new_bad n w hn)
  clear hn
  go_enter Try.func4, Try.ntmps4
  go_wp2_with fail
  refine HN.out.mono ?_
  rintro e w1 ⟨rfl, rfl⟩
  go_wp2_with fail
  refine (lives_ok w).mono ?_
  rintro e w1 ⟨rfl, hB⟩
  have HB := Lib.hid hB
  clear hB
  go_wp2
  go_ret
  exact ⟨by first | rfl | simp, HB.out⟩
set_option maxRecDepth 100000 in
set_option maxHeartbeats 16000000 in
theorem all_ok (H : Nat) (a : Option Addr) (len cap : Nat) (o : Nat → OpV) (cnt : Int) (hc : -9223372036854775808 ≤ cnt ∧ cnt ≤ 9223372036854775807) (w : World) (h : AreOp w w.heap.size a len cap o) (n1 : 1 ≤ H) (n2 : H ≤ 8) : Calls Try.prog 4 #[.int .i64 (H : Int), .slice a len cap, .int .i64 cnt] w fun e w' => e = .returned (.bool true) ∧ Below w.heap.size w w' := by
  have hlen := h.2.2.1
  have hlr : len ≤ 9223372036854775806 := by unfold reachBytes at hlen; omega
  have HH := Lib.hid h
  clear h hlen
  go_enter Try.func4, Try.ntmps4
  go_wp2_with fail
  refine (newI H w n1 n2).mono ?_
  rintro e w1 ⟨g, rfl, hI⟩
  have HI1 := Lib.hid hI
  clear hI
  go_wp2_with fail
  refine (livesI HI1.out).mono ?_
  rintro e w2 ⟨rfl, hI⟩
  have HI2 := Lib.hid hI
  clear hI
  have hx1 : -30 < cnt.tmod 30 ∧ cnt.tmod 30 < 30 := by
    have := Int.tmod_lt_of_pos cnt (show (0 : Int) < 30 by omega)
    have h2 := Int.lt_tmod_of_pos cnt (show (0 : Int) < 30 by omega)
    omega
  generalize hX : cnt.tmod 30 = x at *
  obtain ⟨k, hk⟩ : ∃ k : Nat, (x < 0 ∧ x = -(k : Int)) ∨ (¬ x < 0 ∧ x = k) := by
    by_cases h : x < 0
    · exact ⟨(-x).toNat, .inl ⟨h, by omega⟩⟩
    · exact ⟨x.toNat, .inr ⟨h, by omega⟩⟩
  have hk60 : k < 30 := by omega
  have HW0 := Lib.hid (Put1.start H)
  rcases hk with ⟨hk, rfl⟩ | ⟨hk, rfl⟩
  · have hk0 : decide (0 < k) = true := by simp; omega
    go_wp2_with fail
    have HXX := Lib.hid hX
    clear hX
    go_loopg [10, 11] (k + 1) (fun gk t_ p11 wr => ∃ (j : Nat) (S : QS), t_ = .int .i64 ((j : Int) + 1) ∧ gk = k + 1 - j ∧ j ≤ k ∧ QI w wr g S ∧ Put1 S H j)
    case atStart => exact ⟨0, S0 H, rfl, rfl, by omega, HI2.out, HW0.out⟩
    case round =>
      obtain ⟨j, S, rfl, hgk, hj, hI, hS⟩ := hrel
      have HK := Lib.hid hgk
      have HI := Lib.hid hI
      have HS := Lib.hid hS
      clear hgk hI hS
      by_cases hlt : j < k
      · have HP := Lib.hid (fun (i : Nat) (hi : i < H) => (show Calls Try.prog 11 #[.pointer (some ⟨g, 0, none⟩), .int .i64 (i : Int), .int .i64 ((j : Int) + 1)] wr fun e w' => e = .returned (.int .i64 0) ∧ ∃ S', QI w w' g S' ∧ Put1 S' H (j + 1) from by
          obtain ⟨e1, e2⟩ := HS.out.next HI.out.qw (by omega) i hi
          have := putI HI.out i ((j : Int) + 1)
          rw [e1] at this
          exact this.mono fun e w' q => ⟨q.1, _, q.2, e2⟩))
        have FIN : Hid (∀ w3, (∃ S', QI w w3 g S' ∧ Put1 S' H (j + 1)) → ∃ S', QI w w3 g S' ∧ Put1 S' H (j + 1)) := fun _ h => h
        by_cases hjl : j < len
        · obtain ⟨b, off, ha, hbB, c0, c1, c2⟩ := (HH.out.below HI.out.bl).at_ j hjl
          subst ha
          generalize hx0 : (o j).x1 = y at *
          have HX0 := Lib.hid hx0
          clear c0 c2 hx0
          by_cases hy : 0 ≤ y
          · have hqz : y % (H : Int) = ((y % (H : Int)).toNat : Int) := by have := Int.emod_nonneg y (show (H : Int) ≠ 0 by omega); omega
            have hqlt : (y % (H : Int)).toNat < H := by have := Int.emod_lt_of_pos y (show (0 : Int) < H by omega); omega
            generalize hq : (y % (H : Int)).toNat = q at *
            have HPP := Lib.hid (HP.out q hqlt)
            clear hq
            go_wp2_with fail
            refine HPP.out.mono ?_
            rintro e w3 ⟨rfl, hI⟩
            have HI3 := Lib.hid hI
            clear hI
            go_wp2_with fail
            go_roundg (k + 1 - (j + 1))
            case measure => have := HK.out; omega
            case rel => obtain ⟨S', q1, q2⟩ := HI3.out; exact ⟨j + 1, S', by go_num, rfl, by omega, q1, q2⟩
          · have HPP := Lib.hid (HP.out 0 (by omega))
            go_wp2_with fail
            refine HPP.out.mono ?_
            rintro e w3 ⟨rfl, hI⟩
            have HI3 := Lib.hid hI
            clear hI
            go_wp2_with fail
            go_roundg (k + 1 - (j + 1))
            case measure => have := HK.out; omega
            case rel => obtain ⟨S', q1, q2⟩ := HI3.out; exact ⟨j + 1, S', by go_num, rfl, by omega, q1, q2⟩
        · have HPP := Lib.hid (HP.out 0 (by omega))
          go_wp2_with fail
          refine HPP.out.mono ?_
          rintro e w3 ⟨rfl, hI⟩
          have HI3 := Lib.hid hI
          clear hI
          go_wp2_with fail
          go_roundg (k + 1 - (j + 1))
          case measure => have := HK.out; omega
          case rel => obtain ⟨S', q1, q2⟩ := HI3.out; exact ⟨j + 1, S', by go_num, rfl, by omega, q1, q2⟩
      · obtain rfl : k = j := by omega
        obtain ⟨m1, m2⟩ := make_one (P := Try.prog) boolT rfl (k + 1) (by omega) (by omega) wr
        have hmk : (Instr.makeSlice 37 (.int .i64 ((k : Int) + 1)) (.int .i64 ((k : Int) + 1))).run Try.prog wr = .ok (.slice (some ⟨wr.heap.size, 0, none⟩) (k + 1) (k + 1)) (wr.alloc (.cells (madeCells #[.bool false] (k + 1)) 4)) := m1
        have HJ := Lib.hid (HI.out.aside (.cells (madeCells #[.bool false] (k + 1)) 4))
        have HF := Lib.hid (HS.out.fair HI.out.qw)
        have HR := Lib.hid (show Rw (wr.alloc (.cells (madeCells #[.bool false] (k + 1)) 4)) 4 1 (some ⟨wr.heap.size, 0, none⟩) (k + 1) (k + 1) (bv (List.replicate (k + 1) false)) by simpa [bv] using m2)
        have hwz := HI.out.bl.size
        have HN := Lib.hid HS.out.n
        clear m1 m2
        generalize hW : wr.alloc (.cells (madeCells #[.bool false] (k + 1)) 4) = w4 at *
        generalize hrb : wr.heap.size = rb at *
        have HRB := Lib.hid hrb
        go_wp2_with fail
        clear hW hmk hrb
        go_loopg [13, 14] (2 * k + 3) (fun gk r_ p14 wr => ∃ (r : Nat) (S : QS) (ran : List Bool), r_ = .int .i64 (r : Int) ∧ gk = 2 * k + 3 - r ∧ r ≤ 2 * k + 2 ∧ QJ (· = rb) w wr g S ∧ S.n = H ∧ Fair S k ran r 0 ∧ Rw wr 4 1 (some ⟨rb, 0, none⟩) (k + 1) (k + 1) (bv ran))
        case atStart => exact ⟨0, _, _, rfl, rfl, by omega, HJ.out, HN.out, HF.out, HR.out⟩
        case round =>
          obtain ⟨r, S, ran, rfl, hgk, hr, hJ, hN, hF, hR⟩ := hrel
          have HK := Lib.hid hgk
          have HJ := Lib.hid hJ
          have HN := Lib.hid hN
          have HF := Lib.hid hF
          have HR := Lib.hid hR
          clear hgk hJ hN hF hR
          by_cases hlt : r < 2 * k + 2
          · have hlt' : decide ((r : Int) < 2 * (k : Int) + 2) = true := by simp; omega
            obtain ⟨wo, hwo⟩ : ∃ wo : World, wo = wr := ⟨_, rfl⟩
            subst hwo
            go_wp2_with fail
            go_loopg [14] (H + 1) (fun gk h_ wx => ∃ (h : Nat) (S : QS) (ran : List Bool), h_ = .int .i64 (h : Int) ∧ gk = H + 1 - h ∧ h ≤ H ∧ QJ (· = rb) w wx g S ∧ S.n = H ∧ Fair S k ran r h ∧ Rw wx 4 1 (some ⟨rb, 0, none⟩) (k + 1) (k + 1) (bv ran))
            case atStart => exact ⟨0, S, ran, rfl, rfl, by omega, HJ.out, HN.out, HF.out, HR.out⟩
            case round =>
              obtain ⟨h, S, ran, rfl, hgk, hh, hJ, hN, hF, hR⟩ := hrel
              have HK2 := Lib.hid hgk
              have HJ := Lib.hid hJ
              have HN := Lib.hid hN
              have HF := Lib.hid hF
              have HR := Lib.hid hR
              clear hgk hJ hN hF hR
              by_cases hlt2 : h < H
              · obtain ⟨x, hx1, hx2, hx3, hx4⟩ := HF.out.turn HJ.out.qw (by rw [HN.out]; exact hlt2)
                have HX3 := Lib.hid (And.intro hx3 hx4)
                have HX1 := Lib.hid hx1
                clear hx1 hx3 hx4
                go_wp2_with fail
                refine (nextJ HJ.out h).mono ?_
                rintro e w5 ⟨rfl, hJ5, hK5⟩
                have HR5 := Lib.hid (HR.out.heap (w' := w5) fun q hq => hK5 q (by injection hq with hq; exact hq.symm))
                have hrun := runI hJ5.qi h
                rw [HX1.out] at hrun
                have HRN := Lib.hid hrun
                have HJ5 := Lib.hid hJ5
                obtain ⟨v, hv⟩ : ∃ v, w5.cell? ⟨rb, x, none⟩ = some v := by
                  rw [HR5.out.cell x (by omega)]
                  have hl : x < (bv ran).length := by rw [HR5.out.len]; omega
                  exact ⟨_, List.getElem?_eq_getElem hl⟩
                have hz := HR5.out.frozen x
                have HR6 := Lib.hid (HR5.out.put x (.bool true))
                have HJ6 := Lib.hid (hJ5.write (w' := w5.setCell ⟨rb, x, none⟩ (.bool true)) ((Ch.refl (· = rb) w5).cell _ _ fun _ => rfl) (fun _ q => q) (fun q hq => by rw [hq]; exact hwz))
                clear hJ5 hK5 hrun
                generalize nextF S h = N at *
                generalize hW5 : w5.setCell ⟨rb, x, none⟩ (.bool true) = w6 at *
                go_wp2_with fail
                refine HRN.out.mono ?_
                rintro e w' ⟨rfl, rfl⟩
                go_wp2_with fail
                refine (tickJ HJ6.out h).mono ?_
                rintro e w7 ⟨rfl, hJ7, hK7⟩
                have HR7 := Lib.hid (HR6.out.heap (w' := w7) fun q hq => hK7 q (by injection hq with hq; exact hq.symm))
                have HJ7 := Lib.hid hJ7
                have HBV := Lib.hid (show (bv ran).set x (.bool true) = bv (ran.set x true) by simp [bv, List.map_set])
                clear hJ7 hK7
                go_wp2_with fail
                go_roundg (H + 1 - (h + 1))
                case measure => have := HK2.out; omega
                case rel => exact ⟨h + 1, _, ran.set x true, by go_num, rfl, by omega, HJ7.out, by rw [HX3.out.2]; exact HN.out, HX3.out.1, by rw [← HBV.out]; exact HR7.out⟩
              · obtain rfl : h = H := by omega
                have HF2 := Lib.hid (Fair.round HJ.out.qw (by rw [HN.out]; exact HF.out))
                go_wp2_with fail
                go_roundg (2 * k + 3 - (r + 1))
                case measure => have := HK.out; omega
                case rel => exact ⟨r + 1, S, ran, by go_num, rfl, by omega, HJ.out, HN.out, HF2.out, HR.out⟩
          · go_wp2_with fail
            go_loopg [15] (k + 1) (fun gk t_ wx => ∃ (t : Nat), t_ = .int .i64 ((t : Int) + 1) ∧ gk = k + 1 - t ∧ t ≤ k ∧ wx = wr)
            case atStart => exact ⟨0, rfl, rfl, by omega, rfl⟩
            case round =>
              obtain ⟨t, rfl, hgk, ht, hwx⟩ := hrel
              have HK2 := Lib.hid hgk
              obtain rfl := hwx
              clear hgk
              by_cases hlt2 : t < k
              · have hran := HF.out.all (t := t + 1) (by omega) (by omega) (by omega)
                have hcell : wr.cell? ⟨rb, t + 1, none⟩ = some (.bool true) := by
                  rw [HR.out.cell (t + 1) (by omega)]; simp [bv, hran]
                clear hran
                go_wp2_with fail
                go_roundg (k + 1 - (t + 1))
                case measure => have := HK2.out; omega
                case rel => exact ⟨t + 1, by go_num, rfl, by omega, rfl⟩
              · obtain rfl : t = k := by omega
                go_wp2_with fail
                go_ret
                exact ⟨by first | rfl | simp, HJ.out.bl⟩
  · go_wp2_with fail
    have HXX := Lib.hid hX
    clear hX
    go_loopg [10, 11] (k + 1) (fun gk t_ p11 wr => ∃ (j : Nat) (S : QS), t_ = .int .i64 ((j : Int) + 1) ∧ gk = k + 1 - j ∧ j ≤ k ∧ QI w wr g S ∧ Put1 S H j)
    case atStart => exact ⟨0, S0 H, rfl, rfl, by omega, HI2.out, HW0.out⟩
    case round =>
      obtain ⟨j, S, rfl, hgk, hj, hI, hS⟩ := hrel
      have HK := Lib.hid hgk
      have HI := Lib.hid hI
      have HS := Lib.hid hS
      clear hgk hI hS
      by_cases hlt : j < k
      · have HP := Lib.hid (fun (i : Nat) (hi : i < H) => (show Calls Try.prog 11 #[.pointer (some ⟨g, 0, none⟩), .int .i64 (i : Int), .int .i64 ((j : Int) + 1)] wr fun e w' => e = .returned (.int .i64 0) ∧ ∃ S', QI w w' g S' ∧ Put1 S' H (j + 1) from by
          obtain ⟨e1, e2⟩ := HS.out.next HI.out.qw (by omega) i hi
          have := putI HI.out i ((j : Int) + 1)
          rw [e1] at this
          exact this.mono fun e w' q => ⟨q.1, _, q.2, e2⟩))
        have FIN : Hid (∀ w3, (∃ S', QI w w3 g S' ∧ Put1 S' H (j + 1)) → ∃ S', QI w w3 g S' ∧ Put1 S' H (j + 1)) := fun _ h => h
        by_cases hjl : j < len
        · obtain ⟨b, off, ha, hbB, c0, c1, c2⟩ := (HH.out.below HI.out.bl).at_ j hjl
          subst ha
          generalize hx0 : (o j).x1 = y at *
          have HX0 := Lib.hid hx0
          clear c0 c2 hx0
          by_cases hy : 0 ≤ y
          · have hqz : y % (H : Int) = ((y % (H : Int)).toNat : Int) := by have := Int.emod_nonneg y (show (H : Int) ≠ 0 by omega); omega
            have hqlt : (y % (H : Int)).toNat < H := by have := Int.emod_lt_of_pos y (show (0 : Int) < H by omega); omega
            generalize hq : (y % (H : Int)).toNat = q at *
            have HPP := Lib.hid (HP.out q hqlt)
            clear hq
            go_wp2_with fail
            refine HPP.out.mono ?_
            rintro e w3 ⟨rfl, hI⟩
            have HI3 := Lib.hid hI
            clear hI
            go_wp2_with fail
            go_roundg (k + 1 - (j + 1))
            case measure => have := HK.out; omega
            case rel => obtain ⟨S', q1, q2⟩ := HI3.out; exact ⟨j + 1, S', by go_num, rfl, by omega, q1, q2⟩
          · have HPP := Lib.hid (HP.out 0 (by omega))
            go_wp2_with fail
            refine HPP.out.mono ?_
            rintro e w3 ⟨rfl, hI⟩
            have HI3 := Lib.hid hI
            clear hI
            go_wp2_with fail
            go_roundg (k + 1 - (j + 1))
            case measure => have := HK.out; omega
            case rel => obtain ⟨S', q1, q2⟩ := HI3.out; exact ⟨j + 1, S', by go_num, rfl, by omega, q1, q2⟩
        · have HPP := Lib.hid (HP.out 0 (by omega))
          go_wp2_with fail
          refine HPP.out.mono ?_
          rintro e w3 ⟨rfl, hI⟩
          have HI3 := Lib.hid hI
          clear hI
          go_wp2_with fail
          go_roundg (k + 1 - (j + 1))
          case measure => have := HK.out; omega
          case rel => obtain ⟨S', q1, q2⟩ := HI3.out; exact ⟨j + 1, S', by go_num, rfl, by omega, q1, q2⟩
      · obtain rfl : k = j := by omega
        obtain ⟨m1, m2⟩ := make_one (P := Try.prog) boolT rfl (k + 1) (by omega) (by omega) wr
        have hmk : (Instr.makeSlice 37 (.int .i64 ((k : Int) + 1)) (.int .i64 ((k : Int) + 1))).run Try.prog wr = .ok (.slice (some ⟨wr.heap.size, 0, none⟩) (k + 1) (k + 1)) (wr.alloc (.cells (madeCells #[.bool false] (k + 1)) 4)) := m1
        have HJ := Lib.hid (HI.out.aside (.cells (madeCells #[.bool false] (k + 1)) 4))
        have HF := Lib.hid (HS.out.fair HI.out.qw)
        have HR := Lib.hid (show Rw (wr.alloc (.cells (madeCells #[.bool false] (k + 1)) 4)) 4 1 (some ⟨wr.heap.size, 0, none⟩) (k + 1) (k + 1) (bv (List.replicate (k + 1) false)) by simpa [bv] using m2)
        have hwz := HI.out.bl.size
        have HN := Lib.hid HS.out.n
        clear m1 m2
        generalize hW : wr.alloc (.cells (madeCells #[.bool false] (k + 1)) 4) = w4 at *
        generalize hrb : wr.heap.size = rb at *
        have HRB := Lib.hid hrb
        go_wp2_with fail
        clear hW hmk hrb
        go_loopg [13, 14] (2 * k + 3) (fun gk r_ p14 wr => ∃ (r : Nat) (S : QS) (ran : List Bool), r_ = .int .i64 (r : Int) ∧ gk = 2 * k + 3 - r ∧ r ≤ 2 * k + 2 ∧ QJ (· = rb) w wr g S ∧ S.n = H ∧ Fair S k ran r 0 ∧ Rw wr 4 1 (some ⟨rb, 0, none⟩) (k + 1) (k + 1) (bv ran))
        case atStart => exact ⟨0, _, _, rfl, rfl, by omega, HJ.out, HN.out, HF.out, HR.out⟩
        case round =>
          obtain ⟨r, S, ran, rfl, hgk, hr, hJ, hN, hF, hR⟩ := hrel
          have HK := Lib.hid hgk
          have HJ := Lib.hid hJ
          have HN := Lib.hid hN
          have HF := Lib.hid hF
          have HR := Lib.hid hR
          clear hgk hJ hN hF hR
          by_cases hlt : r < 2 * k + 2
          · have hlt' : decide ((r : Int) < 2 * (k : Int) + 2) = true := by simp; omega
            obtain ⟨wo, hwo⟩ : ∃ wo : World, wo = wr := ⟨_, rfl⟩
            subst hwo
            go_wp2_with fail
            go_loopg [14] (H + 1) (fun gk h_ wx => ∃ (h : Nat) (S : QS) (ran : List Bool), h_ = .int .i64 (h : Int) ∧ gk = H + 1 - h ∧ h ≤ H ∧ QJ (· = rb) w wx g S ∧ S.n = H ∧ Fair S k ran r h ∧ Rw wx 4 1 (some ⟨rb, 0, none⟩) (k + 1) (k + 1) (bv ran))
            case atStart => exact ⟨0, S, ran, rfl, rfl, by omega, HJ.out, HN.out, HF.out, HR.out⟩
            case round =>
              obtain ⟨h, S, ran, rfl, hgk, hh, hJ, hN, hF, hR⟩ := hrel
              have HK2 := Lib.hid hgk
              have HJ := Lib.hid hJ
              have HN := Lib.hid hN
              have HF := Lib.hid hF
              have HR := Lib.hid hR
              clear hgk hJ hN hF hR
              by_cases hlt2 : h < H
              · obtain ⟨x, hx1, hx2, hx3, hx4⟩ := HF.out.turn HJ.out.qw (by rw [HN.out]; exact hlt2)
                have HX3 := Lib.hid (And.intro hx3 hx4)
                have HX1 := Lib.hid hx1
                clear hx1 hx3 hx4
                go_wp2_with fail
                refine (nextJ HJ.out h).mono ?_
                rintro e w5 ⟨rfl, hJ5, hK5⟩
                have HR5 := Lib.hid (HR.out.heap (w' := w5) fun q hq => hK5 q (by injection hq with hq; exact hq.symm))
                have hrun := runI hJ5.qi h
                rw [HX1.out] at hrun
                have HRN := Lib.hid hrun
                have HJ5 := Lib.hid hJ5
                obtain ⟨v, hv⟩ : ∃ v, w5.cell? ⟨rb, x, none⟩ = some v := by
                  rw [HR5.out.cell x (by omega)]
                  have hl : x < (bv ran).length := by rw [HR5.out.len]; omega
                  exact ⟨_, List.getElem?_eq_getElem hl⟩
                have hz := HR5.out.frozen x
                have HR6 := Lib.hid (HR5.out.put x (.bool true))
                have HJ6 := Lib.hid (hJ5.write (w' := w5.setCell ⟨rb, x, none⟩ (.bool true)) ((Ch.refl (· = rb) w5).cell _ _ fun _ => rfl) (fun _ q => q) (fun q hq => by rw [hq]; exact hwz))
                clear hJ5 hK5 hrun
                generalize nextF S h = N at *
                generalize hW5 : w5.setCell ⟨rb, x, none⟩ (.bool true) = w6 at *
                go_wp2_with fail
                refine HRN.out.mono ?_
                rintro e w' ⟨rfl, rfl⟩
                go_wp2_with fail
                refine (tickJ HJ6.out h).mono ?_
                rintro e w7 ⟨rfl, hJ7, hK7⟩
                have HR7 := Lib.hid (HR6.out.heap (w' := w7) fun q hq => hK7 q (by injection hq with hq; exact hq.symm))
                have HJ7 := Lib.hid hJ7
                have HBV := Lib.hid (show (bv ran).set x (.bool true) = bv (ran.set x true) by simp [bv, List.map_set])
                clear hJ7 hK7
                go_wp2_with fail
                go_roundg (H + 1 - (h + 1))
                case measure => have := HK2.out; omega
                case rel => exact ⟨h + 1, _, ran.set x true, by go_num, rfl, by omega, HJ7.out, by rw [HX3.out.2]; exact HN.out, HX3.out.1, by rw [← HBV.out]; exact HR7.out⟩
              · obtain rfl : h = H := by omega
                have HF2 := Lib.hid (Fair.round HJ.out.qw (by rw [HN.out]; exact HF.out))
                go_wp2_with fail
                go_roundg (2 * k + 3 - (r + 1))
                case measure => have := HK.out; omega
                case rel => exact ⟨r + 1, S, ran, by go_num, rfl, by omega, HJ.out, HN.out, HF2.out, HR.out⟩
          · go_wp2_with fail
            go_loopg [15] (k + 1) (fun gk t_ wx => ∃ (t : Nat), t_ = .int .i64 ((t : Int) + 1) ∧ gk = k + 1 - t ∧ t ≤ k ∧ wx = wr)
            case atStart => exact ⟨0, rfl, rfl, by omega, rfl⟩
            case round =>
              obtain ⟨t, rfl, hgk, ht, hwx⟩ := hrel
              have HK2 := Lib.hid hgk
              obtain rfl := hwx
              clear hgk
              by_cases hlt2 : t < k
              · have hran := HF.out.all (t := t + 1) (by omega) (by omega) (by omega)
                have hcell : wr.cell? ⟨rb, t + 1, none⟩ = some (.bool true) := by
                  rw [HR.out.cell (t + 1) (by omega)]; simp [bv, hran]
                clear hran
                go_wp2_with fail
                go_roundg (k + 1 - (t + 1))
                case measure => have := HK2.out; omega
                case rel => exact ⟨t + 1, by go_num, rfl, by omega, rfl⟩
              · obtain rfl : t = k := by omega
                go_wp2_with fail
                go_ret
                exact ⟨by first | rfl | simp, HJ.out.bl⟩
theorem all_walk (n : Int) (hb : -9223372036854775808 ≤ n ∧ n ≤ 9223372036854775807) (a : Option Addr) (len cap : Nat) (o : Nat → OpV) (cnt : Int) (hc : -9223372036854775808 ≤ cnt ∧ cnt ≤ 9223372036854775807) (w : World) (h : AreOp w w.heap.size a len cap o) : Calls Try.prog 4 #[.int .i64 n, .slice a len cap, .int .i64 cnt] w fun e w' => e = .returned (.bool true) ∧ Below w.heap.size w w' := by
  by_cases hn : 1 ≤ n ∧ n ≤ 8
  · obtain ⟨H, rfl⟩ : ∃ H : Nat, n = H := ⟨n.toNat, by omega⟩
    exact all_ok H a len cap o cnt hc w h (by omega) (by omega)
  · exact all_bad n a len cap cnt w hn
end Go.Proofs.Ytphikmdgdbdaiaa
