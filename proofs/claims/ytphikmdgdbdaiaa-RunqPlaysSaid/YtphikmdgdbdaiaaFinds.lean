import Derived.Test.YtphikmdgdbdaiaaAll
/- RunqFinds: a hart without work finds some, if there is any: the walk returns true for every input. -/
namespace Go.Proofs.Ytphikmdgdbdaiaa
open Go.RowKit Go.BigFrame
set_option linter.unusedVariables false
set_option linter.unusedSimpArgs false
attribute [local go_sem] szIs_lit row_at row_past row_alloc nf_alloc row_set nf_set row_cell nf_cell row_drew nf_drew row_drewN nf_drewN cell_setRow frozen_setRow nlt1 nlt2 nlt3 nlt4 nne1 nne2 nne3 nen1 nen2 nen3
theorem putF_n (S : QS) (h t : Int) : (putF S h t).2.n = S.n := by unfold putF; split; rfl; split; rfl; split; rfl; rfl
theorem wakeF_n (S : QS) (t : Int) : (wakeF S t).2.n = S.n := putF_n _ _ _
theorem nextF_n (S : QS) (h : Int) : (nextF S h).2.n = S.n := by
  unfold nextF
  split
  · rfl
  · split
    · rfl
    · split <;> rfl
theorem tickF_n (S : QS) (h : Int) : (tickF S h).2.n = S.n := by unfold tickF; split <;> rfl
theorem sleepF_n (S : QS) (h : Int) : (sleepF S h).2.n = S.n := by unfold sleepF; split <;> rfl
theorem removeF_n (S : QS) (t : Int) : (removeF S t).2.n = S.n := by
  unfold removeF
  split
  · unfold removeS; split <;> rfl
  · rfl
def wts (S : QS) (k : Nat) : Nat := sumTo (fun h => (S.Q h).length) k
theorem lng_max (S : QS) : ∀ k h, h < k → (S.Q h).length ≤ (S.Q (lng S k)).length
  | 0, h, hh => by omega
  | k + 1, h, hh => by
    unfold lng
    by_cases e : h = k
    · subst e; split <;> omega
    · have := lng_max S k h (by omega)
      split <;> omega
theorem wts_pos {S : QS} (W : QW S) : 0 < wts S S.n ↔ S.Q (lng S S.n) ≠ [] := by
  have hl : lng S S.n < S.n := by have := W.n1; rcases lng_lt S S.n with h | h <;> omega
  constructor
  · intro h e
    have : ∀ k, k ≤ S.n → sumTo (fun h => (S.Q h).length) k = 0 := by
      intro k
      induction k with
      | zero => intro _; rfl
      | succ k ih =>
        intro hk
        have h1 := lng_max S S.n k (by omega)
        rw [e] at h1
        unfold sumTo
        have h2 := ih (by omega)
        simp only [List.length_nil] at h1
        show sumTo (fun h => (S.Q h).length) k + (S.Q k).length = 0
        omega
    have := this S.n (Nat.le_refl _)
    unfold wts at h; omega
  · intro h
    have h1 := sumTo_le (fun h => (S.Q h).length) S.n hl
    have h2 := List.length_pos_iff.2 h
    have h3 : (S.Q (lng S S.n)).length ≤ wts S S.n := h1
    omega
theorem wts_le {S : QS} (W : QW S) : wts S S.n ≤ 64 := by
  have h1 := W.len
  have h2 := W.cap
  have : ∀ k, sumTo (fun h => (S.Q h).length) k ≤ sumTo (fun h => (hs S h).length) k := by
    intro k
    induction k with
    | zero => exact Nat.le_refl _
    | succ k ih => unfold sumTo; have : (S.Q k).length ≤ (hs S k).length := by unfold hs; simp
                   show sumTo (fun h => (S.Q h).length) k + (S.Q k).length ≤ sumTo (fun h => (hs S h).length) k + (hs S k).length
                   omega
  have h3 := this S.n
  unfold tot at h1; unfold wts; omega
/-- What Next tells: whether it finds one, and what then stands. -/
theorem next_tells {S : QS} (W : QW S) (h : Int) :
    ((nextF S h).1.2 = decide (inH S h ∧ S.R h.toNat = 0 ∧ 0 < wts S S.n)) ∧ ((nextF S h).1.2 = false → (nextF S h).1.1 = 0) ∧ ((nextF S h).1.2 = true → runF (nextF S h).2 h = (nextF S h).1.1 ∧ whereF (nextF S h).2 (nextF S h).1.1 = (h, true)) := by
  by_cases hh : inH S h
  · obtain ⟨k, rfl, hk⟩ := inH_nat hh
    have hkt : ((k : Int)).toNat = k := by omega
    by_cases hr : 0 < S.R k
    · have e : nextF S k = ((0, false), S) := by unfold nextF; rw [hkt, if_pos (.inr hr)]
      rw [e]
      refine ⟨?_, fun _ => rfl, fun h => by cases h⟩
      rw [eq_comm, decide_eq_false_iff_not, hkt]
      exact fun q => by omega
    · have h0 : S.R k = 0 := by have := W.r0 k; omega
      have hn : ¬ (¬ inH S k ∨ 0 < S.R k) := by simp [hh, h0]
      cases hq : S.Q k with
      | cons x r =>
        have e : nextF S k = ((x, true), takeS S k x r) := by unfold nextF; rw [hkt, if_neg hn, hq]
        rw [e]
        refine ⟨?_, (fun h => by cases h), fun _ => ⟨?_, ?_⟩⟩
        · rw [eq_comm, decide_eq_true_eq, hkt]
          refine ⟨hh, h0, ?_⟩
          have h1 := sumTo_le (fun h => (S.Q h).length) S.n hk
          have h3 : (S.Q k).length ≤ wts S S.n := h1
          rw [hq] at h3; simp at h3; omega
        · have : inH (takeS S k x r) k := hh
          show runF (takeS S k x r) k = x
          unfold runF; rw [if_pos this, hkt]; simp [takeS, QS.setM, QS.setR]
        · show whereF (takeS S k x r) x = _
          unfold whereF
          rw [show (takeS S k x r).M.get x = some (.int .i64 (k : Int)) by show (S.M.put x _).get x = _; rw [IM.get_put, if_pos rfl]]
      | nil =>
        rcases List.eq_nil_or_concat (S.Q (lng S S.n)) with hb | ⟨l, t, hb⟩
        · have e : nextF S k = ((0, false), S) := by unfold nextF; rw [hkt, if_neg hn, hq, hb]; rfl
          rw [e]
          refine ⟨?_, fun _ => rfl, (fun h => by cases h)⟩
          rw [eq_comm, decide_eq_false_iff_not]
          exact fun q => (wts_pos W).1 q.2.2 hb
        · rw [List.concat_eq_append] at hb
          have e : nextF S k = ((t, true), stealS S k t l) := by unfold nextF; rw [hkt, if_neg hn, hq, hb]; simp
          rw [e]
          refine ⟨?_, (fun h => by cases h), fun _ => ⟨?_, ?_⟩⟩
          · rw [eq_comm, decide_eq_true_eq, hkt]
            exact ⟨hh, h0, (wts_pos W).2 (by rw [hb]; simp)⟩
          · have : inH (stealS S k t l) k := hh
            show runF (stealS S k t l) k = t
            unfold runF; rw [if_pos this, hkt]; simp [stealS, QS.setM, QS.setR]
          · show whereF (stealS S k t l) t = _
            unfold whereF
            rw [show (stealS S k t l).M.get t = some (.int .i64 (k : Int)) by show (S.M.put t _).get t = _; rw [IM.get_put, if_pos rfl]]
  · have e : nextF S h = ((0, false), S) := by unfold nextF; rw [if_pos (.inl hh)]
    rw [e]
    refine ⟨?_, fun _ => rfl, (fun h => by cases h)⟩
    rw [eq_comm, decide_eq_false_iff_not]
    exact fun q => hh q.1
set_option maxRecDepth 100000 in
set_option maxHeartbeats 4000000 in
theorem finds_bad (n : Int) (a : Option Addr) (len cap : Nat) (ht : Int) (w : World) (hn : ¬ (1 ≤ n ∧ n ≤ 8)) : Calls Try.prog 5 #[.int .i64 n, .slice a len cap, .int .i64 ht] w fun e w' => e = .returned (.bool true) ∧ Below w.heap.size w w' := by
  have HN := Lib.hid (new_bad n w hn)
  clear hn
  go_enter Try.func5, Try.ntmps5
  go_wp2_with fail
  refine HN.out.mono ?_
  rintro e w1 ⟨rfl, rfl⟩
  go_wp2_with fail
  refine (lives_ok w).mono ?_
  rintro e w1 ⟨rfl, hB⟩
  have HB := Lib.hid hB
  clear hB
  go_wp2
  go_ret
  exact ⟨by first | rfl | simp, HB.out⟩
set_option maxRecDepth 100000 in
set_option maxHeartbeats 16000000 in
theorem finds_ok (H : Nat) (a : Option Addr) (len cap : Nat) (o : Nat → OpV) (ht : Int) (w : World) (h : AreOp w w.heap.size a len cap o) (n1 : 1 ≤ H) (n2 : H ≤ 8) : Calls Try.prog 5 #[.int .i64 (H : Int), .slice a len cap, .int .i64 ht] w fun e w' => e = .returned (.bool true) ∧ Below w.heap.size w w' := by
  have hlen := h.2.2.1
  have hlr : len ≤ 9223372036854775806 := by unfold reachBytes at hlen; omega
  have HH := Lib.hid h
  clear h hlen
  go_enter Try.func5, Try.ntmps5
  go_wp2_with fail
  refine (newI H w n1 n2).mono ?_
  rintro e w1 ⟨g, rfl, hI⟩
  have HI1 := Lib.hid hI
  clear hI
  go_wp2_with fail
  refine (livesI HI1.out).mono ?_
  rintro e w2 ⟨rfl, hI⟩
  have HI2 := Lib.hid hI
  clear hI
  go_wp2_with fail
  go_loopg [9, 10] len (fun gk i_ p10 wr => ∃ (j : Nat) (S : QS), i_ = .int .i64 (j : Int) ∧ gk = len - j ∧ j ≤ len ∧ QI w wr g S ∧ S.n = H)
  case atStart => exact ⟨0, S0 H, rfl, rfl, by omega, HI2.out, rfl⟩
  case round =>
    obtain ⟨j, S, rfl, hgk, hj, hI, hN⟩ := hrel
    have HK := Lib.hid hgk
    have HI := Lib.hid hI
    have HN := Lib.hid hN
    clear hgk hI hN
    by_cases hlt : j < len
    · obtain ⟨b, off, ha, hbB, c0, c1, c2⟩ := (HH.out.below HI.out.bl).at_ j hlt
      subst ha
      generalize hx : (o j).x0 = x at *
      generalize hy : (o j).x1 = y at *
      generalize hz : (o j).x2 = z at *
      have HX := Lib.hid (And.intro hx (And.intro hy hz))
      clear hx hy hz
      have HIA := Lib.hid (HI.out.alloc (.cells #[.int .i64 x, .int .i64 y, .int .i64 z] 36))
      by_cases h1 : x = 1
      · subst h1
        go_wp2_with fail
        refine (putI HIA.out y z).mono ?_
        rintro e w3 ⟨rfl, hI⟩
        have HI3 := Lib.hid hI
        have HN3 := Lib.hid ((putF_n S y z).trans HN.out)
        clear hI
        go_wp2_with fail
        go_roundg (len - (j + 1))
        case measure => have := HK.out; omega
        case rel => exact ⟨j + 1, _, by go_num, rfl, by omega, HI3.out, HN3.out⟩
      by_cases h3 : x = 3
      · subst h3
        go_wp2_with fail
        refine (nextI HIA.out y).mono ?_
        rintro e w3 ⟨rfl, hI⟩
        have HI3 := Lib.hid hI
        have HN3 := Lib.hid ((nextF_n S y).trans HN.out)
        clear hI
        go_wp2_with fail
        go_roundg (len - (j + 1))
        case measure => have := HK.out; omega
        case rel => exact ⟨j + 1, _, by go_num, rfl, by omega, HI3.out, HN3.out⟩
      by_cases h4 : x = 4
      · subst h4
        go_wp2_with fail
        refine (tickI HIA.out y).mono ?_
        rintro e w3 ⟨rfl, hI⟩
        have HI3 := Lib.hid hI
        have HN3 := Lib.hid ((tickF_n S y).trans HN.out)
        clear hI
        go_wp2_with fail
        go_roundg (len - (j + 1))
        case measure => have := HK.out; omega
        case rel => exact ⟨j + 1, _, by go_num, rfl, by omega, HI3.out, HN3.out⟩
      by_cases h5 : x = 5
      · subst h5
        go_wp2_with fail
        refine (sleepI HIA.out y).mono ?_
        rintro e w3 ⟨rfl, hI⟩
        have HI3 := Lib.hid hI
        have HN3 := Lib.hid ((sleepF_n S y).trans HN.out)
        clear hI
        go_wp2_with fail
        go_roundg (len - (j + 1))
        case measure => have := HK.out; omega
        case rel => exact ⟨j + 1, _, by go_num, rfl, by omega, HI3.out, HN3.out⟩
      · have k1 : (x == 1) = false := by simpa using h1
        have k3 : (x == 3) = false := by simpa using h3
        have k4 : (x == 4) = false := by simpa using h4
        have k5 : (x == 5) = false := by simpa using h5
        clear h1 h3 h4 h5
        go_wp2_with fail
        go_roundg (len - (j + 1))
        case measure => have := HK.out; omega
        case rel => exact ⟨j + 1, _, by go_num, rfl, by omega, HIA.out, HN.out⟩
    · obtain rfl : j = len := by omega
      go_wp2_with fail
      go_loopg [11, 12] H (fun gk wt_ h_ wx => ∃ (i : Nat), wt_ = .int .i64 (wts S i : Int) ∧ h_ = .int .i64 (i : Int) ∧ gk = H - i ∧ i ≤ H ∧ QI w wx g S)
      case atStart => exact ⟨0, rfl, rfl, rfl, by omega, HI.out⟩
      case round =>
        obtain ⟨i, rfl, rfl, hgk, hi, hI⟩ := hrel
        have HK2 := Lib.hid hgk
        have HI := Lib.hid hI
        clear hgk hI
        by_cases hlt2 : i < H
        · have hq := queI HI.out i
          rw [show queF S i = S.Q i by unfold queF; rw [if_pos ⟨by omega, by rw [HN.out]; omega⟩]; simp] at hq
          have HQ := Lib.hid hq
          have HWS := Lib.hid (show wts S (i + 1) = wts S i + (S.Q i).length from rfl)
          have hwl := wts_le HI.out.qw
          have hle : wts S (i + 1) ≤ 64 := by
            have h1 : ∀ m, i + 1 + m ≤ S.n → wts S (i + 1) ≤ wts S (i + 1 + m) := by
              intro m
              induction m with
              | zero => intro _; exact Nat.le_refl _
              | succ m ih => intro hm; have h2 := ih (by omega); have : wts S (i + 1 + (m + 1)) = wts S (i + 1 + m) + (S.Q (i + 1 + m)).length := rfl; omega
            have h2 := h1 (S.n - (i + 1)) (by rw [HN.out]; omega)
            rw [show i + 1 + (S.n - (i + 1)) = S.n by rw [HN.out]; omega] at h2
            omega
          have hle2 : wts S i + (S.Q i).length ≤ 64 := by rw [← HWS.out]; exact hle
          generalize hwi : wts S i = wi at *
          generalize hqi : (S.Q i).length = qi at *
          have HWI := Lib.hid (And.intro hwi hqi)
          clear hq hwl hle hwi hqi
          go_wp2_with fail
          refine HQ.out.mono ?_
          rintro e w3 ⟨A, c, rfl, _, hI, _, _⟩
          have HI3 := Lib.hid hI
          clear hI
          go_wp2_with fail
          go_roundg (H - (i + 1))
          case measure => have := HK2.out; omega
          case rel => exact ⟨i + 1, by rw [HWS.out]; go_num, by go_num, rfl, by omega, HI3.out⟩
        · obtain rfl : i = H := by omega
          obtain ⟨t1, t2, t3⟩ := next_tells HI.out.qw ht
          have hrun := runI HI.out ht
          have hrv : runF S ht = if inH S ht then S.R ht.toNat else 0 := rfl
          rw [HN.out] at t1
          have hin : inH S ht ↔ (0 ≤ ht ∧ ht < (i : Int)) := by unfold inH; rw [HN.out]
          generalize hwi : wts S i = wi at *
          have HNX := Lib.hid (nextI HI.out ht)
          generalize hNF : nextF S ht = N at *
          obtain ⟨⟨t, ok⟩, S'⟩ := N
          simp only at t1 t2 t3 HNX
          have hwi64 : wi ≤ 64 := by rw [← hwi, ← HN.out]; exact wts_le HI.out.qw
          have T3 := Lib.hid t3
          have HWI := Lib.hid hwi
          clear t3 hwi hNF
          by_cases hh : 0 ≤ ht ∧ ht < (i : Int)
          · obtain ⟨k, rfl⟩ : ∃ k : Nat, ht = k := ⟨ht.toNat, by omega⟩
            have hkt : ((k : Int)).toNat = k := by omega
            rw [hkt] at t1 hrv
            rw [hrv, if_pos (hin.2 hh)] at hrun
            clear hrv
            generalize hR : S.R k = r at *
            have HRN := Lib.hid hrun
            have hki := hh.2
            clear hrun
            by_cases hr0 : r = 0
            · by_cases hw0 : 0 < wi
              · have hok : ok = true := by rw [t1]; exact decide_eq_true ⟨hin.2 hh, hr0, hw0⟩
                subst hok
                obtain ⟨q1, q2⟩ := T3.out rfl
                subst hr0
                clear t1 t2 hin hh hR
                go_wp2_with fail
                refine HRN.out.mono ?_
                rintro e w' ⟨rfl, rfl⟩
                go_wp2_with fail
                refine HNX.out.mono ?_
                rintro e w3 ⟨rfl, hI⟩
                have hw := whereI hI t
                rw [q2] at hw
                have hr := runI hI (k : Int)
                rw [q1] at hr
                have HI3 := Lib.hid hI
                have HW := Lib.hid hw
                have HR := Lib.hid hr
                clear hI hw hr q1 q2
                go_wp2_with fail
                refine HW.out.mono ?_
                rintro e w' ⟨rfl, rfl⟩
                go_wp2_with fail
                refine HR.out.mono ?_
                rintro e w' ⟨rfl, rfl⟩
                go_wp2_with fail
                go_ret
                exact ⟨by first | rfl | simp, HI3.out.bl⟩
              · have hok : ok = false := by rw [t1]; exact decide_eq_false fun q => hw0 q.2.2
                subst hok
                obtain rfl : t = 0 := t2 rfl
                obtain rfl : wi = 0 := by omega
                subst hr0
                clear t1 t2 hin hh hR hw0
                go_wp2_with fail
                refine HRN.out.mono ?_
                rintro e w' ⟨rfl, rfl⟩
                go_wp2_with fail
                refine HNX.out.mono ?_
                rintro e w3 ⟨rfl, hI⟩
                have HI3 := Lib.hid hI
                clear hI
                go_wp2_with fail
                go_ret
                exact ⟨by first | rfl | simp, HI3.out.bl⟩
            · have hok : ok = false := by rw [t1]; exact decide_eq_false fun q => hr0 q.2.1
              subst hok
              obtain rfl : t = 0 := t2 rfl
              have k0 : (r == 0) = false := by simpa using hr0
              clear t1 t2 hin hh hR hr0
              go_wp2_with fail
              refine HRN.out.mono ?_
              rintro e w' ⟨rfl, rfl⟩
              go_wp2_with fail
              refine HNX.out.mono ?_
              rintro e w3 ⟨rfl, hI⟩
              have HI3 := Lib.hid hI
              clear hI
              go_wp2_with fail
              go_ret
              exact ⟨by first | rfl | simp, HI3.out.bl⟩
          · have hok : ok = false := by rw [t1]; exact decide_eq_false fun q => hh (hin.1 q.1)
            subst hok
            obtain rfl : t = 0 := t2 rfl
            clear t1 t2 hin hrv hrun
            by_cases h0 : 0 ≤ ht
            · have h1 : ¬ ht < (i : Int) := fun q => hh ⟨h0, q⟩
              clear hh
              go_wp2_with fail
              refine HNX.out.mono ?_
              rintro e w3 ⟨rfl, hI⟩
              have HI3 := Lib.hid hI
              clear hI
              go_wp2_with fail
              go_ret
              exact ⟨by first | rfl | simp, HI3.out.bl⟩
            · clear hh
              go_wp2_with fail
              refine HNX.out.mono ?_
              rintro e w3 ⟨rfl, hI⟩
              have HI3 := Lib.hid hI
              clear hI
              go_wp2_with fail
              go_ret
              exact ⟨by first | rfl | simp, HI3.out.bl⟩
theorem finds_walk (n : Int) (hb : -9223372036854775808 ≤ n ∧ n ≤ 9223372036854775807) (a : Option Addr) (len cap : Nat) (o : Nat → OpV) (ht : Int) (hc : -9223372036854775808 ≤ ht ∧ ht ≤ 9223372036854775807) (w : World) (h : AreOp w w.heap.size a len cap o) : Calls Try.prog 5 #[.int .i64 n, .slice a len cap, .int .i64 ht] w fun e w' => e = .returned (.bool true) ∧ Below w.heap.size w w' := by
  by_cases hn : 1 ≤ n ∧ n ≤ 8
  · obtain ⟨H, rfl⟩ : ∃ H : Nat, n = H := ⟨n.toNat, by omega⟩
    exact finds_ok H a len cap o ht w h (by omega) (by omega)
  · exact finds_bad n a len cap ht w hn
end Go.Proofs.Ytphikmdgdbdaiaa
