import Derived.Test.YtngjpokbjnjodaaRefT7
import Derived.Deep.QuietTactic
import Derived.BigQuiet
import Derived.Deep.LoopGhost
import Derived.Deep.Cut
import Derived.Deep.CutRange
import Derived.Deep.DeepMust
/- The reference table: Set. -/
namespace Go.Proofs.Ytngjpokbjnjodaa
open Go.RowKit Go.BigFrame
set_option linter.unusedVariables false
set_option linter.unusedSimpArgs false
attribute [local go_sem] szIs_lit row_at row_past row_alloc nf_alloc row_set nf_set row_cell nf_cell row_drew nf_drew row_drewN nf_drewN cell_setRow frozen_setRow nlt1 nlt2 nlt3 nlt4 nne1 nne2 nne3 nen1 nen2 nen3
attribute [local go_sem] by_get by_set
section
variable {w w' : World} {x : Nat} {Z : Nat → Prop} {F root : Int} {L : Nat → Option Nat} {E : Nat → Int} {A : Option Addr} {c : Nat}
def CT (_ : World) : Prop := True
theorem ld95 {x n c : Nat} {A : Option Addr} (hc : w.cell? ⟨x, 2, none⟩ = some (.slice A n c)) : (Instr.loadAt 95 (.pointer (some ⟨x, 2, none⟩))).run Try.prog w = .ok (.slice A n c) w := by simp [go_sem, hc]
theorem Rw.rd_take {n i : Nat} {l : List (Nat × Nat)} (h : Rw w 100 2 A n c (lv l)) (hl : l.length = n) (hi : i ≤ n) : Rd w A (lv (l.take i)) := by
  rcases h.addr with ⟨rfl, h0, _⟩ | ⟨b, rfl⟩
  · have : l = [] := List.length_eq_zero_iff.1 (by omega)
    subst this
    simpa [lv] using Rd.nil w none
  · have := h.take i hi
    rw [lv_take] at this
    exact this.rd (lv_one _)
theorem rset_page (p : Int) (hp : ¬ (0 ≤ p ∧ p < 256)) (v : Value) (e sp : Int) (w : World) : Calls Try.prog 55 #[v, .int .i64 p, .int .u32 e, .int .i64 sp] w fun r w' => r = .returned (.tuple #[.bool false, .int .i64 1]) ∧ w = w' := by
  have HP := Lib.hid (rpage_no p hp)
  clear hp
  go_enter Try.func55, Try.ntmps55
  go_wp2_with fail
  refine (HP.out _).mono ?_
  rintro r w1 ⟨rfl, rfl⟩
  go_wp2
  go_ret2
  exact ⟨by first | rfl | simp, rfl⟩
set_option maxRecDepth 100000 in
set_option maxHeartbeats 4000000 in
theorem rset_may (h : Blk w x (rrow F root (.slice A (lvL L).length c) E)) (hr : Rw w 100 2 A (lvL L).length c (lv (lvL L))) (hne : ∀ k, blkOf A = some k → ¬ Z k) (hZx : Z x) (hZs : ∀ k, Z k → k < w.heap.size) (p : Nat) (hp : p < 256) (e sp : Int)  (hmay : Calls Try.prog 59 #[.pointer (some ⟨x, 0, none⟩), .int .u32 e] w fun r w' => r = .returned (.bool false) ∧ ∃ n, w' = w.drewN n) :
    Calls Try.prog 55 #[.pointer (some ⟨x, 0, none⟩), .int .i64 (p : Int), .int .u32 e, .int .i64 sp] w fun r w' => r = .returned (.tuple #[.bool false, .int .i64 50]) ∧ RT w' x Z F root L E ∧ Below w.heap.size w w' := by
  have HR := Lib.hid hr
  have HB := Lib.hid h
  have HNE := Lib.hid (show blkOf A ≠ some x from fun e => hne x e hZx)
  have HZ := Lib.hid hne
  have HZS := Lib.hid hZs
  have HMAY := Lib.hid hmay
  have HP := Lib.hid (rpage_yes (p : Int) ⟨by omega, by omega⟩)
  clear h hr hne hZx hZs hmay
  go_enter Try.func55, Try.ntmps55
  go_wp2_with fail
  refine (HP.out _).mono ?_
  rintro r w1 ⟨rfl, rfl⟩
  go_wp2_with fail
  refine HMAY.out.mono ?_
  rintro r w1 ⟨rfl, n1, rfl⟩
  go_wp2_with fail
  go_ret2
  exact ⟨by first | rfl | simp, ⟨⟨A, c, HB.out, HR.out, HZ.out⟩⟩, below_drewN (Below.refl _ _) _⟩
set_option maxRecDepth 100000 in
set_option maxHeartbeats 4000000 in
theorem rset_has (h : Blk w x (rrow F root (.slice A (lvL L).length c) E)) (hr : Rw w 100 2 A (lvL L).length c (lv (lvL L))) (hne : ∀ k, blkOf A = some k → ¬ Z k) (hZx : Z x) (hZs : ∀ k, Z k → k < w.heap.size) (p : Nat) (hp : p < 256) (e sp : Int) (hL : (L (p / 64)).isSome = true) (hmay : Calls Try.prog 59 #[.pointer (some ⟨x, 0, none⟩), .int .u32 e] w fun r w' => r = .returned (.bool true) ∧ ∃ n, w' = w.drewN n) :
    Calls Try.prog 55 #[.pointer (some ⟨x, 0, none⟩), .int .i64 (p : Int), .int .u32 e, .int .i64 sp] w fun r w' => r = .returned (.tuple #[.bool false, .int .i64 0]) ∧ RT w' x Z F root L (updE E p e) ∧ w.grownBy w' (some x) := by
  have HR := Lib.hid hr
  have HB := Lib.hid h
  have HNE := Lib.hid (show blkOf A ≠ some x from fun e => hne x e hZx)
  have HZ := Lib.hid hne
  have HZS := Lib.hid hZs
  have HMAY := Lib.hid hmay
  have HP := Lib.hid (rpage_yes (p : Int) ⟨by omega, by omega⟩)
  clear h hr hne hZx hZs hmay
  go_enter Try.func55, Try.ntmps55
  go_wp2_with fail
  refine (HP.out _).mono ?_
  rintro r w1 ⟨rfl, rfl⟩
  go_wp2_with fail
  refine HMAY.out.mono ?_
  rintro r w1 ⟨rfl, n1, rfl⟩
  have HH := Lib.hid (show Calls Try.prog 60 #[.pointer (some ⟨x, 0, none⟩), .int .i64 (p : Int)] (w.drewN n1) _ from rhas_ok (w := w.drewN n1) HB.out (HR.out.drewN n1) rfl (by have := lvL_len L; omega) (p : Int) (by omega) (by omega))
  have hq : (p : Int) / 64 = ((p / 64 : Nat) : Int) := by omega
  have HV := Lib.hid (show hasW (lvL L) ((p : Int) / 64) = true by rw [hq, hasW_lvL (by omega)]; exact hL)
  clear hq
  go_wp2_with fail
  refine HH.out.mono ?_
  rintro r w1 ⟨rfl, rfl⟩
  rw [HV.out]
  have d0 : (w.drewN n1).cell? ⟨x, 3 + p, none⟩ = some (.int .u32 (E p)) := (HB.out.all.2.2.1 (3 + p)).trans (rrow_get _ _ _ _ p hp)
  have f0 : (w.drewN n1).frozen? ⟨x, 3 + p, none⟩ = false := HB.out.all.2.2.2 (3 + p)
  go_wp2_with fail
  go_ret2
  refine ⟨by first | rfl | simp, ⟨⟨A, c, ?_, ?_, HZ.out⟩⟩, ?_⟩
  · have hB : Blk (w.drewN n1) x (rrow F root (.slice A (lvL L).length c) E) := HB.out
    have := hB.put (3 + p) (.int .u32 e)
    rw [rrow_set _ _ _ _ p hp] at this
    exact this
  · have hR := HR.out.drewN n1
    exact hR.heap fun k hk => heap_setCell_other _ ⟨x, 3 + p, none⟩ k _ (fun e => HNE.out (by rw [hk, e]))
  · exact only_cell (w := w) (w1 := w.drewN n1) (only_below (only_refl w x) (below_drewN (Below.refl _ _) n1)) _ _
set_option maxRecDepth 100000 in
set_option maxHeartbeats 4000000 in
theorem rset_zero (h : Blk w x (rrow F root (.slice A (lvL L).length c) E)) (hr : Rw w 100 2 A (lvL L).length c (lv (lvL L))) (hne : ∀ k, blkOf A = some k → ¬ Z k) (hZx : Z x) (hZs : ∀ k, Z k → k < w.heap.size) (p : Nat) (hp : p < 256) (e sp : Int) (hL : L (p / 64) = none) (he : e = 0) (hmay : Calls Try.prog 59 #[.pointer (some ⟨x, 0, none⟩), .int .u32 e] w fun r w' => r = .returned (.bool true) ∧ ∃ n, w' = w.drewN n) :
    Calls Try.prog 55 #[.pointer (some ⟨x, 0, none⟩), .int .i64 (p : Int), .int .u32 e, .int .i64 sp] w fun r w' => r = .returned (.tuple #[.bool false, .int .i64 0]) ∧ RT w' x Z F root L E ∧ Below w.heap.size w w' := by
  have HR := Lib.hid hr
  have HB := Lib.hid h
  have HNE := Lib.hid (show blkOf A ≠ some x from fun e => hne x e hZx)
  have HZ := Lib.hid hne
  have HZS := Lib.hid hZs
  have HMAY := Lib.hid hmay
  have HP := Lib.hid (rpage_yes (p : Int) ⟨by omega, by omega⟩)
  clear h hr hne hZx hZs hmay
  have ez : (e == 0) = true := by simpa using he
  clear he
  go_enter Try.func55, Try.ntmps55
  go_wp2_with fail
  refine (HP.out _).mono ?_
  rintro r w1 ⟨rfl, rfl⟩
  go_wp2_with fail
  refine HMAY.out.mono ?_
  rintro r w1 ⟨rfl, n1, rfl⟩
  have HH := Lib.hid (show Calls Try.prog 60 #[.pointer (some ⟨x, 0, none⟩), .int .i64 (p : Int)] (w.drewN n1) _ from rhas_ok (w := w.drewN n1) HB.out (HR.out.drewN n1) rfl (by have := lvL_len L; omega) (p : Int) (by omega) (by omega))
  have hq : (p : Int) / 64 = ((p / 64 : Nat) : Int) := by omega
  have HV := Lib.hid (show hasW (lvL L) ((p : Int) / 64) = false by rw [hq, hasW_lvL (by omega)]; rw [hL]; rfl)
  clear hq
  go_wp2_with fail
  refine HH.out.mono ?_
  rintro r w1 ⟨rfl, rfl⟩
  rw [HV.out]
  go_wp2_with fail
  go_ret2
  exact ⟨by first | rfl | simp, ⟨⟨A, c, HB.out, HR.out, HZ.out⟩⟩, below_drewN (Below.refl _ _) _⟩
set_option maxRecDepth 100000 in
set_option maxHeartbeats 4000000 in
theorem rset_neg (h : Blk w x (rrow F root (.slice A (lvL L).length c) E)) (hr : Rw w 100 2 A (lvL L).length c (lv (lvL L))) (hne : ∀ k, blkOf A = some k → ¬ Z k) (hZx : Z x) (hZs : ∀ k, Z k → k < w.heap.size) (p : Nat) (hp : p < 256) (e sp : Int) (hL : L (p / 64) = none) (he : e ≠ 0) (hs : sp < 0) (hmay : Calls Try.prog 59 #[.pointer (some ⟨x, 0, none⟩), .int .u32 e] w fun r w' => r = .returned (.bool true) ∧ ∃ n, w' = w.drewN n) :
    Calls Try.prog 55 #[.pointer (some ⟨x, 0, none⟩), .int .i64 (p : Int), .int .u32 e, .int .i64 sp] w fun r w' => r = .returned (.tuple #[.bool false, .int .i64 2]) ∧ RT w' x Z F root L E ∧ Below w.heap.size w w' := by
  have HR := Lib.hid hr
  have HB := Lib.hid h
  have HNE := Lib.hid (show blkOf A ≠ some x from fun e => hne x e hZx)
  have HZ := Lib.hid hne
  have HZS := Lib.hid hZs
  have HMAY := Lib.hid hmay
  have HP := Lib.hid (rpage_yes (p : Int) ⟨by omega, by omega⟩)
  clear h hr hne hZx hZs hmay
  go_enter Try.func55, Try.ntmps55
  go_wp2_with fail
  refine (HP.out _).mono ?_
  rintro r w1 ⟨rfl, rfl⟩
  go_wp2_with fail
  refine HMAY.out.mono ?_
  rintro r w1 ⟨rfl, n1, rfl⟩
  have ez : (e == 0) = false := by simpa using he
  clear he
  have HH := Lib.hid (show Calls Try.prog 60 #[.pointer (some ⟨x, 0, none⟩), .int .i64 (p : Int)] (w.drewN n1) _ from rhas_ok (w := w.drewN n1) HB.out (HR.out.drewN n1) rfl (by have := lvL_len L; omega) (p : Int) (by omega) (by omega))
  have hq : (p : Int) / 64 = ((p / 64 : Nat) : Int) := by omega
  have HV := Lib.hid (show hasW (lvL L) ((p : Int) / 64) = false by rw [hq, hasW_lvL (by omega)]; rw [hL]; rfl)
  clear hq
  go_wp2_with fail
  refine HH.out.mono ?_
  rintro r w1 ⟨rfl, rfl⟩
  rw [HV.out]
  go_wp2_with fail
  go_ret2
  exact ⟨by first | rfl | simp, ⟨⟨A, c, HB.out, HR.out, HZ.out⟩⟩, below_drewN (Below.refl _ _) _⟩
set_option maxRecDepth 100000 in
set_option maxHeartbeats 4000000 in
theorem rset_far (h : Blk w x (rrow F root (.slice A (lvL L).length c) E)) (hr : Rw w 100 2 A (lvL L).length c (lv (lvL L))) (hne : ∀ k, blkOf A = some k → ¬ Z k) (hZx : Z x) (hZs : ∀ k, Z k → k < w.heap.size) (p : Nat) (hp : p < 256) (e sp : Int) (hL : L (p / 64) = none) (he : e ≠ 0) (hs : 0 ≤ sp) (hs2 : F ≤ sp) (hmay : Calls Try.prog 59 #[.pointer (some ⟨x, 0, none⟩), .int .u32 e] w fun r w' => r = .returned (.bool true) ∧ ∃ n, w' = w.drewN n) :
    Calls Try.prog 55 #[.pointer (some ⟨x, 0, none⟩), .int .i64 (p : Int), .int .u32 e, .int .i64 sp] w fun r w' => r = .returned (.tuple #[.bool false, .int .i64 10]) ∧ RT w' x Z F root L E ∧ Below w.heap.size w w' := by
  have HR := Lib.hid hr
  have HB := Lib.hid h
  have HNE := Lib.hid (show blkOf A ≠ some x from fun e => hne x e hZx)
  have HZ := Lib.hid hne
  have HZS := Lib.hid hZs
  have HMAY := Lib.hid hmay
  have HP := Lib.hid (rpage_yes (p : Int) ⟨by omega, by omega⟩)
  clear h hr hne hZx hZs hmay
  go_enter Try.func55, Try.ntmps55
  go_wp2_with fail
  refine (HP.out _).mono ?_
  rintro r w1 ⟨rfl, rfl⟩
  go_wp2_with fail
  refine HMAY.out.mono ?_
  rintro r w1 ⟨rfl, n1, rfl⟩
  have ez : (e == 0) = false := by simpa using he
  clear he
  have c0 : w.cell? ⟨x, 0, none⟩ = some (.int .i64 F) := (HB.out.all.2.2.1 0).trans (by unfold rrow; rw [List.getElem?_toArray]; rfl)
  have HH := Lib.hid (show Calls Try.prog 60 #[.pointer (some ⟨x, 0, none⟩), .int .i64 (p : Int)] (w.drewN n1) _ from rhas_ok (w := w.drewN n1) HB.out (HR.out.drewN n1) rfl (by have := lvL_len L; omega) (p : Int) (by omega) (by omega))
  have hq : (p : Int) / 64 = ((p / 64 : Nat) : Int) := by omega
  have HV := Lib.hid (show hasW (lvL L) ((p : Int) / 64) = false by rw [hq, hasW_lvL (by omega)]; rw [hL]; rfl)
  clear hq
  go_wp2_with fail
  refine HH.out.mono ?_
  rintro r w1 ⟨rfl, rfl⟩
  rw [HV.out]
  go_wp2_with fail
  go_ret2
  exact ⟨by first | rfl | simp, ⟨⟨A, c, HB.out, HR.out, HZ.out⟩⟩, below_drewN (Below.refl _ _) _⟩
set_option maxRecDepth 100000 in
set_option maxHeartbeats 4000000 in
theorem rset_new (h : Blk w x (rrow F root (.slice A (lvL L).length c) E)) (hr : Rw w 100 2 A (lvL L).length c (lv (lvL L))) (hne : ∀ k, blkOf A = some k → ¬ Z k) (hZx : Z x) (hZs : ∀ k, Z k → k < w.heap.size) (p : Nat) (hp : p < 256) (e sp : Int) (s : Nat) (hsp : sp = s) (hL : L (p / 64) = none) (he : e ≠ 0) (hs2 : (s : Int) < F) (hmay : Calls Try.prog 59 #[.pointer (some ⟨x, 0, none⟩), .int .u32 e] w fun r w' => r = .returned (.bool true) ∧ ∃ n, w' = w.drewN n) :
    Calls Try.prog 55 #[.pointer (some ⟨x, 0, none⟩), .int .i64 (p : Int), .int .u32 e, .int .i64 sp] w fun r w' => r = .returned (.tuple #[.bool true, .int .i64 0]) ∧ RT w' x Z F root (updL L (p / 64) s) (updE E p e) ∧ w.grownBy w' (some x) := by
  have HR := Lib.hid hr
  have HB := Lib.hid h
  have HNE := Lib.hid (show blkOf A ≠ some x from fun e => hne x e hZx)
  have HZ := Lib.hid hne
  have HZS := Lib.hid hZs
  have HMAY := Lib.hid hmay
  have HP := Lib.hid (rpage_yes (p : Int) ⟨by omega, by omega⟩)
  clear h hr hne hZx hZs hmay
  go_enter Try.func55, Try.ntmps55
  go_wp2_with fail
  refine (HP.out _).mono ?_
  rintro r w1 ⟨rfl, rfl⟩
  go_wp2_with fail
  refine HMAY.out.mono ?_
  rintro r w1 ⟨rfl, n1, rfl⟩
  subst hsp
  have ez : (e == 0) = false := by simpa using he
  clear he
  have c0 : w.cell? ⟨x, 0, none⟩ = some (.int .i64 F) := (HB.out.all.2.2.1 0).trans (by unfold rrow; rw [List.getElem?_toArray]; rfl)
  have HH := Lib.hid (show Calls Try.prog 60 #[.pointer (some ⟨x, 0, none⟩), .int .i64 (p : Int)] (w.drewN n1) _ from rhas_ok (w := w.drewN n1) HB.out (HR.out.drewN n1) rfl (by have := lvL_len L; omega) (p : Int) (by omega) (by omega))
  have hq : (p : Int) / 64 = ((p / 64 : Nat) : Int) := by omega
  have HV := Lib.hid (show hasW (lvL L) ((p : Int) / 64) = false by rw [hq, hasW_lvL (by omega)]; rw [hL]; rfl)
  clear hq
  go_wp2_with fail
  refine HH.out.mono ?_
  rintro r w1 ⟨rfl, rfl⟩
  rw [HV.out]
  have c2 : w.cell? ⟨x, 2, none⟩ = some (.slice A (lvL L).length c) := (HB.out.all.2.2.1 2).trans (by unfold rrow; rw [List.getElem?_toArray]; rfl)
  have hl4 := lvL_len L
  generalize hl : lvL L = l at *
  generalize hn : l.length = n at *
  have HN := Lib.hid hn
  have HL := Lib.hid hl
  have HEI := Lib.hid hL
  clear hn hl hL
  have HP1 := Lib.hid hp
  go_wp2_with fail
  go_loopg [11] n (fun k i_ wr => wr = w.drewN n1 ∧ ∃ (i : Nat), i_ = .int .i64 (i : Int) ∧ k = n - i ∧ i ≤ n ∧ ∀ j kf, j < i → l[j]? = some kf → kf.1 < p / 64)
  case atStart => exact ⟨rfl, 0, rfl, rfl, by omega, fun j _ hj => absurd hj (by omega)⟩
  case round =>
    obtain ⟨rfl, i, rfl, hk, hi, hh⟩ := hrel
    have HK := Lib.hid hk
    have HH2 := Lib.hid hh
    clear hk hh
    by_cases hlt : i < n
    · obtain ⟨kf, hkf⟩ : ∃ kf, l[i]? = some kf := ⟨_, List.getElem?_eq_getElem (by rw [HN.out]; exact hlt)⟩
      obtain ⟨b, rfl⟩ := HR.out.some_ (by omega)
      have d0 : (w.drewN n1).cell? ⟨b, i * 2, none⟩ = some (.int .i64 (kf.1 : Int)) := (HR.out.cell (i * 2) (by omega)).trans (lv_get l i kf hkf).1
      have HKF := Lib.hid hkf
      clear hkf
      have hpq : (p : Int).tdiv 64 = ((p / 64 : Nat) : Int) := by rw [Int.tdiv_eq_ediv_of_nonneg (by omega)]; omega
      by_cases hq : kf.1 < p / 64
      · have k1 : ((kf.1 : Nat) : Int) < ((p : Int) / 64) := by omega
        have HQ := Lib.hid hq
        clear hq hpq
        go_wp2_with fail
        go_roundg (n - (i + 1))
        case measure => have := HK.out; omega
        case rel =>
          refine ⟨rfl, i + 1, by go_num, rfl, by omega, fun j kf' hj hkf' => ?_⟩
          rcases Nat.lt_succ_iff_lt_or_eq.1 hj with h9 | rfl
          · exact HH2.out j kf' h9 hkf'
          · rw [HKF.out] at hkf'; injection hkf' with e9; subst e9; exact HQ.out
      · have k1 : ((p : Int) / 64) ≤ ((kf.1 : Nat) : Int) := by omega
        have HQ := Lib.hid (show ∀ kf', l[i]? = some kf' → p / 64 ≤ kf'.1 from fun kf' e9 => by rw [HKF.out] at e9; injection e9 with e9; subst e9; omega)
        clear hq hpq
        go_wp2_with fail
        have hRB : Blk (w.drewN n1).drew x (rrow F root (.slice (some ⟨b, 0, none⟩ : Option Addr) n c) E) := HB.out
        have hRR : Rw (w.drewN n1).drew 100 2 (some ⟨b, 0, none⟩ : Option Addr) n c (lv l) := HR.out
        have HX := Lib.hid hRB.lt
        have HTK := Lib.hid (hRR.rd_take HN.out hi)
        have HLT := Lib.hid (show ∀ ad, (some ⟨b, 0, none⟩ : Option Addr) = some ad → ad.block < ((w.drewN n1).drew).heap.size ∧ ad.block ≠ x from fun ad e9 => ⟨hRR.lt _ (by rw [e9]; rfl), fun e8 => HNE.out (by rw [e9, ← e8]; rfl)⟩)
        have HNO := Lib.hid (show (some ⟨b, 0, none⟩ : Option Addr) = none → c = 0 from fun e9 => by cases e9)
        obtain ⟨A9, hcut, hrd, hnone, hblk⟩ := cut_behind hRR HN.out hi
        have HRD := Lib.hid hrd
        have HNN := Lib.hid hnone
        have HBK := Lib.hid (show ∀ ad : Addr, (A9 : Option Addr) = some ad → ad.block < ((w.drewN n1).drew).heap.size ∧ ad.block ≠ x from fun ad e9 => ⟨hRR.lt _ (hblk ad e9), fun e8 => HNE.out (by rw [hblk ad e9, e8])⟩)
        have hcut2 : ∀ s : World, (Instr.slice 95 (.slice (some ⟨b, 0, none⟩ : Option Addr) n c) none (some (.int .i64 (i : Int))) none).run Try.prog s = .ok (.slice (some ⟨b, 0, none⟩ : Option Addr) i c) s := fun s => cut_h elT (some ⟨b, 0, none⟩ : Option Addr) n c i (by have := hRR.le; omega) hRR.le.2 s
        have HTL := Lib.hid (show (l.take i).length = i by rw [List.length_take, HN.out]; omega)
        have HST := Lib.hid (KS.start (i := i) (n := n) (l := l) (q := p / 64) (s := s) hRB)
        clear hRB hRR hrd hnone hblk
        have HQ64 := Lib.hid (show (p : Int) / 64 = ((p / 64 : Nat) : Int) by omega)
        refine wp_theta [1, 8, 13, 14, 21] [1, 5, 8, 13, 14, 18, 21, 24] (fun k v => (k = 1 → ∃ b, v = .slice (some ⟨b, 0, none⟩) 0 0) ∧ (k = 8 → ∃ A c, v = .slice A i c) ∧ (k = 13 → ∃ y, v = .slice (some ⟨y, 0, none⟩) 1 1) ∧ (k = 14 → ∃ A c, v = .slice A (i + 1) c) ∧ (k = 21 → ∃ A c, v = .slice A (n + 1) c)) (KS (w.drewN n1).drew x F root E (.slice (some ⟨b, 0, none⟩ : Option Addr) n c) i n l (p / 64) s) (CT) ?_ ?_ ?_ ?_ ?_ ?_ ?_ ?_ ?_ ?_
        · kernel_rfl
        · kernel_rfl
        · kernel_rfl
        · kernel_rfl
        · kernel_rfl
        · kernel_rfl
        · intro k hk; simp at hk; rcases hk with rfl | rfl | rfl | rfl | rfl; exact ⟨.slice (some ⟨0, 0, none⟩) 0 0, by simp⟩; exact ⟨.slice none i 0, by simp⟩; exact ⟨.slice (some ⟨0, 0, none⟩) 1 1, by simp⟩; exact ⟨.slice none (i + 1) 0, by simp⟩; exact ⟨.slice none (n + 1) 0, by simp⟩
        · exact HST.out
        · exact fun _ _ _ _ => trivial
        · intro θ hθ
          simp only [SegsT, List.take_succ_cons, List.take_zero, List.drop_succ_cons, List.drop_zero, Nat.sub_zero, Nat.reduceSub, Nat.reduceAdd, List.drop_nil, List.take_nil]
          haveI i1 : Nonempty (Wd CT) := ⟨⟨(w.drewN n1).drew, trivial⟩⟩
          obtain ⟨⟨b1, t1⟩, ⟨A8, c8, t8⟩, ⟨y13, t13⟩, ⟨A14, c14, t14⟩, ⟨A21, c21, t21⟩⟩ : (∃ b, θ 1 = .slice (some ⟨b, 0, none⟩) 0 0) ∧ (∃ A c, θ 8 = .slice A i c) ∧ (∃ y, θ 13 = .slice (some ⟨y, 0, none⟩) 1 1) ∧ (∃ A c, θ 14 = .slice A (i + 1) c) ∧ (∃ A c, θ 21 = .slice A (n + 1) c) := ⟨(hθ 1 (by decide)).1 rfl, (hθ 8 (by decide)).2.1 rfl, (hθ 13 (by decide)).2.2.1 rfl, (hθ 14 (by decide)).2.2.2.1 rfl, (hθ 21 (by decide)).2.2.2.2 rfl⟩
          repeat (go_big_quiet_step (fail))
          refine wpQuiet_nil ?_
          rw [if_pos (by decide)]
          refine ⟨thOK_run [] [8, 14, 21, 24] (by kernel_rfl) (by kernel_rfl) (fun ρ D u hq hK => ?_), ?_⟩
          · exact ⟨_, _, run_box_any (s := Instr.buildSlice 95 0 #[]) (by kernel_rfl) (bs95e u), ⟨fun _ => ⟨_, rfl⟩, by simp, by simp, by simp, by simp⟩, hK.al1 (hq.not 8 (by simp)) (hq.not 14 (by simp)) (hq.not 21 (by simp)) (hq.not 24 (by simp))⟩
          rw [t1]
          try go_frame
          repeat (go_big_quiet_step (fail))
          refine wpQuiet_nil ?_
          rw [if_neg (by decide)]
          refine ⟨(.slice (some ⟨b, 0, none⟩ : Option Addr) n c), detOK_run [] [24] (by kernel_rfl) (by kernel_rfl) (fun ρ D u hq hK => ?_), ?_⟩
          · have h24 := hq.not 24 (by simp)
            have hc := hK.row.all.2.2.1 2
            rw [h24] at hc
            exact ⟨u, run_box_any (s := Instr.loadAt 95 (.pointer (some ⟨x, 2, none⟩))) (by kernel_rfl) (ld95 (hc.trans (by unfold rrow; rw [List.getElem?_toArray]; rfl))), hK.same 5 (by decide)⟩
          try go_frame
          repeat (go_big_quiet_step (fail))
          refine wpQuiet_nil ?_
          rw [if_pos (by decide)]
          refine ⟨thOK_run [1] [14, 21, 24] (by kernel_rfl) (by kernel_rfl) (fun ρ D u hq hK => ?_), ?_⟩
          · obtain ⟨A2, c2, u', r1, r2⟩ := hK.ap8 HX.out (hq.did 1 (by simp)) hq.now (hq.not 14 (by simp)) (hq.not 21 (by simp)) (hq.not 24 (by simp)) HTK.out HLT.out HNO.out HTL.out (by omega) b1 ((hq.gave 1 (by simp) (by decide)).trans t1)
            exact ⟨_, _, run_box_any (s := Builtin.append_ #[95, 95] 95 #[.slice (some ⟨b1, 0, none⟩) 0 0, .slice (some ⟨b, 0, none⟩ : Option Addr) i c]) (by kernel_rfl) r1, ⟨by simp, fun _ => ⟨_, _, rfl⟩, by simp, by simp, by simp⟩, r2⟩
          rw [t8]
          try go_frame
          repeat (go_big_quiet_step (fail))
          refine wpQuiet_nil ?_
          rw [if_pos (by decide)]
          refine ⟨thOK_run [] [14, 21, 24] (by kernel_rfl) (by kernel_rfl) (fun ρ D u hq hK => ?_), ?_⟩
          · exact ⟨_, _, run_box_any (s := Instr.buildSlice 95 1 #[(0, .agg #[.int .i64 ((p : Int) / 64), .int .i64 (s : Int)])]) (by kernel_rfl) (by rw [HQ64.out]; exact bs95 _ _ u), ⟨by simp, by simp, fun _ => ⟨_, rfl⟩, by simp, by simp⟩, hK.al13 (hq.not 14 (by simp)) (hq.not 21 (by simp)) (hq.not 24 (by simp))⟩
          rw [t13]
          try go_frame
          repeat (go_big_quiet_step (fail))
          refine wpQuiet_nil ?_
          rw [if_pos (by decide)]
          refine ⟨thOK_run [8, 13] [21, 24] (by kernel_rfl) (by kernel_rfl) (fun ρ D u hq hK => ?_), ?_⟩
          · obtain ⟨A2, c2, u', r1, r2⟩ := hK.ap14 HX.out (hq.did 8 (by simp)) (hq.did 13 (by simp)) hq.now (hq.not 21 (by simp)) (hq.not 24 (by simp)) (by omega) ((hq.gave 8 (by simp) (by decide)).trans t8) ((hq.gave 13 (by simp) (by decide)).trans t13)
            exact ⟨_, _, run_box_any (s := Builtin.append_ #[95, 95] 95 #[.slice A8 i c8, .slice (some ⟨y13, 0, none⟩) 1 1]) (by kernel_rfl) r1, ⟨by simp, by simp, by simp, fun _ => ⟨_, _, rfl⟩, by simp⟩, r2⟩
          rw [t14]
          try go_frame
          repeat (go_big_quiet_step (fail))
          refine wpQuiet_nil ?_
          rw [if_neg (by decide)]
          refine ⟨(.slice (some ⟨b, 0, none⟩ : Option Addr) n c), detOK_run [] [24] (by kernel_rfl) (by kernel_rfl) (fun ρ D u hq hK => ?_), ?_⟩
          · have h24 := hq.not 24 (by simp)
            have hc := hK.row.all.2.2.1 2
            rw [h24] at hc
            exact ⟨u, run_box_any (s := Instr.loadAt 95 (.pointer (some ⟨x, 2, none⟩))) (by kernel_rfl) (ld95 (hc.trans (by unfold rrow; rw [List.getElem?_toArray]; rfl))), hK.same 18 (by decide)⟩
          try go_frame
          repeat (go_big_quiet_step (fail))
          refine wpQuiet_nil ?_
          rw [if_pos (by decide)]
          refine ⟨thOK_run [14, 8] [24] (by kernel_rfl) (by kernel_rfl) (fun ρ D u hq hK => ?_), ?_⟩
          · obtain ⟨A2, c2, u', r1, r2⟩ := hK.ap21 HX.out (hq.did 14 (by simp)) (hq.did 8 (by simp)) hq.now (hq.not 24 (by simp)) (by omega) hi HN.out HRD.out HBK.out HNN.out ((hq.gave 14 (by simp) (by decide)).trans t14)
            exact ⟨_, _, run_box_any (s := Builtin.append_ #[95, 95] 95 #[.slice A14 (i + 1) c14, .slice A9 (n - i) (c - i)]) (by kernel_rfl) r1, ⟨by simp, by simp, by simp, by simp, fun _ => ⟨_, _, rfl⟩⟩, r2⟩
          rw [t21]
          try go_frame
          repeat (go_big_quiet_step (fail))
          refine wpQuiet_nil ?_
          rw [if_neg (by decide)]
          refine ⟨undef, detOK_skip [21, 14, 8] [] (by kernel_rfl) (by kernel_rfl) (fun ρ D u hq hK => ?_), ?_⟩
          · obtain ⟨r1, r2⟩ := hK.st24 HX.out (hq.did 21 (by simp)) (hq.did 14 (by simp)) (hq.did 8 (by simp))
            rw [(hq.gave 21 (by simp) (by decide)).trans t21] at r1 r2
            exact ⟨_, run_skip_any (s := Instr.storeAt 95 (.pointer (some ⟨x, 2, none⟩)) (.slice A21 (n + 1) c21)) (by kernel_rfl) r1, r2⟩
          try go_frame
          repeat (go_big_quiet_step (fail))
          refine wpQuiet_nil ?_
          intro u hK
          have hBl : Blk u x (rrow F root (θ 21) E) := hK.row
          have hR2 : ∃ A c, θ 21 = .slice A (n + 1) c ∧ (∀ k, blkOf A = some k → ((w.drewN n1).drew).heap.size ≤ k) ∧ Rw u 100 2 A (n + 1) c (lv (l.take i ++ [(p / 64, s)] ++ l.drop i)) := hK.h21 rfl
          rw [t21] at hBl hR2
          obtain ⟨A', c', q1, q2, q3⟩ := hR2
          obtain ⟨rfl, rfl⟩ : A' = A21 ∧ c' = c21 := by simpa using q1.symm
          have HCH := Lib.hid hK.ch
          have HBL := Lib.hid hBl
          have HR2 := Lib.hid (And.intro q2 q3)
          have d0 : u.cell? ⟨x, 3 + p, none⟩ = some (.int .u32 (E p)) := (hBl.all.2.2.1 (3 + p)).trans (rrow_get _ _ _ _ p hp)
          have f0 : u.frozen? ⟨x, 3 + p, none⟩ = false := hBl.all.2.2.2 (3 + p)
          clear hK t1 t8 t13 t14 t21 hθ i1 hBl q1 q2 q3 hcut hcut2
          go_wp2_with fail
          go_ret2
          have hins := lvL_ins (L := L) (q := p / 64) (s := s) (i := i) (by omega) HEI.out (by rw [HL.out, HN.out]; exact hi) (fun j kf hj hkf => HH2.out j kf hj (by rw [← HL.out]; exact hkf)) (fun kf hkf => HQ.out kf (by rw [← HL.out]; exact hkf))
          rw [HL.out] at hins
          have hlen : (lvL (updL L (p / 64) s)).length = n + 1 := by
            rw [← hins]; simp [List.length_take, List.length_drop, HN.out]; omega
          refine ⟨by first | rfl | simp, ⟨⟨A', c', ?_, ?_, ?_⟩⟩, ?_⟩
          · have := HBL.out.put (3 + p) (.int .u32 e)
            rw [rrow_set _ _ _ _ p hp] at this
            rw [hlen]; exact this
          · rw [hlen, ← hins]
            exact HR2.out.2.heap fun k hk => heap_setCell_other _ ⟨x, 3 + p, none⟩ k _ (fun e9 => by have := HR2.out.1 k hk; have := HX.out; simp at e9; omega)
          · intro k e9 hz; have h8 : w.heap.size ≤ k := HR2.out.1 k e9; have := HZS.out k hz; omega
          · have hB : Below w.heap.size w (w.drewN n1).drew := (below_drewN (Below.refl _ _) n1).drew
            exact only_cell (below_only_r hB HCH.out.grown) _ _
    · have hni : n ≤ i := by omega
      have HQ := Lib.hid (show ∀ kf', l[i]? = some kf' → p / 64 ≤ kf'.1 from fun kf' e9 => by rw [List.getElem?_eq_none (by rw [HN.out]; exact hni)] at e9; cases e9)
      rcases HR.out.addr with ⟨h9, -, hc0⟩ | ⟨b, h9⟩
      · have HC0 := Lib.hid hc0
        clear hc0
        subst h9
        go_wp2_with fail
        clear hlt hni
        have hRB : Blk (w.drewN n1).drew x (rrow F root (.slice (none : Option Addr) n c) E) := HB.out
        have hRR : Rw (w.drewN n1).drew 100 2 (none : Option Addr) n c (lv l) := HR.out
        have HX := Lib.hid hRB.lt
        have HTK := Lib.hid (hRR.rd_take HN.out hi)
        have HLT := Lib.hid (show ∀ ad, (none : Option Addr) = some ad → ad.block < ((w.drewN n1).drew).heap.size ∧ ad.block ≠ x from fun ad e9 => ⟨hRR.lt _ (by rw [e9]; rfl), fun e8 => HNE.out (by rw [e9, ← e8]; rfl)⟩)
        have HNO := Lib.hid (show (none : Option Addr) = none → c = 0 from fun _ => HC0.out)
        obtain ⟨A9, hcut, hrd, hnone, hblk⟩ := cut_behind hRR HN.out hi
        obtain rfl : A9 = none := by
          cases A9 with
          | none => rfl
          | some ad => exact absurd (hblk ad rfl) (by simp [blkOf])
        have HRD := Lib.hid hrd
        have HNN := Lib.hid hnone
        have HBK := Lib.hid (show ∀ ad : Addr, (none : Option Addr) = some ad → ad.block < ((w.drewN n1).drew).heap.size ∧ ad.block ≠ x from fun ad e9 => ⟨hRR.lt _ (hblk ad e9), fun e8 => HNE.out (by rw [hblk ad e9, e8])⟩)
        have hcut2 : ∀ s : World, (Instr.slice 95 (.slice (none : Option Addr) n c) none (some (.int .i64 (i : Int))) none).run Try.prog s = .ok (.slice (none : Option Addr) i c) s := fun s => cut_h elT (none : Option Addr) n c i (by have := hRR.le; omega) hRR.le.2 s
        have HTL := Lib.hid (show (l.take i).length = i by rw [List.length_take, HN.out]; omega)
        have HST := Lib.hid (KS.start (i := i) (n := n) (l := l) (q := p / 64) (s := s) hRB)
        clear hRB hRR hrd hnone hblk
        have HQ64 := Lib.hid (show (p : Int) / 64 = ((p / 64 : Nat) : Int) by omega)
        refine wp_theta [1, 8, 13, 14, 21] [1, 5, 8, 13, 14, 18, 21, 24] (fun k v => (k = 1 → ∃ b, v = .slice (some ⟨b, 0, none⟩) 0 0) ∧ (k = 8 → ∃ A c, v = .slice A i c) ∧ (k = 13 → ∃ y, v = .slice (some ⟨y, 0, none⟩) 1 1) ∧ (k = 14 → ∃ A c, v = .slice A (i + 1) c) ∧ (k = 21 → ∃ A c, v = .slice A (n + 1) c)) (KS (w.drewN n1).drew x F root E (.slice (none : Option Addr) n c) i n l (p / 64) s) (CT) ?_ ?_ ?_ ?_ ?_ ?_ ?_ ?_ ?_ ?_
        · kernel_rfl
        · kernel_rfl
        · kernel_rfl
        · kernel_rfl
        · kernel_rfl
        · kernel_rfl
        · intro k hk; simp at hk; rcases hk with rfl | rfl | rfl | rfl | rfl; exact ⟨.slice (some ⟨0, 0, none⟩) 0 0, by simp⟩; exact ⟨.slice none i 0, by simp⟩; exact ⟨.slice (some ⟨0, 0, none⟩) 1 1, by simp⟩; exact ⟨.slice none (i + 1) 0, by simp⟩; exact ⟨.slice none (n + 1) 0, by simp⟩
        · exact HST.out
        · exact fun _ _ _ _ => trivial
        · intro θ hθ
          simp only [SegsT, List.take_succ_cons, List.take_zero, List.drop_succ_cons, List.drop_zero, Nat.sub_zero, Nat.reduceSub, Nat.reduceAdd, List.drop_nil, List.take_nil]
          haveI i1 : Nonempty (Wd CT) := ⟨⟨(w.drewN n1).drew, trivial⟩⟩
          obtain ⟨⟨b1, t1⟩, ⟨A8, c8, t8⟩, ⟨y13, t13⟩, ⟨A14, c14, t14⟩, ⟨A21, c21, t21⟩⟩ : (∃ b, θ 1 = .slice (some ⟨b, 0, none⟩) 0 0) ∧ (∃ A c, θ 8 = .slice A i c) ∧ (∃ y, θ 13 = .slice (some ⟨y, 0, none⟩) 1 1) ∧ (∃ A c, θ 14 = .slice A (i + 1) c) ∧ (∃ A c, θ 21 = .slice A (n + 1) c) := ⟨(hθ 1 (by decide)).1 rfl, (hθ 8 (by decide)).2.1 rfl, (hθ 13 (by decide)).2.2.1 rfl, (hθ 14 (by decide)).2.2.2.1 rfl, (hθ 21 (by decide)).2.2.2.2 rfl⟩
          repeat (go_big_quiet_step (fail))
          refine wpQuiet_nil ?_
          rw [if_pos (by decide)]
          refine ⟨thOK_run [] [8, 14, 21, 24] (by kernel_rfl) (by kernel_rfl) (fun ρ D u hq hK => ?_), ?_⟩
          · exact ⟨_, _, run_box_any (s := Instr.buildSlice 95 0 #[]) (by kernel_rfl) (bs95e u), ⟨fun _ => ⟨_, rfl⟩, by simp, by simp, by simp, by simp⟩, hK.al1 (hq.not 8 (by simp)) (hq.not 14 (by simp)) (hq.not 21 (by simp)) (hq.not 24 (by simp))⟩
          rw [t1]
          try go_frame
          repeat (go_big_quiet_step (fail))
          refine wpQuiet_nil ?_
          rw [if_neg (by decide)]
          refine ⟨(.slice (none : Option Addr) n c), detOK_run [] [24] (by kernel_rfl) (by kernel_rfl) (fun ρ D u hq hK => ?_), ?_⟩
          · have h24 := hq.not 24 (by simp)
            have hc := hK.row.all.2.2.1 2
            rw [h24] at hc
            exact ⟨u, run_box_any (s := Instr.loadAt 95 (.pointer (some ⟨x, 2, none⟩))) (by kernel_rfl) (ld95 (hc.trans (by unfold rrow; rw [List.getElem?_toArray]; rfl))), hK.same 5 (by decide)⟩
          try go_frame
          repeat (go_big_quiet_step (fail))
          refine wpQuiet_nil ?_
          rw [if_pos (by decide)]
          refine ⟨thOK_run [1] [14, 21, 24] (by kernel_rfl) (by kernel_rfl) (fun ρ D u hq hK => ?_), ?_⟩
          · obtain ⟨A2, c2, u', r1, r2⟩ := hK.ap8 HX.out (hq.did 1 (by simp)) hq.now (hq.not 14 (by simp)) (hq.not 21 (by simp)) (hq.not 24 (by simp)) HTK.out HLT.out HNO.out HTL.out (by omega) b1 ((hq.gave 1 (by simp) (by decide)).trans t1)
            exact ⟨_, _, run_box_any (s := Builtin.append_ #[95, 95] 95 #[.slice (some ⟨b1, 0, none⟩) 0 0, .slice (none : Option Addr) i c]) (by kernel_rfl) r1, ⟨by simp, fun _ => ⟨_, _, rfl⟩, by simp, by simp, by simp⟩, r2⟩
          rw [t8]
          try go_frame
          repeat (go_big_quiet_step (fail))
          refine wpQuiet_nil ?_
          rw [if_pos (by decide)]
          refine ⟨thOK_run [] [14, 21, 24] (by kernel_rfl) (by kernel_rfl) (fun ρ D u hq hK => ?_), ?_⟩
          · exact ⟨_, _, run_box_any (s := Instr.buildSlice 95 1 #[(0, .agg #[.int .i64 ((p : Int) / 64), .int .i64 (s : Int)])]) (by kernel_rfl) (by rw [HQ64.out]; exact bs95 _ _ u), ⟨by simp, by simp, fun _ => ⟨_, rfl⟩, by simp, by simp⟩, hK.al13 (hq.not 14 (by simp)) (hq.not 21 (by simp)) (hq.not 24 (by simp))⟩
          rw [t13]
          try go_frame
          repeat (go_big_quiet_step (fail))
          refine wpQuiet_nil ?_
          rw [if_pos (by decide)]
          refine ⟨thOK_run [8, 13] [21, 24] (by kernel_rfl) (by kernel_rfl) (fun ρ D u hq hK => ?_), ?_⟩
          · obtain ⟨A2, c2, u', r1, r2⟩ := hK.ap14 HX.out (hq.did 8 (by simp)) (hq.did 13 (by simp)) hq.now (hq.not 21 (by simp)) (hq.not 24 (by simp)) (by omega) ((hq.gave 8 (by simp) (by decide)).trans t8) ((hq.gave 13 (by simp) (by decide)).trans t13)
            exact ⟨_, _, run_box_any (s := Builtin.append_ #[95, 95] 95 #[.slice A8 i c8, .slice (some ⟨y13, 0, none⟩) 1 1]) (by kernel_rfl) r1, ⟨by simp, by simp, by simp, fun _ => ⟨_, _, rfl⟩, by simp⟩, r2⟩
          rw [t14]
          try go_frame
          repeat (go_big_quiet_step (fail))
          refine wpQuiet_nil ?_
          rw [if_neg (by decide)]
          refine ⟨(.slice (none : Option Addr) n c), detOK_run [] [24] (by kernel_rfl) (by kernel_rfl) (fun ρ D u hq hK => ?_), ?_⟩
          · have h24 := hq.not 24 (by simp)
            have hc := hK.row.all.2.2.1 2
            rw [h24] at hc
            exact ⟨u, run_box_any (s := Instr.loadAt 95 (.pointer (some ⟨x, 2, none⟩))) (by kernel_rfl) (ld95 (hc.trans (by unfold rrow; rw [List.getElem?_toArray]; rfl))), hK.same 18 (by decide)⟩
          try go_frame
          repeat (go_big_quiet_step (fail))
          refine wpQuiet_nil ?_
          rw [if_pos (by decide)]
          refine ⟨thOK_run [14, 8] [24] (by kernel_rfl) (by kernel_rfl) (fun ρ D u hq hK => ?_), ?_⟩
          · obtain ⟨A2, c2, u', r1, r2⟩ := hK.ap21 HX.out (hq.did 14 (by simp)) (hq.did 8 (by simp)) hq.now (hq.not 24 (by simp)) (by omega) hi HN.out HRD.out HBK.out HNN.out ((hq.gave 14 (by simp) (by decide)).trans t14)
            exact ⟨_, _, run_box_any (s := Builtin.append_ #[95, 95] 95 #[.slice A14 (i + 1) c14, .slice none (n - i) (c - i)]) (by kernel_rfl) r1, ⟨by simp, by simp, by simp, by simp, fun _ => ⟨_, _, rfl⟩⟩, r2⟩
          rw [t21]
          try go_frame
          repeat (go_big_quiet_step (fail))
          refine wpQuiet_nil ?_
          rw [if_neg (by decide)]
          refine ⟨undef, detOK_skip [21, 14, 8] [] (by kernel_rfl) (by kernel_rfl) (fun ρ D u hq hK => ?_), ?_⟩
          · obtain ⟨r1, r2⟩ := hK.st24 HX.out (hq.did 21 (by simp)) (hq.did 14 (by simp)) (hq.did 8 (by simp))
            rw [(hq.gave 21 (by simp) (by decide)).trans t21] at r1 r2
            exact ⟨_, run_skip_any (s := Instr.storeAt 95 (.pointer (some ⟨x, 2, none⟩)) (.slice A21 (n + 1) c21)) (by kernel_rfl) r1, r2⟩
          try go_frame
          repeat (go_big_quiet_step (fail))
          refine wpQuiet_nil ?_
          intro u hK
          have hBl : Blk u x (rrow F root (θ 21) E) := hK.row
          have hR2 : ∃ A c, θ 21 = .slice A (n + 1) c ∧ (∀ k, blkOf A = some k → ((w.drewN n1).drew).heap.size ≤ k) ∧ Rw u 100 2 A (n + 1) c (lv (l.take i ++ [(p / 64, s)] ++ l.drop i)) := hK.h21 rfl
          rw [t21] at hBl hR2
          obtain ⟨A', c', q1, q2, q3⟩ := hR2
          obtain ⟨rfl, rfl⟩ : A' = A21 ∧ c' = c21 := by simpa using q1.symm
          have HCH := Lib.hid hK.ch
          have HBL := Lib.hid hBl
          have HR2 := Lib.hid (And.intro q2 q3)
          have d0 : u.cell? ⟨x, 3 + p, none⟩ = some (.int .u32 (E p)) := (hBl.all.2.2.1 (3 + p)).trans (rrow_get _ _ _ _ p hp)
          have f0 : u.frozen? ⟨x, 3 + p, none⟩ = false := hBl.all.2.2.2 (3 + p)
          clear hK t1 t8 t13 t14 t21 hθ i1 hBl q1 q2 q3 hcut hcut2
          go_wp2_with fail
          go_ret2
          have hins := lvL_ins (L := L) (q := p / 64) (s := s) (i := i) (by omega) HEI.out (by rw [HL.out, HN.out]; exact hi) (fun j kf hj hkf => HH2.out j kf hj (by rw [← HL.out]; exact hkf)) (fun kf hkf => HQ.out kf (by rw [← HL.out]; exact hkf))
          rw [HL.out] at hins
          have hlen : (lvL (updL L (p / 64) s)).length = n + 1 := by
            rw [← hins]; simp [List.length_take, List.length_drop, HN.out]; omega
          refine ⟨by first | rfl | simp, ⟨⟨A', c', ?_, ?_, ?_⟩⟩, ?_⟩
          · have := HBL.out.put (3 + p) (.int .u32 e)
            rw [rrow_set _ _ _ _ p hp] at this
            rw [hlen]; exact this
          · rw [hlen, ← hins]
            exact HR2.out.2.heap fun k hk => heap_setCell_other _ ⟨x, 3 + p, none⟩ k _ (fun e9 => by have := HR2.out.1 k hk; have := HX.out; simp at e9; omega)
          · intro k e9 hz; have h8 : w.heap.size ≤ k := HR2.out.1 k e9; have := HZS.out k hz; omega
          · have hB : Below w.heap.size w (w.drewN n1).drew := (below_drewN (Below.refl _ _) n1).drew
            exact only_cell (below_only_r hB HCH.out.grown) _ _
      · subst h9
        go_wp2_with fail
        clear hlt hni
        have hRB : Blk (w.drewN n1).drew x (rrow F root (.slice (some ⟨b, 0, none⟩ : Option Addr) n c) E) := HB.out
        have hRR : Rw (w.drewN n1).drew 100 2 (some ⟨b, 0, none⟩ : Option Addr) n c (lv l) := HR.out
        have HX := Lib.hid hRB.lt
        have HTK := Lib.hid (hRR.rd_take HN.out hi)
        have HLT := Lib.hid (show ∀ ad, (some ⟨b, 0, none⟩ : Option Addr) = some ad → ad.block < ((w.drewN n1).drew).heap.size ∧ ad.block ≠ x from fun ad e9 => ⟨hRR.lt _ (by rw [e9]; rfl), fun e8 => HNE.out (by rw [e9, ← e8]; rfl)⟩)
        have HNO := Lib.hid (show (some ⟨b, 0, none⟩ : Option Addr) = none → c = 0 from fun e9 => by cases e9)
        obtain ⟨A9, hcut, hrd, hnone, hblk⟩ := cut_behind hRR HN.out hi
        have HRD := Lib.hid hrd
        have HNN := Lib.hid hnone
        have HBK := Lib.hid (show ∀ ad : Addr, (A9 : Option Addr) = some ad → ad.block < ((w.drewN n1).drew).heap.size ∧ ad.block ≠ x from fun ad e9 => ⟨hRR.lt _ (hblk ad e9), fun e8 => HNE.out (by rw [hblk ad e9, e8])⟩)
        have hcut2 : ∀ s : World, (Instr.slice 95 (.slice (some ⟨b, 0, none⟩ : Option Addr) n c) none (some (.int .i64 (i : Int))) none).run Try.prog s = .ok (.slice (some ⟨b, 0, none⟩ : Option Addr) i c) s := fun s => cut_h elT (some ⟨b, 0, none⟩ : Option Addr) n c i (by have := hRR.le; omega) hRR.le.2 s
        have HTL := Lib.hid (show (l.take i).length = i by rw [List.length_take, HN.out]; omega)
        have HST := Lib.hid (KS.start (i := i) (n := n) (l := l) (q := p / 64) (s := s) hRB)
        clear hRB hRR hrd hnone hblk
        have HQ64 := Lib.hid (show (p : Int) / 64 = ((p / 64 : Nat) : Int) by omega)
        refine wp_theta [1, 8, 13, 14, 21] [1, 5, 8, 13, 14, 18, 21, 24] (fun k v => (k = 1 → ∃ b, v = .slice (some ⟨b, 0, none⟩) 0 0) ∧ (k = 8 → ∃ A c, v = .slice A i c) ∧ (k = 13 → ∃ y, v = .slice (some ⟨y, 0, none⟩) 1 1) ∧ (k = 14 → ∃ A c, v = .slice A (i + 1) c) ∧ (k = 21 → ∃ A c, v = .slice A (n + 1) c)) (KS (w.drewN n1).drew x F root E (.slice (some ⟨b, 0, none⟩ : Option Addr) n c) i n l (p / 64) s) (CT) ?_ ?_ ?_ ?_ ?_ ?_ ?_ ?_ ?_ ?_
        · kernel_rfl
        · kernel_rfl
        · kernel_rfl
        · kernel_rfl
        · kernel_rfl
        · kernel_rfl
        · intro k hk; simp at hk; rcases hk with rfl | rfl | rfl | rfl | rfl; exact ⟨.slice (some ⟨0, 0, none⟩) 0 0, by simp⟩; exact ⟨.slice none i 0, by simp⟩; exact ⟨.slice (some ⟨0, 0, none⟩) 1 1, by simp⟩; exact ⟨.slice none (i + 1) 0, by simp⟩; exact ⟨.slice none (n + 1) 0, by simp⟩
        · exact HST.out
        · exact fun _ _ _ _ => trivial
        · intro θ hθ
          simp only [SegsT, List.take_succ_cons, List.take_zero, List.drop_succ_cons, List.drop_zero, Nat.sub_zero, Nat.reduceSub, Nat.reduceAdd, List.drop_nil, List.take_nil]
          haveI i1 : Nonempty (Wd CT) := ⟨⟨(w.drewN n1).drew, trivial⟩⟩
          obtain ⟨⟨b1, t1⟩, ⟨A8, c8, t8⟩, ⟨y13, t13⟩, ⟨A14, c14, t14⟩, ⟨A21, c21, t21⟩⟩ : (∃ b, θ 1 = .slice (some ⟨b, 0, none⟩) 0 0) ∧ (∃ A c, θ 8 = .slice A i c) ∧ (∃ y, θ 13 = .slice (some ⟨y, 0, none⟩) 1 1) ∧ (∃ A c, θ 14 = .slice A (i + 1) c) ∧ (∃ A c, θ 21 = .slice A (n + 1) c) := ⟨(hθ 1 (by decide)).1 rfl, (hθ 8 (by decide)).2.1 rfl, (hθ 13 (by decide)).2.2.1 rfl, (hθ 14 (by decide)).2.2.2.1 rfl, (hθ 21 (by decide)).2.2.2.2 rfl⟩
          repeat (go_big_quiet_step (fail))
          refine wpQuiet_nil ?_
          rw [if_pos (by decide)]
          refine ⟨thOK_run [] [8, 14, 21, 24] (by kernel_rfl) (by kernel_rfl) (fun ρ D u hq hK => ?_), ?_⟩
          · exact ⟨_, _, run_box_any (s := Instr.buildSlice 95 0 #[]) (by kernel_rfl) (bs95e u), ⟨fun _ => ⟨_, rfl⟩, by simp, by simp, by simp, by simp⟩, hK.al1 (hq.not 8 (by simp)) (hq.not 14 (by simp)) (hq.not 21 (by simp)) (hq.not 24 (by simp))⟩
          rw [t1]
          try go_frame
          repeat (go_big_quiet_step (fail))
          refine wpQuiet_nil ?_
          rw [if_neg (by decide)]
          refine ⟨(.slice (some ⟨b, 0, none⟩ : Option Addr) n c), detOK_run [] [24] (by kernel_rfl) (by kernel_rfl) (fun ρ D u hq hK => ?_), ?_⟩
          · have h24 := hq.not 24 (by simp)
            have hc := hK.row.all.2.2.1 2
            rw [h24] at hc
            exact ⟨u, run_box_any (s := Instr.loadAt 95 (.pointer (some ⟨x, 2, none⟩))) (by kernel_rfl) (ld95 (hc.trans (by unfold rrow; rw [List.getElem?_toArray]; rfl))), hK.same 5 (by decide)⟩
          try go_frame
          repeat (go_big_quiet_step (fail))
          refine wpQuiet_nil ?_
          rw [if_pos (by decide)]
          refine ⟨thOK_run [1] [14, 21, 24] (by kernel_rfl) (by kernel_rfl) (fun ρ D u hq hK => ?_), ?_⟩
          · obtain ⟨A2, c2, u', r1, r2⟩ := hK.ap8 HX.out (hq.did 1 (by simp)) hq.now (hq.not 14 (by simp)) (hq.not 21 (by simp)) (hq.not 24 (by simp)) HTK.out HLT.out HNO.out HTL.out (by omega) b1 ((hq.gave 1 (by simp) (by decide)).trans t1)
            exact ⟨_, _, run_box_any (s := Builtin.append_ #[95, 95] 95 #[.slice (some ⟨b1, 0, none⟩) 0 0, .slice (some ⟨b, 0, none⟩ : Option Addr) i c]) (by kernel_rfl) r1, ⟨by simp, fun _ => ⟨_, _, rfl⟩, by simp, by simp, by simp⟩, r2⟩
          rw [t8]
          try go_frame
          repeat (go_big_quiet_step (fail))
          refine wpQuiet_nil ?_
          rw [if_pos (by decide)]
          refine ⟨thOK_run [] [14, 21, 24] (by kernel_rfl) (by kernel_rfl) (fun ρ D u hq hK => ?_), ?_⟩
          · exact ⟨_, _, run_box_any (s := Instr.buildSlice 95 1 #[(0, .agg #[.int .i64 ((p : Int) / 64), .int .i64 (s : Int)])]) (by kernel_rfl) (by rw [HQ64.out]; exact bs95 _ _ u), ⟨by simp, by simp, fun _ => ⟨_, rfl⟩, by simp, by simp⟩, hK.al13 (hq.not 14 (by simp)) (hq.not 21 (by simp)) (hq.not 24 (by simp))⟩
          rw [t13]
          try go_frame
          repeat (go_big_quiet_step (fail))
          refine wpQuiet_nil ?_
          rw [if_pos (by decide)]
          refine ⟨thOK_run [8, 13] [21, 24] (by kernel_rfl) (by kernel_rfl) (fun ρ D u hq hK => ?_), ?_⟩
          · obtain ⟨A2, c2, u', r1, r2⟩ := hK.ap14 HX.out (hq.did 8 (by simp)) (hq.did 13 (by simp)) hq.now (hq.not 21 (by simp)) (hq.not 24 (by simp)) (by omega) ((hq.gave 8 (by simp) (by decide)).trans t8) ((hq.gave 13 (by simp) (by decide)).trans t13)
            exact ⟨_, _, run_box_any (s := Builtin.append_ #[95, 95] 95 #[.slice A8 i c8, .slice (some ⟨y13, 0, none⟩) 1 1]) (by kernel_rfl) r1, ⟨by simp, by simp, by simp, fun _ => ⟨_, _, rfl⟩, by simp⟩, r2⟩
          rw [t14]
          try go_frame
          repeat (go_big_quiet_step (fail))
          refine wpQuiet_nil ?_
          rw [if_neg (by decide)]
          refine ⟨(.slice (some ⟨b, 0, none⟩ : Option Addr) n c), detOK_run [] [24] (by kernel_rfl) (by kernel_rfl) (fun ρ D u hq hK => ?_), ?_⟩
          · have h24 := hq.not 24 (by simp)
            have hc := hK.row.all.2.2.1 2
            rw [h24] at hc
            exact ⟨u, run_box_any (s := Instr.loadAt 95 (.pointer (some ⟨x, 2, none⟩))) (by kernel_rfl) (ld95 (hc.trans (by unfold rrow; rw [List.getElem?_toArray]; rfl))), hK.same 18 (by decide)⟩
          try go_frame
          repeat (go_big_quiet_step (fail))
          refine wpQuiet_nil ?_
          rw [if_pos (by decide)]
          refine ⟨thOK_run [14, 8] [24] (by kernel_rfl) (by kernel_rfl) (fun ρ D u hq hK => ?_), ?_⟩
          · obtain ⟨A2, c2, u', r1, r2⟩ := hK.ap21 HX.out (hq.did 14 (by simp)) (hq.did 8 (by simp)) hq.now (hq.not 24 (by simp)) (by omega) hi HN.out HRD.out HBK.out HNN.out ((hq.gave 14 (by simp) (by decide)).trans t14)
            exact ⟨_, _, run_box_any (s := Builtin.append_ #[95, 95] 95 #[.slice A14 (i + 1) c14, .slice A9 (n - i) (c - i)]) (by kernel_rfl) r1, ⟨by simp, by simp, by simp, by simp, fun _ => ⟨_, _, rfl⟩⟩, r2⟩
          rw [t21]
          try go_frame
          repeat (go_big_quiet_step (fail))
          refine wpQuiet_nil ?_
          rw [if_neg (by decide)]
          refine ⟨undef, detOK_skip [21, 14, 8] [] (by kernel_rfl) (by kernel_rfl) (fun ρ D u hq hK => ?_), ?_⟩
          · obtain ⟨r1, r2⟩ := hK.st24 HX.out (hq.did 21 (by simp)) (hq.did 14 (by simp)) (hq.did 8 (by simp))
            rw [(hq.gave 21 (by simp) (by decide)).trans t21] at r1 r2
            exact ⟨_, run_skip_any (s := Instr.storeAt 95 (.pointer (some ⟨x, 2, none⟩)) (.slice A21 (n + 1) c21)) (by kernel_rfl) r1, r2⟩
          try go_frame
          repeat (go_big_quiet_step (fail))
          refine wpQuiet_nil ?_
          intro u hK
          have hBl : Blk u x (rrow F root (θ 21) E) := hK.row
          have hR2 : ∃ A c, θ 21 = .slice A (n + 1) c ∧ (∀ k, blkOf A = some k → ((w.drewN n1).drew).heap.size ≤ k) ∧ Rw u 100 2 A (n + 1) c (lv (l.take i ++ [(p / 64, s)] ++ l.drop i)) := hK.h21 rfl
          rw [t21] at hBl hR2
          obtain ⟨A', c', q1, q2, q3⟩ := hR2
          obtain ⟨rfl, rfl⟩ : A' = A21 ∧ c' = c21 := by simpa using q1.symm
          have HCH := Lib.hid hK.ch
          have HBL := Lib.hid hBl
          have HR2 := Lib.hid (And.intro q2 q3)
          have d0 : u.cell? ⟨x, 3 + p, none⟩ = some (.int .u32 (E p)) := (hBl.all.2.2.1 (3 + p)).trans (rrow_get _ _ _ _ p hp)
          have f0 : u.frozen? ⟨x, 3 + p, none⟩ = false := hBl.all.2.2.2 (3 + p)
          clear hK t1 t8 t13 t14 t21 hθ i1 hBl q1 q2 q3 hcut hcut2
          go_wp2_with fail
          go_ret2
          have hins := lvL_ins (L := L) (q := p / 64) (s := s) (i := i) (by omega) HEI.out (by rw [HL.out, HN.out]; exact hi) (fun j kf hj hkf => HH2.out j kf hj (by rw [← HL.out]; exact hkf)) (fun kf hkf => HQ.out kf (by rw [← HL.out]; exact hkf))
          rw [HL.out] at hins
          have hlen : (lvL (updL L (p / 64) s)).length = n + 1 := by
            rw [← hins]; simp [List.length_take, List.length_drop, HN.out]; omega
          refine ⟨by first | rfl | simp, ⟨⟨A', c', ?_, ?_, ?_⟩⟩, ?_⟩
          · have := HBL.out.put (3 + p) (.int .u32 e)
            rw [rrow_set _ _ _ _ p hp] at this
            rw [hlen]; exact this
          · rw [hlen, ← hins]
            exact HR2.out.2.heap fun k hk => heap_setCell_other _ ⟨x, 3 + p, none⟩ k _ (fun e9 => by have := HR2.out.1 k hk; have := HX.out; simp at e9; omega)
          · intro k e9 hz; have h8 : w.heap.size ≤ k := HR2.out.1 k e9; have := HZS.out k hz; omega
          · have hB : Below w.heap.size w (w.drewN n1).drew := (below_drewN (Below.refl _ _) n1).drew
            exact only_cell (below_only_r hB HCH.out.grown) _ _
end
end Go.Proofs.Ytngjpokbjnjodaa
