import Derived.Test.YtmifomppnmhmpaaConR
/- One contract for every case of a console's call. -/
namespace Go.Proofs.Ytmifomppnmhmpaa
open Go.RowKit
set_option linter.unusedVariables false
set_option linter.unusedSimpArgs false
theorem cross {layA layB : Lay} {w w' : World} {base g x n m ci cj q r co cu : Nat} {I O J U I2 O2 : Option Addr} {P R P2 R2 : Nat → Int} {en en2 : Bool} (hA : Con layA w base g I n ci P en O q co R) (hB : Con layB w base x J m cj P2 en2 U r cu R2) (hd : ∀ k, foot g I O k → ¬ foot x J U k) (hF : FrC w w' g I O I2 O2) :
    Con layB w' base x J m cj P2 en2 U r cu R2 ∧ ∀ k, foot g I2 O2 k → ¬ foot x J U k :=
  ⟨hB.kept fun k hk => hF.block k (hB.foot_lt hk).2 (fun h => hd k h hk), fun k h hk => by
    rcases hF.new k h with h2 | h2
    · exact hd k h2 hk
    · have := (hB.foot_lt hk).2; omega⟩
theorem Con.ext {lay : Lay} {w : World} {base g n ci q co : Nat} {I O : Option Addr} {P R P' R' : Nat → Int} {en : Bool} (h : Con lay w base g I n ci P en O q co R) (e1 : ∀ i, i < n → P i = P' i) (e2 : ∀ i, i < q → R i = R' i) : Con lay w base g I n ci P' en O q co R' :=
  ⟨h.blk, h.inp.ext fun i hi => congrArg (Value.int .u8) (e1 i hi), h.out.ext fun i hi => congrArg (Value.int .u8) (e2 i hi), h.base, h.ig, h.og, h.io⟩
def tyE (en : Bool) (n l : Nat) : Int := if en = true then 2 else if 65536 < n + l then 2 else 0
def tyN (en : Bool) (n l : Nat) : Nat := if en = true then 0 else if 65536 < n + l then 0 else l
def woE (q l : Nat) : Int := if 1048576 < q + l then 2 else 0
def woN (q l : Nat) : Nat := if 1048576 < q + l then 0 else l
def rdE (en : Bool) (n : Nat) (N : Int) : Int := if N < 0 then 1 else if N = 0 then 0 else if n = 0 then (if en = true then 0 else 211) else 0
def ryV (b en : Bool) (n : Nat) : Bool := b || (en || decide (0 < n))
theorem cat0 (P Y : Nat → Int) (n : Nat) : ∀ i, i < n → P i = cat P n Y i := fun i hi => by unfold cat; rw [if_pos hi]
theorem ctype_any (base g n ci q co : Nat) (I O : Option Addr) (P R : Nat → Int) (en : Bool) (w : World) (h : Con con w base g I n ci P en O q co R) (L : Option Addr) (l lc : Nat) (Y : Nat → Int) (hn : n ≤ 65536) (hm : l ≤ 140737488351232) (hb : base ≤ w.heap.size) (hL : RdV w L l (u8s Y)) :
    Calls Try.prog 26 #[.pointer (some ⟨g, 0, none⟩), .slice L l lc] w fun e w' => e = .returned (.int .i64 (tyE en n l)) ∧ ∃ I' ci', Con con w' base g I' (n + tyN en n l) ci' (cat P n Y) en O q co R ∧ FrC w w' g I O I' O := by
  cases he : en
  · by_cases hl : 65536 < n + l
    · refine (ctype_full base g n ci q co I O P R en w h L l lc he hl hn hm).mono ?_
      rintro e w' ⟨rfl, rfl⟩
      subst he
      have e1 : tyE false n l = 2 := by simp [tyE, hl]
      have e2 : tyN false n l = 0 := by simp [tyN, hl]
      rw [e1, e2]
      exact ⟨rfl, I, ci, h.ext (cat0 P Y n) (fun _ _ => rfl), FrC.refl _ _ _ _⟩
    · refine (ctype_ok base g n ci q co I O P R en w h L l lc Y he (by omega) hb hL).mono ?_
      rintro e w' ⟨rfl, I', ci', hC, hF⟩
      subst he
      have e1 : tyE false n l = 0 := by simp [tyE, hl]
      have e2 : tyN false n l = l := by simp [tyN, hl]
      rw [e1, e2]
      exact ⟨rfl, I', ci', hC, hF⟩
  · refine (ctype_end base g n ci q co I O P R en w h L l lc he).mono ?_
    rintro e w' ⟨rfl, rfl⟩
    subst he
    have e1 : tyE true n l = 2 := by simp [tyE]
    have e2 : tyN true n l = 0 := by simp [tyN]
    rw [e1, e2]
    exact ⟨rfl, I, ci, h.ext (cat0 P Y n) (fun _ _ => rfl), FrC.refl _ _ _ _⟩
theorem cwrite_any (base g n ci q co : Nat) (I O : Option Addr) (P R : Nat → Int) (en : Bool) (w : World) (h : Con con w base g I n ci P en O q co R) (L : Option Addr) (l lc : Nat) (Y : Nat → Int) (hq : q ≤ 1048576) (hm : l ≤ 140737488351232) (hb : base ≤ w.heap.size) (hL : RdV w L l (u8s Y)) :
    Calls Try.prog 22 #[.pointer (some ⟨g, 0, none⟩), .slice L l lc] w fun e w' => e = .returned (.tuple #[.int .i64 (woN q l : Nat), .int .i64 (woE q l)]) ∧ ∃ O' co', Con con w' base g I n ci P en O' (q + woN q l) co' (cat R q Y) ∧ FrC w w' g I O I O' := by
  by_cases hl : 1048576 < q + l
  · refine (cwrite_full base g n ci q co I O P R en w h L l lc hl hq hm).mono ?_
    rintro e w' ⟨rfl, rfl⟩
    have e1 : woE q l = 2 := by simp [woE, hl]
    have e2 : woN q l = 0 := by simp [woN, hl]
    rw [e1, e2]
    exact ⟨rfl, O, co, h.ext (fun _ _ => rfl) (cat0 R Y q), FrC.refl _ _ _ _⟩
  · refine (cwrite_ok base g n ci q co I O P R en w h L l lc Y (by omega) hb hL).mono ?_
    rintro e w' ⟨rfl, I', ci', hC, hF⟩
    have e1 : woE q l = 0 := by simp [woE, hl]
    have e2 : woN q l = l := by simp [woN, hl]
    rw [e1, e2]
    exact ⟨rfl, I', ci', hC, hF⟩
theorem cready_any (base g n ci q co : Nat) (I O : Option Addr) (P R : Nat → Int) (en : Bool) (w : World) (h : Con con w base g I n ci P en O q co R) (b : Bool) : Calls Try.prog 27 #[.pointer (some ⟨g, 0, none⟩), .bool b] w fun e w' => e = .returned (.bool (ryV b en n)) ∧ w = w' := by
  cases b
  · cases he : en
    · by_cases hn : n = 0
      · exact (cready_z base g n ci q co I O P R en w h he hn).mono fun e w' ⟨a, b⟩ => ⟨by rw [a]; simp [ryV, hn], b⟩
      · exact (cready_n base g n ci q co I O P R en w h he (by omega)).mono fun e w' ⟨a, b⟩ => ⟨by rw [a]; simp [ryV]; omega, b⟩
    · exact (cready_e base g n ci q co I O P R en w h he).mono fun e w' ⟨a, b⟩ => ⟨by rw [a]; simp [ryV], b⟩
  · exact (cready_w base g n ci q co I O P R en w h).mono fun e w' ⟨a, b⟩ => ⟨by rw [a]; simp [ryV], b⟩
theorem cread_any (base g n ci q co : Nat) (I O : Option Addr) (P R : Nat → Int) (en : Bool) (w : World) (h : Con con w base g I n ci P en O q co R) (N : Int) (hb : base ≤ w.heap.size) (hn : n ≤ 65536) :
    Calls Try.prog 21 #[.pointer (some ⟨g, 0, none⟩), .int .i64 N] w fun e w' => ∃ A1 c1 I' ci', e = .returned (.tuple #[.slice A1 (took n N) c1, .int .i64 (rdE en n N)]) ∧ Own w' w.heap.size 5 A1 (took n N) c1 (u8s P) ∧ Con con w' base g I' (n - took n N) ci' (fun i => P (took n N + i)) en O q co R ∧ FrC w w' g I O I' O ∧ (∀ k, inB A1 = some k → inB I' ≠ some k) := by
  have same : Con con w base g I (n - 0) ci (fun i => P (0 + i)) en O q co R := h.ext (fun i _ => by rw [Nat.zero_add]) (fun _ _ => rfl)
  by_cases h0 : N < 0
  · refine (cread_neg base g n ci q co I O P R en w h N h0).mono ?_
    rintro e w' ⟨rfl, rfl⟩
    have e1 : took n N = 0 := if_pos (by omega)
    have e2 : rdE en n N = 1 := if_pos h0
    rw [e1, e2]
    exact ⟨none, 0, I, ci, rfl, Own.nil _ _ _ _, same, FrC.refl _ _ _ _, fun k e => by cases e⟩
  · by_cases h1 : N = 0
    · refine (cread_zero base g n ci q co I O P R en w h N h1).mono ?_
      rintro e w' ⟨rfl, rfl⟩
      have e1 : took n N = 0 := if_pos (by omega)
      have e2 : rdE en n N = 0 := by unfold rdE; rw [if_neg h0, if_pos h1]
      rw [e1, e2]
      exact ⟨none, 0, I, ci, rfl, Own.nil _ _ _ _, same, FrC.refl _ _ _ _, fun k e => by cases e⟩
    · by_cases h2 : n = 0
      · have e1 : took n N = 0 := by unfold took; rw [if_neg (by omega)]; omega
        cases he : en
        · refine (cread_wait base g n ci q co I O P R en w h N (by omega) h2 he).mono ?_
          rintro e w' ⟨rfl, rfl⟩
          have e2 : rdE false n N = 211 := by unfold rdE; rw [if_neg h0, if_neg h1, if_pos h2]; rfl
          rw [e1, e2]
          exact ⟨none, 0, I, ci, rfl, Own.nil _ _ _ _, he ▸ same, FrC.refl _ _ _ _, fun k e => by cases e⟩
        · refine (cread_end base g n ci q co I O P R en w h N (by omega) h2 he).mono ?_
          rintro e w' ⟨rfl, rfl⟩
          have e2 : rdE true n N = 0 := by unfold rdE; rw [if_neg h0, if_neg h1, if_pos h2]; rfl
          rw [e1, e2]
          exact ⟨none, 0, I, ci, rfl, Own.nil _ _ _ _, he ▸ same, FrC.refl _ _ _ _, fun k e => by cases e⟩
      · have e2 : rdE en n N = 0 := by unfold rdE; rw [if_neg h0, if_neg h1, if_neg h2]
        by_cases hle : N ≤ n
        · obtain ⟨K, rfl⟩ : ∃ K : Nat, N = K := ⟨N.toNat, by omega⟩
          have e1 : took n K = K := by unfold took; rw [if_neg (by omega)]; omega
          rw [e1, e2]
          exact cread_a base g n ci q co I O P R en w h K (by omega) (by omega) hb hn
        · have e1 : took n N = n := by unfold took; rw [if_neg (by omega)]; omega
          rw [e1, e2]
          exact cread_b base g n ci q co I O P R en w h N (by omega) (by omega) hb hn
theorem ktype_any (base g n ci q co : Nat) (I O : Option Addr) (P R : Nat → Int) (en : Bool) (w : World) (h : Con rc w base g I n ci P en O q co R) (L : Option Addr) (l lc : Nat) (Y : Nat → Int) (hn : n ≤ 65536) (hm : l ≤ 140737488351232) (hb : base ≤ w.heap.size) (hL : RdV w L l (u8s Y)) :
    Calls Try.prog 38 #[.pointer (some ⟨g, 0, none⟩), .slice L l lc] w fun e w' => e = .returned (.int .i64 (tyE en n l)) ∧ ∃ I' ci', Con rc w' base g I' (n + tyN en n l) ci' (cat P n Y) en O q co R ∧ FrC w w' g I O I' O := by
  cases he : en
  · by_cases hl : 65536 < n + l
    · refine (ktype_full base g n ci q co I O P R en w h L l lc he hl hn hm).mono ?_
      rintro e w' ⟨rfl, rfl⟩
      subst he
      have e1 : tyE false n l = 2 := by simp [tyE, hl]
      have e2 : tyN false n l = 0 := by simp [tyN, hl]
      rw [e1, e2]
      exact ⟨rfl, I, ci, h.ext (cat0 P Y n) (fun _ _ => rfl), FrC.refl _ _ _ _⟩
    · refine (ktype_ok base g n ci q co I O P R en w h L l lc Y he (by omega) hb hL).mono ?_
      rintro e w' ⟨rfl, I', ci', hC, hF⟩
      subst he
      have e1 : tyE false n l = 0 := by simp [tyE, hl]
      have e2 : tyN false n l = l := by simp [tyN, hl]
      rw [e1, e2]
      exact ⟨rfl, I', ci', hC, hF⟩
  · refine (ktype_end base g n ci q co I O P R en w h L l lc he).mono ?_
    rintro e w' ⟨rfl, rfl⟩
    subst he
    have e1 : tyE true n l = 2 := by simp [tyE]
    have e2 : tyN true n l = 0 := by simp [tyN]
    rw [e1, e2]
    exact ⟨rfl, I, ci, h.ext (cat0 P Y n) (fun _ _ => rfl), FrC.refl _ _ _ _⟩
theorem kwrite_any (base g n ci q co : Nat) (I O : Option Addr) (P R : Nat → Int) (en : Bool) (w : World) (h : Con rc w base g I n ci P en O q co R) (L : Option Addr) (l lc : Nat) (Y : Nat → Int) (hq : q ≤ 1048576) (hm : l ≤ 140737488351232) (hb : base ≤ w.heap.size) (hL : RdV w L l (u8s Y)) :
    Calls Try.prog 39 #[.pointer (some ⟨g, 0, none⟩), .slice L l lc] w fun e w' => e = .returned (.tuple #[.int .i64 (woN q l : Nat), .int .i64 (woE q l)]) ∧ ∃ O' co', Con rc w' base g I n ci P en O' (q + woN q l) co' (cat R q Y) ∧ FrC w w' g I O I O' := by
  by_cases hl : 1048576 < q + l
  · refine (kwrite_full base g n ci q co I O P R en w h L l lc hl hq hm).mono ?_
    rintro e w' ⟨rfl, rfl⟩
    have e1 : woE q l = 2 := by simp [woE, hl]
    have e2 : woN q l = 0 := by simp [woN, hl]
    rw [e1, e2]
    exact ⟨rfl, O, co, h.ext (fun _ _ => rfl) (cat0 R Y q), FrC.refl _ _ _ _⟩
  · refine (kwrite_ok base g n ci q co I O P R en w h L l lc Y (by omega) hb hL).mono ?_
    rintro e w' ⟨rfl, I', ci', hC, hF⟩
    have e1 : woE q l = 0 := by simp [woE, hl]
    have e2 : woN q l = l := by simp [woN, hl]
    rw [e1, e2]
    exact ⟨rfl, I', ci', hC, hF⟩
theorem kready_any (base g n ci q co : Nat) (I O : Option Addr) (P R : Nat → Int) (en : Bool) (w : World) (h : Con rc w base g I n ci P en O q co R) (b : Bool) : Calls Try.prog 40 #[.pointer (some ⟨g, 0, none⟩), .bool b] w fun e w' => e = .returned (.bool (ryV b en n)) ∧ w = w' := by
  cases b
  · cases he : en
    · by_cases hn : n = 0
      · exact (kready_z base g n ci q co I O P R en w h he hn).mono fun e w' ⟨a, b⟩ => ⟨by rw [a]; simp [ryV, hn], b⟩
      · exact (kready_n base g n ci q co I O P R en w h he (by omega)).mono fun e w' ⟨a, b⟩ => ⟨by rw [a]; simp [ryV]; omega, b⟩
    · exact (kready_e base g n ci q co I O P R en w h he).mono fun e w' ⟨a, b⟩ => ⟨by rw [a]; simp [ryV], b⟩
  · exact (kready_w base g n ci q co I O P R en w h).mono fun e w' ⟨a, b⟩ => ⟨by rw [a]; simp [ryV], b⟩
theorem kread_any (base g n ci q co : Nat) (I O : Option Addr) (P R : Nat → Int) (en : Bool) (w : World) (h : Con rc w base g I n ci P en O q co R) (N : Int) (hb : base ≤ w.heap.size) (hn : n ≤ 65536) :
    Calls Try.prog 37 #[.pointer (some ⟨g, 0, none⟩), .int .i64 N] w fun e w' => ∃ A1 c1 I' ci', e = .returned (.tuple #[.slice A1 (took n N) c1, .int .i64 (rdE en n N)]) ∧ Own w' w.heap.size 5 A1 (took n N) c1 (u8s P) ∧ Con rc w' base g I' (n - took n N) ci' (fun i => P (took n N + i)) en O q co R ∧ FrC w w' g I O I' O := by
  have same : Con rc w base g I (n - 0) ci (fun i => P (0 + i)) en O q co R := h.ext (fun i _ => by rw [Nat.zero_add]) (fun _ _ => rfl)
  by_cases h0 : N < 0
  · refine (kread_neg base g n ci q co I O P R en w h N h0).mono ?_
    rintro e w' ⟨rfl, rfl⟩
    have e1 : took n N = 0 := if_pos (by omega)
    have e2 : rdE en n N = 1 := if_pos h0
    rw [e1, e2]
    exact ⟨none, 0, I, ci, rfl, Own.nil _ _ _ _, same, FrC.refl _ _ _ _⟩
  · by_cases h1 : N = 0
    · refine (kread_zero base g n ci q co I O P R en w h N h1).mono ?_
      rintro e w' ⟨rfl, rfl⟩
      have e1 : took n N = 0 := if_pos (by omega)
      have e2 : rdE en n N = 0 := by unfold rdE; rw [if_neg h0, if_pos h1]
      rw [e1, e2]
      exact ⟨none, 0, I, ci, rfl, Own.nil _ _ _ _, same, FrC.refl _ _ _ _⟩
    · by_cases h2 : n = 0
      · have e1 : took n N = 0 := by unfold took; rw [if_neg (by omega)]; omega
        cases he : en
        · refine (kread_wait base g n ci q co I O P R en w h N (by omega) h2 he).mono ?_
          rintro e w' ⟨rfl, rfl⟩
          have e2 : rdE false n N = 211 := by unfold rdE; rw [if_neg h0, if_neg h1, if_pos h2]; rfl
          rw [e1, e2]
          exact ⟨none, 0, I, ci, rfl, Own.nil _ _ _ _, he ▸ same, FrC.refl _ _ _ _⟩
        · refine (kread_end base g n ci q co I O P R en w h N (by omega) h2 he).mono ?_
          rintro e w' ⟨rfl, rfl⟩
          have e2 : rdE true n N = 0 := by unfold rdE; rw [if_neg h0, if_neg h1, if_pos h2]; rfl
          rw [e1, e2]
          exact ⟨none, 0, I, ci, rfl, Own.nil _ _ _ _, he ▸ same, FrC.refl _ _ _ _⟩
      · have e2 : rdE en n N = 0 := by unfold rdE; rw [if_neg h0, if_neg h1, if_neg h2]
        by_cases hle : N ≤ n
        · obtain ⟨K, rfl⟩ : ∃ K : Nat, N = K := ⟨N.toNat, by omega⟩
          have e1 : took n K = K := by unfold took; rw [if_neg (by omega)]; omega
          rw [e1, e2]
          exact kread_a base g n ci q co I O P R en w h K (by omega) (by omega) hb hn
        · have e1 : took n N = n := by unfold took; rw [if_neg (by omega)]; omega
          rw [e1, e2]
          exact kread_b base g n ci q co I O P R en w h N (by omega) (by omega) hb hn
end Go.Proofs.Ytmifomppnmhmpaa
