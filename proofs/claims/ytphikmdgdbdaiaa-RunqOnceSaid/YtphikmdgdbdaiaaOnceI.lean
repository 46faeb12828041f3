import Derived.Test.YtphikmdgdbdaiaaOnceP
/- RunqOnce: the row of who is there. -/
namespace Go.Proofs.Ytphikmdgdbdaiaa
open Go.RowKit Go.BigFrame
set_option linter.unusedVariables false
set_option linter.unusedSimpArgs false
attribute [local go_sem] szIs_lit row_at row_past row_alloc nf_alloc row_set nf_set row_cell nf_cell row_drew nf_drew row_drewN nf_drewN cell_setRow frozen_setRow nlt1 nlt2 nlt3 nlt4 nne1 nne2 nne3 nen1 nen2 nen3
/-- The queues, and the row of who is there (its own block, rb). -/
structure OI (w0 w : World) (g rb H : Nat) (S : QS) : Prop where
  j : QJ (· = rb) w0 w g S
  n : S.n = H
  lim : Lim S
  r : Rw w 3 1 (some ⟨rb, 0, none⟩) 65 65 (iv (th S))
  b : w0.heap.size ≤ rb
section
variable {w0 w w' : World} {g rb H : Nat} {S S' : QS}
theorem OI.look (h : OI w0 w g rb H S) (hb : Below w.heap.size w w') : OI w0 w' g rb H S := ⟨(h.j.look hb).1, h.n, h.lim, h.r.below hb, h.b⟩
theorem OI.alloc (h : OI w0 w g rb H S) (o : Obj) : OI w0 (w.alloc o) g rb H S := h.look ((Below.refl _ _).alloc (Nat.le_refl _) _)
theorem OI.cell (h : OI w0 w g rb H S) {t : Nat} (ht : t < 65) : w.cell? ⟨rb, t, none⟩ = some (.int .i64 (if isIn S (t : Int) then 1 else 0)) := by
  rw [h.r.cell t (by omega)]; simp [iv, th_at S ht]
theorem OI.fro (h : OI w0 w g rb H S) (t : Nat) : w.frozen? ⟨rb, t, none⟩ = false := h.r.frozen t
theorem OI.bl (h : OI w0 w g rb H S) : Below w0.heap.size w0 w := h.j.qi.bl
/-- Nobody comes or goes. -/
theorem OI.same (h : OI w0 w g rb H S) (hj : QJ (· = rb) w0 w' g S') (hk : Kp (· = rb) w w') (hn : S'.n = S.n) (hi : ∀ x, isIn S' x = isIn S x) : OI w0 w' g rb H S' :=
  ⟨hj, hn.trans h.n, fun x hx => h.lim x (by rwa [hi] at hx), by rw [th_same hi]; exact h.r.heap fun q hq => hk q (by injection hq with hq; exact hq.symm), h.b⟩
/-- One comes or goes: what the cell must take. -/
theorem OI.store (h : OI w0 w g rb H S) (hj : QJ (· = rb) w0 w' g S') (hk : Kp (· = rb) w w') (hn : S'.n = S.n) {t : Nat} (ht : t < 64) (hi : ∀ x : Int, x ≠ (t : Int) → isIn S' x = isIn S x) {v : Int} (hv : v = if isIn S' (t : Int) then 1 else 0) :
    w'.cell? ⟨rb, t, none⟩ = some (.int .i64 (if isIn S (t : Int) then 1 else 0)) ∧ w'.frozen? ⟨rb, t, none⟩ = false ∧ OI w0 (w'.setCell ⟨rb, t, none⟩ (.int .i64 v)) g rb H S' := by
  have hr := h.r.heap (w' := w') fun q hq => hk q (by injection hq with hq; exact hq.symm)
  refine ⟨by rw [hr.cell t (by omega)]; simp [iv, th_at S (show t < 65 by omega)], hr.frozen t, hj.write ((Ch.refl (· = rb) w').cell _ _ fun _ => rfl) (fun _ q => q) (fun q hq => by rw [hq]; exact h.b), hn.trans h.n, fun x hx => ?_, ?_, h.b⟩
  · by_cases e : x = (t : Int)
    · omega
    · rw [hi x e] at hx; exact h.lim x hx
  · have := hr.put t (.int .i64 v)
    rwa [show (iv (th S)).set t (.int .i64 v) = iv (th S') by unfold iv; rw [← List.map_set, th_set (by omega) (fun x _ e => hi x (by omega)) hv]] at this
theorem putF_n2 (S : QS) (h t : Int) : (putF S h t).2.n = S.n := putF_n S h t
/-- What a call leaves that brings one. -/
def Came (w0 w' : World) (g rb H t : Nat) (ok : Prop) : Prop := (ok → w'.cell? ⟨rb, t, none⟩ = some (.int .i64 0) ∧ w'.frozen? ⟨rb, t, none⟩ = false ∧ ∃ S', OI w0 (w'.setCell ⟨rb, t, none⟩ (.int .i64 1)) g rb H S') ∧ (¬ ok → ∃ S', OI w0 w' g rb H S')
def Went (w0 w' : World) (g rb H t : Nat) (ok : Prop) : Prop := (ok → w'.cell? ⟨rb, t, none⟩ = some (.int .i64 1) ∧ w'.frozen? ⟨rb, t, none⟩ = false ∧ ∃ S', OI w0 (w'.setCell ⟨rb, t, none⟩ (.int .i64 0)) g rb H S') ∧ (¬ ok → ∃ S', OI w0 w' g rb H S')
theorem OI.put_ (h : OI w0 w g rb H S) {y : Int} {t : Nat} (ht : t < 64) (hj : QJ (· = rb) w0 w' g (putF S y t).2) (hk : Kp (· = rb) w w') : Came w0 w' g rb H t ((putF S y t).1 = 0) := by
  obtain ⟨p1, p2⟩ := putF_in S h.j.qw y t
  refine ⟨fun h0 => ?_, fun h0 => ?_⟩
  · obtain ⟨a1, a2, a3⟩ := p1 h0
    obtain ⟨q1, q2, q3⟩ := h.store hj hk (putF_n S y t) ht (fun x hx => by rw [a3]; simp [hx]) (v := 1) (by rw [a3]; simp)
    rw [a1] at q1
    exact ⟨q1, q2, _, q3⟩
  · rw [p2 h0] at hj; exact ⟨S, h.same hj hk rfl fun _ => rfl⟩
theorem putO (h : OI w0 w g rb H S) (y : Int) {t : Nat} (ht : t < 64) : Calls Try.prog 11 #[.pointer (some ⟨g, 0, none⟩), .int .i64 y, .int .i64 (t : Int)] w fun e w' => e = .returned (.int .i64 (putF S y t).1) ∧ Came w0 w' g rb H t ((putF S y t).1 = 0) :=
  (putJ h.j y t).mono fun e w' ⟨q1, q2, q3⟩ => ⟨q1, h.put_ ht q2 q3⟩
theorem wakeO (h : OI w0 w g rb H S) {t : Nat} (ht : t < 64) : Calls Try.prog 18 #[.pointer (some ⟨g, 0, none⟩), .int .i64 (t : Int)] w fun e w' => ∃ a c, e = .returned (.tuple #[.int .i64 a, .int .i64 c]) ∧ Came w0 w' g rb H t (c = 0) :=
  (wakeJ h.j t).mono fun e w' ⟨q1, q2, q3⟩ => ⟨_, _, q1, h.put_ ht q2 q3⟩
theorem nextO (h : OI w0 w g rb H S) (y : Int) : Calls Try.prog 12 #[.pointer (some ⟨g, 0, none⟩), .int .i64 y] w fun e w' => ∃ v, e = .returned v ∧ ∃ S', OI w0 w' g rb H S' :=
  (nextJ h.j y).mono fun e w' ⟨q1, q2, q3⟩ => ⟨_, q1, _, h.same q2 q3 (nextF_n S y) (nextF_in S h.j.qw y)⟩
theorem tickO (h : OI w0 w g rb H S) (y : Int) : Calls Try.prog 13 #[.pointer (some ⟨g, 0, none⟩), .int .i64 y] w fun e w' => ∃ v, e = .returned v ∧ ∃ S', OI w0 w' g rb H S' :=
  (tickJ h.j y).mono fun e w' ⟨q1, q2, q3⟩ => ⟨_, q1, _, h.same q2 q3 (tickF_n S y) (tickF_in S y)⟩
theorem sleepO (h : OI w0 w g rb H S) (y : Int) : Calls Try.prog 16 #[.pointer (some ⟨g, 0, none⟩), .int .i64 y] w fun e w' => ∃ x c, e = .returned (.tuple #[.int .i64 x, .int .i64 c]) ∧ (c = 0 → 1 ≤ x ∧ x ≤ 63) ∧ Went w0 w' g rb H x.toNat (c = 0) :=
  (sleepJ h.j y).mono fun e w' ⟨q1, q2, q3⟩ => by
    obtain ⟨p1, p2⟩ := sleepF_in S h.j.qw y
    refine ⟨_, _, q1, fun h0 => ⟨isIn_ge h.j.qw (p1 h0).1, h.lim _ (p1 h0).1⟩, fun h0 => ?_, fun h0 => ?_⟩
    · obtain ⟨a1, a2⟩ := p1 h0
      have b1 := isIn_ge h.j.qw a1
      have b2 := h.lim _ a1
      generalize (sleepF S y).1.1 = x at *
      obtain ⟨m, rfl⟩ : ∃ m : Nat, x = m := ⟨x.toNat, by omega⟩
      have hm : ((m : Int)).toNat = m := by omega
      rw [hm]
      obtain ⟨r1, r2, r3⟩ := h.store q2 q3 (sleepF_n S y) (t := m) (by omega) (fun x hx => by rw [a2]; simp [hx]) (v := 0) (by rw [a2]; simp)
      rw [a1] at r1
      exact ⟨r1, r2, _, r3⟩
    · rw [p2 h0] at q2; exact ⟨S, h.same q2 q3 rfl fun _ => rfl⟩
theorem removeO (h : OI w0 w g rb H S) {t : Nat} (ht : t < 64) : Calls Try.prog 19 #[.pointer (some ⟨g, 0, none⟩), .int .i64 (t : Int)] w fun e w' => ∃ b, e = .returned (.bool b) ∧ Went w0 w' g rb H t (b = true) :=
  (removeJ h.j t).mono fun e w' ⟨q1, q2, q3⟩ => by
    obtain ⟨p1, p2⟩ := removeF_in S h.j.qw (t : Int)
    refine ⟨_, q1, fun h0 => ?_, fun h0 => ?_⟩
    · obtain ⟨r1, r2, r3⟩ := h.store q2 q3 (removeF_n S t) ht (fun x hx => by rw [p2]; simp [hx]) (v := 0) (by rw [p2]; simp)
      rw [← p1, h0] at r1
      exact ⟨r1, r2, _, r3⟩
    · refine ⟨_, h.same q2 q3 (removeF_n S t) fun x => ?_⟩
      rw [p2]
      by_cases e : x = (t : Int)
      · subst e; rw [← p1]; simpa using h0
      · simp [e]
end
set_option maxRecDepth 100000 in
set_option maxHeartbeats 4000000 in
theorem once_bad (n : Int) (a : Option Addr) (len cap : Nat) (w : World) (hn : ¬ (1 ≤ n ∧ n ≤ 8)) : Calls Try.prog 6 #[.int .i64 n, .slice a len cap] w fun e w' => e = .returned (.bool true) ∧ Below w.heap.size w w' := by
  have HN := Lib.hid (new_bad n w hn)
  clear hn
  go_enter Try.func6, Try.ntmps6
  go_wp2_with fail
  refine HN.out.mono ?_
  rintro e w1 ⟨rfl, rfl⟩
  go_wp2_with fail
  refine (lives_ok w).mono ?_
  rintro e w1 ⟨rfl, hB⟩
  have HB := Lib.hid hB
  clear hB
  go_wp2
  go_ret
  exact ⟨by first | rfl | simp, HB.out⟩
theorem th_start (H : Nat) : iv (th (S0 H)) = List.replicate 65 (.int .i64 0) := by
  have : th (S0 H) = List.replicate 65 0 := by unfold th; rfl
  rw [this]; simp [iv]

/-- The queues, the row of who is there (block rb), the row of what is found (block fb). -/
structure OF (w0 w : World) (g rb fb : Nat) (S : QS) (l : List Int) : Prop where
  j : QJ (fun k => k = rb ∨ k = fb) w0 w g S
  r : Rw w 3 1 (some ⟨rb, 0, none⟩) 65 65 (iv (th S))
  f : Rw w 3 1 (some ⟨fb, 0, none⟩) 65 65 (iv (fnd l))
  b : w0.heap.size ≤ fb
  ne : rb ≠ fb
section
variable {w0 w w' : World} {g rb fb H : Nat} {S S' : QS} {l : List Int}
theorem OF.look (h : OF w0 w g rb fb S l) (hb : Below w.heap.size w w') : OF w0 w' g rb fb S l := ⟨(h.j.look hb).1, h.r.below hb, h.f.below hb, h.b, h.ne⟩
theorem OF.drew (h : OF w0 w g rb fb S l) : OF w0 w.drew g rb fb S l := h.look (Below.drew (Below.refl _ _))
theorem OI.found (h : OI w0 w g rb H S) : OF w0 (w.alloc (.cells (madeCells #[.int .i64 0] 65) 3)) g rb w.heap.size S [] := by
  have h2 := h.alloc (.cells (madeCells #[.int .i64 0] 65) 3)
  have m2 := (make_one (P := Try.prog) intT rfl 65 (by omega) (by omega) w).2
  refine ⟨h.j.aside _, h2.r, by rw [fnd_nil]; simpa [iv] using m2, h.bl.size, fun e => ?_⟩
  have := h.r.blt; omega
theorem OF.cellR (h : OF w0 w g rb fb S l) {t : Nat} (ht : t < 65) : w.cell? ⟨rb, t, none⟩ = some (.int .i64 (if isIn S (t : Int) then 1 else 0)) := by
  rw [h.r.cell t (by omega)]; simp [iv, th_at S ht]
theorem OF.cellF (h : OF w0 w g rb fb S l) {t : Nat} (ht : t < 65) : w.cell? ⟨fb, t, none⟩ = some (.int .i64 ((l.count (t : Int) : Nat) : Int)) := by
  rw [h.f.cell t (by omega)]; simp [iv, fnd_at l ht]
theorem OF.add (h : OF w0 w g rb fb S l) {t : Nat} (ht : t < 65) : OF w0 (w.setCell ⟨fb, t, none⟩ (.int .i64 (((l.count (t : Int) : Nat) : Int) + 1))) g rb fb S (l ++ [(t : Int)]) := by
  have hc : Ch (· = fb) w (w.setCell ⟨fb, t, none⟩ (.int .i64 (((l.count (t : Int) : Nat) : Int) + 1))) := (Ch.refl (· = fb) w).cell _ _ fun _ => rfl
  refine ⟨h.j.write hc (fun _ q => .inr q) (fun q hq => by rw [hq]; exact h.b), h.r.ch hc (fun k hk e => h.ne (by injection hk with hk; exact hk.trans e)), ?_, h.b, h.ne⟩
  have := h.f.put t (.int .i64 (((l.count (t : Int) : Nat) : Int) + 1))
  rwa [show (iv (fnd l)).set t (.int .i64 (((l.count (t : Int) : Nat) : Int) + 1)) = iv (fnd (l ++ [(t : Int)])) by unfold iv; rw [← List.map_set, fnd_add l ht]] at this
theorem OF.all (h : OF w0 w g rb fb S (allT S S.n)) {t : Nat} (ht : t < 65) : ∃ v : Int, w.cell? ⟨fb, t, none⟩ = some (.int .i64 v) ∧ w.cell? ⟨rb, t, none⟩ = some (.int .i64 v) := by
  have h1 := h.f.cell t (by omega)
  rw [fnd_th h.j.qw, ← h.r.cell t (by omega), h.cellR ht] at h1
  exact ⟨_, h1, h.cellR ht⟩
end
theorem pre_count {S : QS} (W : QW S) {l r : List Int} {k : Nat} (h : l ++ r = allT S k) (t : Int) : l.count t ≤ 1 := by
  have h1 : (l ++ r).count t ≤ 1 := by rw [h, (allT_nodup W k).count]; split <;> omega
  rw [List.count_append] at h1; omega
theorem isIn_mem {S : QS} (W : QW S) {h : Nat} {x : Int} (hx : x ∈ hs S h) : isIn S x = true := by unfold isIn; rw [(W.mem hx).2.2]; rfl
def run1 (S : QS) (h : Nat) : List Int := if 0 < S.R h then [S.R h] else []
theorem hs_run1 (S : QS) (h : Nat) : hs S h = run1 S h ++ S.Q h := rfl
end Go.Proofs.Ytphikmdgdbdaiaa
