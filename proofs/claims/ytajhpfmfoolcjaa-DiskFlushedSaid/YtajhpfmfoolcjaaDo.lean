import Derived.Test.YtajhpfmfoolcjaaLook
import Derived.Deep.LoopGhost
import Derived.Deep.Cut
import Derived.Deep.CutRange
import Derived.Deep.DeepMust
/- New, Load, Pending, Read, clear, Write. -/
namespace Go.Proofs.Ytajhpfmfoolcjaa
open Go.RowKit Go.BigFrame
set_option linter.unusedVariables false
set_option linter.unusedSimpArgs false
attribute [local go_sem] szIs_lit row_at row_past row_alloc nf_alloc row_set nf_set row_cell nf_cell row_drew nf_drew row_drewN nf_drewN cell_setRow frozen_setRow nlt1 nlt2 nlt3 nlt4 nne1 nne2 nne3 nen1 nen2 nen3
/-- The worlds of the region 'xs = append(xs, x)': before, the new element laid, appended, stored. -/
def puK (w0 w1 w2 w3 : World) (i j k : Nat) (D : Nat → Bool) (w : World) : Prop := w = if D k then w3 else if D j then w2 else if D i then w1 else w0
theorem puK_out (w0 w1 w2 w3 : World) (i j k jj : Nat) (hj : ¬ (jj = i ∨ jj = j ∨ jj = k)) (D : Nat → Bool) (u : World) (hK : puK w0 w1 w2 w3 i j k D u) : puK w0 w1 w2 w3 i j k (upd D jj) u := by
  unfold puK at hK ⊢
  unfold upd
  have q1 : (i == jj) = false := by simp; omega
  have q2 : (j == jj) = false := by simp; omega
  have q3 : (k == jj) = false := by simp; omega
  rw [q1, q2, q3, Bool.or_false, Bool.or_false, Bool.or_false]; exact hK
section
variable {w0 w1 w2 w3 u : World} {i j k : Nat} {D : Nat → Bool} {α : Type} {run : World → Result α} {v : α}
theorem puK_1 (hi : D i = false) (hj : D j = false) (hk : D k = false) (hK : puK w0 w1 w2 w3 i j k D u) (q1 : i ≠ j) (q2 : i ≠ k) (hr : run w0 = .ok v w1) : ∃ w', run u = .ok v w' ∧ puK w0 w1 w2 w3 i j k (upd D i) w' := by
  unfold puK at hK
  rw [hi, hj, hk] at hK
  simp only [Bool.false_eq_true, if_false] at hK
  subst hK
  refine ⟨_, hr, ?_⟩
  unfold puK upd
  have e1 : (j == i) = false := by simp; omega
  have e2 : (k == i) = false := by simp; omega
  rw [hj, hk, e1, e2]; simp
theorem puK_2 (hi : D i = true) (hj : D j = false) (hk : D k = false) (hK : puK w0 w1 w2 w3 i j k D u) (q2 : j ≠ k) (hr : run w1 = .ok v w2) : ∃ w', run u = .ok v w' ∧ puK w0 w1 w2 w3 i j k (upd D j) w' := by
  unfold puK at hK
  rw [hi, hj, hk] at hK
  simp only [Bool.false_eq_true, if_false, if_true] at hK
  subst hK
  refine ⟨_, hr, ?_⟩
  unfold puK upd
  have e2 : (k == j) = false := by simp; omega
  rw [hk, e2]; simp
theorem puK_3 (hj : D j = true) (hk : D k = false) (hK : puK w0 w1 w2 w3 i j k D u) (hr : run w2 = .ok v w3) : ∃ w', run u = .ok v w' ∧ puK w0 w1 w2 w3 i j k (upd D k) w' := by
  unfold puK at hK
  rw [hj, hk] at hK
  simp only [Bool.false_eq_true, if_false, if_true] at hK
  subst hK
  refine ⟨_, hr, ?_⟩
  unfold puK upd
  simp
theorem puK_end (hk : D k = true) (hK : puK w0 w1 w2 w3 i j k D u) : u = w3 := by
  unfold puK at hK; rw [hk, if_pos rfl] at hK; exact hK
theorem puK_load {X : World → Prop} (h0 : X w0) (h1 : X w1) (h2 : X w2) (s : Sub (puK w0 w1 w2 w3 i j k) [] [k]) : X s.val := by
  obtain ⟨u, D, hu, _, hq⟩ := s
  have h16 := hq k (by simp)
  unfold puK at hu
  rw [h16, if_neg (by decide)] at hu
  show X u
  rw [hu]
  split
  · exact h2
  · split
    · exact h1
    · exact h0
end
section
variable {w : World} {a : DA} {S : DS}
def S0 (n : Nat) (l : List Int) : DS := ⟨n, l, [], false, 0⟩
def a0 (g pb pc m : Nat) : DA := ⟨g, pb, pc, m, none, 0, 0, 0, 0⟩
theorem new_bad (n : Int) (w : World) (hn : ¬ (1 ≤ n ∧ n ≤ 4096)) : Calls Try.prog 9 #[.int .i64 n] w fun e w' => e = .returned (.tuple #[.pointer none, .int .i64 1]) ∧ w = w' := by
  by_cases h1 : n < 1
  · clear hn
    go_enter Try.func9, Try.ntmps9
    go_wp2
    go_ret2
    exact ⟨by first | rfl | simp, rfl⟩
  · have h2 : 4096 < n := by omega
    clear hn
    go_enter Try.func9, Try.ntmps9
    go_wp2
    go_ret2
    exact ⟨by first | rfl | simp, rfl⟩
theorem bv_rep (n : Nat) : bv (List.replicate n 0) = List.replicate n (.int .u8 0) := by simp [bv]
theorem fresh_dr (w1 : World) (n pc : Nat) (l : List Int) (g pb m : Nat) (h1 : 1 ≤ n) (h2 : n ≤ 4096) (hl : l.length = n * 512) (hb : Blk w1 g (dcells (a0 g pb pc m) (S0 n l))) (hp : Rw w1 5 1 (some ⟨pb, 0, none⟩) (n * 512) pc (bv l)) (hm : IMap w1 m []) (e1 : g ≠ pb) (e2 : g ≠ m) (e3 : pb ≠ m) : DR w1 (a0 g pb pc m) (S0 n l) :=
  ⟨hb, by show Rw w1 5 1 _ l.length pc (bv l); rw [hl]; exact hp, Rw.nil _ _ _, ⟨[], hm, fun n => rfl⟩, by simp [S0], hl, ⟨h1, h2⟩, by simp [S0], by simp [S0], ⟨e1, e2, e3⟩, by simp [a0, blkOf], by simp [S0]⟩
theorem new_ok (n : Nat) (w : World) (h1 : 1 ≤ n) (h2 : n ≤ 4096) : Calls Try.prog 9 #[.int .i64 (n : Int)] w fun e w' => ∃ a, e = .returned (.tuple #[.pointer (some ⟨a.g, 0, none⟩), .int .i64 0]) ∧ DR w' a (S0 n (List.replicate (n * 512) 0)) ∧ Below w.heap.size w w' ∧ (∀ k, a.all (S0 n (List.replicate (n * 512) 0)) k → w.heap.size ≤ k) ∧ (a.rd = 0 ∧ a.wr = 0 ∧ a.fl = 0) := by
  obtain ⟨e1, e2⟩ := make_one (P := Try.prog) byT rfl (n * 512) (by omega) (by omega) w
  have e1' : (Instr.makeSlice 33 (.int .i64 ((n : Int) * 512)) (.int .i64 ((n : Int) * 512))).run Try.prog w = .ok (.slice (some ⟨w.heap.size, 0, none⟩) (n * 512) (n * 512)) (w.alloc (.cells (madeCells #[.int .u8 0] (n * 512)) 5)) := by
    rw [show ((n * 512 : Nat) : Int) = (n : Int) * 512 by omega] at e1
    exact e1
  rw [← bv_rep] at e2
  generalize hw1 : w.alloc (.cells (madeCells #[.int .u8 0] (n * 512)) 5) = w1 at *
  have hs1 : w1.heap.size = w.heap.size + 1 := by rw [← hw1]; simp
  have hb1 : Below w.heap.size w w1 := by rw [← hw1]; exact (Below.refl _ _).alloc (Nat.le_refl _) _
  have HE := Lib.hid (And.intro e2 hb1)
  clear e1 e2 hw1 hb1
  go_enter Try.func9, Try.ntmps9
  have hmk := fun w => run_makeMap (P := Try.prog) 62 w
  go_wp2
  go_ret2
  have hbb : Below w1.heap.size w1 ((w1.alloc (.map #[] 0)).alloc (.cells (dcells (a0 (w.heap.size + 2) w.heap.size (n * 512) (w.heap.size + 1)) (S0 n (List.replicate (n * 512) 0))) 65)) := ((Below.refl _ _).alloc (Nat.le_refl _) _).alloc (by simp) _
  refine ⟨a0 (w.heap.size + 2) w.heap.size (n * 512) (w.heap.size + 1), by simp [a0, hs1], ?_, ?_, fun k hk => ?_, rfl, rfl, rfl⟩
  · have hfin := fresh_dr ((w1.alloc (.map #[] 0)).alloc (.cells (dcells (a0 (w.heap.size + 2) w.heap.size (n * 512) (w.heap.size + 1)) (S0 n (List.replicate (n * 512) 0))) 65)) n (n * 512) (List.replicate (n * 512) 0) (w.heap.size + 2) w.heap.size (w.heap.size + 1) h1 h2 (by simp) (Blk.of_heap (heap_at (by simp [hs1]))) (HE.out.1.below hbb) ?_ (by omega) (by omega) (by omega)
    · simpa [dcells, a0, S0] using hfin
    · have := IMap.made w1
      rw [hs1] at this
      exact this.heap (heap_past (by simp [hs1]))
  · refine HE.out.2.trans (Below.mono ?_ HE.out.2.size)
    simpa [dcells, a0, S0] using hbb
  · rcases hk with (q | q | q | q) | ⟨p, hp, _⟩
    · simp [a0] at q; omega
    · simp [a0] at q; omega
    · simp [a0] at q; omega
    · simp [a0, blkOf] at q
    · simp [S0] at hp
theorem load_bad (w : World) (A : Option Addr) (n c : Nat) (hn : ¬ (n % 512 = 0 ∧ 1 ≤ n / 512 ∧ n / 512 ≤ 4096)) (hm : n ≤ 2 ^ 47) : Calls Try.prog 21 #[.slice A n c] w fun e w' => e = .returned (.tuple #[.pointer none, .int .i64 1]) ∧ w = w' := by
  by_cases h0 : n = 0
  · subst h0
    clear hn
    go_enter Try.func21, Try.ntmps21
    go_wp2
    go_ret2
    exact ⟨by first | rfl | simp, rfl⟩
  · have k0 : ((n : Int) == 0) = false := by
      have : ¬ (n : Int) = 0 := by omega
      simpa using this
    by_cases h1 : n % 512 = 0
    · have k1 : ((n : Int) % 512 != 0) = false := by
        have : (n : Int) % 512 = 0 := by omega
        simp [this]
      have k2 : (n : Int) / 512 > 4096 := by omega
      clear hn h0 h1
      go_enter Try.func21, Try.ntmps21
      go_wp2
      go_ret2
      exact ⟨by first | rfl | simp, rfl⟩
    · have k1 : ((n : Int) % 512 != 0) = true := by
        have : ¬ (n : Int) % 512 = 0 := by omega
        simpa using this
      clear hn h0 h1
      go_enter Try.func21, Try.ntmps21
      go_wp2
      go_ret2
      exact ⟨by first | rfl | simp, rfl⟩
theorem load_ok (w : World) (A : Option Addr) (n c m : Nat) (l : List Int) (h : Bs w A n c l) (hn : n = m * 512) (h1 : 1 ≤ m) (h2 : m ≤ 4096) : Calls Try.prog 21 #[.slice A n c] w fun e w' => ∃ a, e = .returned (.tuple #[.pointer (some ⟨a.g, 0, none⟩), .int .i64 0]) ∧ DR w' a (S0 m l) ∧ Below w.heap.size w w' ∧ (∀ k, a.all (S0 m l) k → w.heap.size ≤ k) ∧ (a.rd = 0 ∧ a.wr = 0 ∧ a.fl = 0) := by
  subst hn
  have HC := Lib.hid (clone_bs w A _ c l h)
  have hl := h.1
  have k0 : ((m : Int) * 512 == 0) = false := by
    have : ¬ (m : Int) * 512 = 0 := by omega
    simpa using this
  have k2 : (m : Int) ≤ 4096 := by omega
  clear h
  go_enter Try.func21, Try.ntmps21
  go_wp2_with fail
  refine HC.out.mono ?_
  rintro e w1 ⟨A', c', rfl, e2, hb1, hk⟩
  have hmk := fun w => run_makeMap (P := Try.prog) 62 w
  obtain ⟨pb, rfl⟩ := e2.some_ (by omega)
  have hpw := hk pb rfl
  have hpl := e2.blt
  have HE := Lib.hid (And.intro e2 hb1)
  clear e2 hb1 hk
  go_wp2
  go_ret2
  generalize hs : w1.heap.size = s1 at *
  have hbb : Below w1.heap.size w1 ((w1.alloc (.map #[] 0)).alloc (.cells (dcells (a0 (s1 + 1) pb c' s1) (S0 m l)) 65)) := ((Below.refl _ _).alloc (Nat.le_refl _) _).alloc (by simp) _
  refine ⟨a0 (s1 + 1) pb c' s1, by simp [a0], ?_, ?_, fun k hk => ?_, rfl, rfl, rfl⟩
  · have hfin := fresh_dr ((w1.alloc (.map #[] 0)).alloc (.cells (dcells (a0 (s1 + 1) pb c' s1) (S0 m l)) 65)) m c' l (s1 + 1) pb s1 h1 h2 (by omega) (Blk.of_heap (heap_at (by simp [hs]))) (HE.out.1.below hbb) ?_ (by omega) (by omega) (by omega)
    · simpa [dcells, a0, S0, hl] using hfin
    · have := IMap.made w1
      rw [hs] at this
      exact this.heap (heap_past (by simp [hs]))
  · refine HE.out.2.trans (Below.mono ?_ HE.out.2.size)
    simpa [dcells, a0, S0, hl] using hbb
  · have hws := HE.out.2.size
    rcases hk with (q | q | q | q) | ⟨p, hp, _⟩
    · simp [a0] at q; omega
    · simp [a0] at q; omega
    · simp [a0] at q; omega
    · simp [a0, blkOf] at q
    · simp [S0] at hp
theorem pending_nil (w : World) : Calls Try.prog 15 #[.pointer none] w fun e w' => e = .returned (.slice none 0 0) ∧ w = w' := by
  go_enter Try.func15, Try.ntmps15
  go_wp2
  go_ret
  exact ⟨by first | rfl | simp, rfl⟩
def PW.ni (p : PW) : Int := p.n
theorem bs39 (x : Int) (w : World) : (Instr.buildSlice 39 1 #[(0, .int .i64 x)]).run Try.prog w = .ok (.slice (some ⟨w.heap.size, 0, none⟩) 1 1) (w.alloc (.cells #[.int .i64 x] 3)) := by
  simp [go_sem]
theorem DR.pcell (H : DR w a S) {j : Nat} {p : PW} (hp : S.pend[j]? = some p) : ∃ b, a.A = some ⟨b, 0, none⟩ ∧ w.cell? ⟨b, j * 2, none⟩ = some (.int .i64 (p.n : Int)) ∧ w.cell? ⟨b, j * 2 + 1, none⟩ = some p.val := by
  have hj := (List.getElem?_eq_some_iff.1 hp).1
  obtain ⟨b, hb⟩ := H.pend.some_ (by omega)
  have h := H.pend
  rw [hb] at h
  obtain ⟨q1, q2⟩ := pcells_get hp
  exact ⟨b, hb, (h.cell _ (by omega)).trans q1, (h.cell _ (by omega)).trans q2⟩
set_option maxRecDepth 100000 in
set_option maxHeartbeats 4000000 in
theorem pending_ok (H : DR w a S) (hlen : S.pend.length ≤ 2 ^ 42) : Calls Try.prog 15 #[.pointer (some ⟨a.g, 0, none⟩)] w fun e w' => ∃ A c, e = .returned (.slice A S.pend.length c) ∧ Rw w' 3 1 A S.pend.length c (iv (S.pend.map PW.ni)) ∧ Below w.heap.size w w' ∧ (∀ k, blkOf A = some k → w.heap.size ≤ k) := by
  have HH := Lib.hid H
  have c1 := H.cells.2.1
  generalize hL : S.pend.length = L at *
  have HL := Lib.hid hL
  obtain ⟨AA, hAA⟩ : ∃ AA, AA = a.A := ⟨_, rfl⟩
  rw [← hAA] at c1
  have HAA := Lib.hid hAA
  clear H hL hAA
  go_enter Try.func15, Try.ntmps15
  go_wp2_with fail
  go_loopg [3, 13] L (fun k o_ i_ wr => ∃ (j : Nat) (A : Option Addr) (c : Nat), i_ = .int .i64 (j : Int) ∧ o_ = .slice A j c ∧ k = L - j ∧ j ≤ L ∧ Rw wr 3 1 A j c (iv ((S.pend.take j).map PW.ni)) ∧ Below w.heap.size w wr ∧ ∀ k, blkOf A = some k → w.heap.size ≤ k)
  case atStart => exact ⟨0, none, 0, rfl, rfl, rfl, by omega, Rw.nil _ _ _, Below.refl _ _, by simp [blkOf]⟩
  case round =>
    obtain ⟨j, A, c, rfl, rfl, hk, hj, hr, hb, hf⟩ := hrel
    have HK := Lib.hid hk
    have HR := Lib.hid hr
    have HB := Lib.hid hb
    have HF := Lib.hid hf
    clear hk hr hb hf
    by_cases hlt : j < L
    · obtain ⟨p, hp⟩ : ∃ p, S.pend[j]? = some p := ⟨_, List.getElem?_eq_getElem (by rw [HL.out]; exact hlt)⟩
      obtain ⟨b, hA, d0, d1⟩ := (HH.out.below HB.out).pcell hp
      have hA2 : AA = some ⟨b, 0, none⟩ := HAA.out.trans hA
      subst hA2
      have hsz := HB.out.size
      have hrl := HR.out.le
      have hb1 : Below w.heap.size w ((wr.alloc (.cells #[.int .i64 (p.n : Int), p.val] 69)).alloc (.cells #[.int .i64 (p.n : Int)] 3)) := (HB.out.alloc (by omega) _).alloc (by simp; omega) _
      have hbb : Below wr.heap.size wr ((wr.alloc (.cells #[.int .i64 (p.n : Int), p.val] 69)).alloc (.cells #[.int .i64 (p.n : Int)] 3)) := ((Below.refl _ _).alloc (Nat.le_refl _) _).alloc (by simp) _
      obtain ⟨A2, c2, w2, e1, e2, e3, e4⟩ := rw_append (P := Try.prog) intT 39 (HR.out.below hbb) (some ⟨wr.heap.size + 1, 0, none⟩) 1 1 [.int .i64 (p.n : Int)] rfl (Rd.of_cells (fun j u hu => by
        cases j with
        | zero => simp at hu; subst hu; simp [go_sem]
        | succ j => simp at hu) (by simp [Value.oneCell'])) (by intro e; cases e) (by unfold maxLen; omega) (by omega)
      have hbs := bs39 (p.n : Int)
      have e5 : iv ((S.pend.take (j + 1)).map PW.ni) = iv ((S.pend.take j).map PW.ni) ++ [.int .i64 (p.n : Int)] := by
        rw [List.take_add_one, hp]; simp [iv, PW.ni]
      rw [← e5] at e2
      have HE1 := Lib.hid e1
      have HE := Lib.hid (And.intro e2 (And.intro (And.intro hb1 e3) e4))
      clear e1 e2 e3 e4 hb1 hbb hp hA e5
      unfold PW.val at d1 HE1 HE
      go_wp2_with (at_builtin; (refine wpList_run rfl (s := Builtin.append_ #[39, 39] 39 #[.slice A j c, .slice (some ⟨wr.heap.size + 1, 0, none⟩) 1 1]) (by kernel_rfl) HE1.out ?_))
      go_roundg (L - (j + 1))
      case measure => have := HK.out; omega
      case rel =>
        refine ⟨j + 1, A2, c2, by go_num, rfl, rfl, by omega, HE.out.1, HE.out.2.1.1.trans (HE.out.2.1.2.below (fun k hk q => ?_) HE.out.2.1.1.size), fun k q => ?_⟩
        · have := HF.out k q; omega
        · rcases HE.out.2.2 with e | e
          · exact HF.out k (e ▸ q)
          · rw [e] at q; injection q with q; have := HE.out.2.1.1.size; omega
    · obtain rfl : j = L := by omega
      have ht : S.pend.take j = S.pend := List.take_of_length_le (by rw [HL.out]; exact Nat.le_refl _)
      have HR2 := HR.out
      rw [ht] at HR2
      have HR2 := Lib.hid HR2
      go_wp2_with fail
      go_ret
      exact ⟨A, c, by first | rfl | simp, HR2.out, HB.out, HF.out⟩
theorem read_nil (n : Int) (w : World) : Calls Try.prog 14 #[.pointer none, .int .i64 n] w fun e w' => e = .returned (.tuple #[.slice none 0 0, .int .i64 6]) ∧ w = w' := by
  go_enter Try.func14, Try.ntmps14
  go_wp2
  go_ret2
  exact ⟨by first | rfl | simp, rfl⟩
theorem read_no (H : DR w a S) (n : Int) (hn : ¬ (0 ≤ n ∧ n < S.cnt)) : Calls Try.prog 14 #[.pointer (some ⟨a.g, 0, none⟩), .int .i64 n] w fun e w' => e = .returned (.tuple #[.slice none 0 0, .int .i64 20]) ∧ w = w' := by
  have HI := Lib.hid (is_no H n hn)
  clear H hn
  go_enter Try.func14, Try.ntmps14
  go_wp2_with fail
  refine HI.out.mono ?_
  rintro e w' ⟨rfl, rfl⟩
  go_wp2
  go_ret2
  exact ⟨by first | rfl | simp, rfl⟩
/-- What a sector says. -/
def DS.says (S : DS) (n : Nat) : List Int := match lastOf S.pend n with
  | some p => p.bs
  | none => (S.plat.drop (n * 512)).take 512
theorem plat_bs (H : DR w a S) (n : Nat) (hn : n < S.cnt) : Bs w (some ⟨a.pb, n * 512, none⟩) 512 (a.pc - n * 512) ((S.plat.drop (n * 512)).take 512) := by
  have hs := H.size
  refine ⟨by simp; omega, by omega, (by intro e; cases e), Rd.of_cells (fun j u hu => ?_) (bv_one _)⟩
  have hj := (List.getElem?_eq_some_iff.1 hu).1
  rw [bv_len] at hj
  simp only [List.length_take, List.length_drop] at hj
  rw [H.plat.cell (n * 512 + j) (by omega)]
  have : (bv ((S.plat.drop (n * 512)).take 512))[j]? = (bv S.plat)[n * 512 + j]? := by
    unfold bv
    rw [List.getElem?_map, List.getElem?_map, List.getElem?_take_of_lt (by omega), List.getElem?_drop]
  rw [← this]; exact hu
set_option maxHeartbeats 1000000 in
theorem read_ok (H : DR w a S) (n : Nat) (hn : n < S.cnt) : Calls Try.prog 14 #[.pointer (some ⟨a.g, 0, none⟩), .int .i64 (n : Int)] w fun e w' => ∃ A c a', e = .returned (.tuple #[.slice A 512 c, .int .i64 0]) ∧ Rw w' 5 1 A 512 c (bv (S.says n)) ∧ DR w' a' S ∧ Mv w a S w' a' S ∧ (∀ k, blkOf A = some k → w.heap.size ≤ k) := by
  have HI := Lib.hid (is_yes H n hn)
  have c5 := H.cells.2.2.2.2.2.1
  have z5 := H.cells.2.2.2.2.2.2.2.2 5
  have HR : ∀ x : Int, DR (w.setCell ⟨a.g, 5, none⟩ (.int .i64 x)) { a with rd := x } S ∧ Mv w a S (w.setCell ⟨a.g, 5, none⟩ (.int .i64 x)) { a with rd := x } S := fun x =>
    H.fld 5 (.int .i64 x) { a with rd := x } S rfl ⟨rfl, rfl, rfl, rfl, rfl, rfl⟩ ⟨rfl, rfl, rfl⟩ H.lft
  obtain ⟨p1, p2⟩ := HR (wrap64 (a.rd + 1))
  have hW2 : (w.setCell ⟨a.g, 5, none⟩ (.int .i64 (wrap64 (a.rd + 1)))).heap.size = w.heap.size := by simp
  have c2 := H.cells.2.2.1
  obtain ⟨M, hm, hM⟩ := p1.map
  have hlk := imap_lookup (P := Try.prog) hm ty62 ty3 (zero33 _) (n : Int) true
  simp only [if_true] at hlk
  rw [hM] at hlk
  have HP := Lib.hid (And.intro p1 p2)
  have HW := Lib.hid hW2
  cases hlast : lastOf S.pend n with
  | some p =>
    rw [hlast] at hlk
    simp only [Option.map_some, Option.getD_some, Option.isSome_some] at hlk
    unfold PW.val at hlk
    have HC := Lib.hid (clone_ok _ _ _ _ _ (p1.rows p (lastOf_mem hlast).1) (by omega))
    have hs : S.says n = p.bs := by unfold DS.says; rw [hlast]
    rw [hs]
    clear H HR p1 p2 hm hM hlast hs hW2
    go_enter Try.func14, Try.ntmps14
    go_wp2_with fail
    refine HI.out.mono ?_
    rintro e w' ⟨rfl, rfl⟩
    go_wp2_with fail
    refine HC.out.mono ?_
    rintro e w2 ⟨A, c, rfl, h1, h2, h3⟩
    have HF := Lib.hid (And.intro h1 (And.intro h2 h3))
    clear h1 h2 h3
    go_wp2
    go_ret2
    exact ⟨A, c, _, by first | rfl | simp, HF.out.1, HP.out.1.below HF.out.2.1, HP.out.2.trans (Mv.of_below _ _ HF.out.2.1), fun k q => by have := HF.out.2.2 k q; rw [HW.out] at this; exact this⟩
  | none =>
    rw [hlast] at hlk
    simp only [Option.map_none, Option.getD_none, Option.isSome_none] at hlk
    have HS := Lib.hid (sector_ok p1 n hn)
    have HC := Lib.hid (clone_bs _ _ _ _ _ (plat_bs p1 n hn))
    have hs : S.says n = (S.plat.drop (n * 512)).take 512 := by unfold DS.says; rw [hlast]
    rw [hs]
    clear H HR p1 p2 hm hM hlast hs hW2
    go_enter Try.func14, Try.ntmps14
    go_wp2_with fail
    refine HI.out.mono ?_
    rintro e w' ⟨rfl, rfl⟩
    go_wp2_with fail
    refine HS.out.mono ?_
    rintro e w2 ⟨rfl, rfl⟩
    go_wp2_with fail
    refine HC.out.mono ?_
    rintro e w2 ⟨A, c, rfl, h1, h2, h3⟩
    have HF := Lib.hid (And.intro h1 (And.intro h2 h3))
    clear h1 h2 h3
    go_wp2
    go_ret2
    exact ⟨A, c, _, by first | rfl | simp, HF.out.1, HP.out.1.below HF.out.2.1, HP.out.2.trans (Mv.of_below _ _ HF.out.2.1), fun k q => by have := HF.out.2.2 k q; rw [HW.out] at this; exact this⟩
theorem DR.cleared (H : DR w a S) : DR (((w.setCell ⟨a.g, 1, none⟩ (.slice none 0 0)).setCell ⟨a.g, 2, none⟩ (.map (some w.heap.size))).alloc (.map #[] 0)) { a with A := none, c := 0, m := w.heap.size } { S with pend := [] } ∧ Mv w a S (((w.setCell ⟨a.g, 1, none⟩ (.slice none 0 0)).setCell ⟨a.g, 2, none⟩ (.map (some w.heap.size))).alloc (.map #[] 0)) { a with A := none, c := 0, m := w.heap.size } { S with pend := [] } := by
  have hlt := H.blk.lt
  have hpl := H.plat.blt
  have hb := (H.blk.put 1 (.slice none 0 0)).put 2 (.map (some w.heap.size))
  have hq0 : Ch (· = a.g) w w := Ch.refl _ w
  have hq1 := hq0.cell ⟨a.g, 1, none⟩ (.slice none 0 0) (fun _ => rfl)
  have hq2 := hq1.cell ⟨a.g, 2, none⟩ (.map (some w.heap.size)) (fun _ => rfl)
  have hch := hq2.alloc (.map #[] 0)
  clear hq0 hq1 hq2
  have hsz : ((w.setCell ⟨a.g, 1, none⟩ (.slice none 0 0)).setCell ⟨a.g, 2, none⟩ (.map (some w.heap.size))).heap.size = w.heap.size := by simp
  generalize (w.setCell ⟨a.g, 1, none⟩ (.slice none 0 0)).setCell ⟨a.g, 2, none⟩ (.map (some w.heap.size)) = w1 at *
  have hb2 : Blk (w1.alloc (.map #[] 0)) a.g (dcells { a with A := none, c := 0, m := w.heap.size } { S with pend := [] }) := hb.same (Below.heap_alloc w1 _ a.g (by omega))
  have hm := IMap.made w1
  rw [hsz] at hm
  refine ⟨⟨hb2, H.plat.ch hch (fun k e e2 => H.gp.1 (by injection e with e; simp only at e e2 ⊢; omega)), Rw.nil _ _ _, ⟨[], hm, fun _ => rfl⟩, by simp, H.size, H.c1, by simp, H.lft, ⟨H.gp.1, by show a.g ≠ w.heap.size; omega, by show a.pb ≠ w.heap.size; omega⟩, by simp [blkOf], by simp⟩, hch.mono fun k _ e => .inl e, rfl, fun k q => ?_, fun k q => ?_⟩
  · rcases q with q | q | q | q
    · exact .inl (.inl q)
    · exact .inl (.inr (.inl q))
    · exact .inr (by simp only at q; omega)
    · simp [blkOf] at q
  · rcases q with (q | q | q | q) | ⟨p, hp, _⟩
    · exact .inl (.inl (.inl q))
    · exact .inl (.inl (.inr (.inl q)))
    · exact .inr (by simp only at q; omega)
    · simp [blkOf] at q
    · simp at hp
theorem clear_ok (H : DR w a S) : Calls Try.prog 31 #[.pointer (some ⟨a.g, 0, none⟩)] w fun e w' => ∃ a', e = .returned (.tuple #[]) ∧ DR w' a' { S with pend := [] } ∧ Mv w a S w' a' { S with pend := [] } ∧ a'.rd = a.rd ∧ a'.wr = a.wr ∧ a'.fl = a.fl := by
  have hz := H.cells.2.2.2.2.2.2.2.2
  have z1 := hz 1
  have z2 := hz 2
  have c1 := H.cells.2.1
  have c2 := H.cells.2.2.1
  have hlt := H.blk.lt
  have HH := Lib.hid H.cleared
  clear H hz
  go_enter Try.func31, Try.ntmps31
  have hmk := fun w => run_makeMap (P := Try.prog) 62 w
  go_wp2
  go_end0
  exact ⟨_, by first | rfl | simp, HH.out.1, HH.out.2, rfl, rfl, rfl⟩
theorem write_nil (n : Int) (v : Value) (w : World) : Calls Try.prog 10 #[.pointer none, .int .i64 n, v] w fun e w' => e = .returned (.int .i64 6) ∧ w = w' := by
  go_enter Try.func10, Try.ntmps10
  go_wp2
  go_ret
  exact ⟨by first | rfl | simp, rfl⟩
theorem write_no (H : DR w a S) (n : Int) (v : Value) (hn : ¬ (0 ≤ n ∧ n < S.cnt)) : Calls Try.prog 10 #[.pointer (some ⟨a.g, 0, none⟩), .int .i64 n, v] w fun e w' => e = .returned (.int .i64 20) ∧ w = w' := by
  have HI := Lib.hid (is_no H n hn)
  clear H hn
  go_enter Try.func10, Try.ntmps10
  go_wp2_with fail
  refine HI.out.mono ?_
  rintro e w' ⟨rfl, rfl⟩
  go_wp2
  go_ret
  exact ⟨by first | rfl | simp, rfl⟩
theorem write_off (H : DR w a S) (n : Nat) (A : Option Addr) (c : Nat) (hn : n < S.cnt) (ho : S.off = true) : Calls Try.prog 10 #[.pointer (some ⟨a.g, 0, none⟩), .int .i64 (n : Int), .slice A 512 c] w fun e w' => e = .returned (.int .i64 0) ∧ w = w' := by
  have HI := Lib.hid (is_yes H n hn)
  have HD := Lib.hid (does_off H ho)
  clear H hn
  go_enter Try.func10, Try.ntmps10
  go_wp2_with fail
  refine HI.out.mono ?_
  rintro e w' ⟨rfl, rfl⟩
  go_wp2_with fail
  refine HD.out.mono ?_
  rintro e w' ⟨rfl, rfl⟩
  go_wp2
  go_ret
  exact ⟨by first | rfl | simp, rfl⟩
def DS.push (S : DS) (p : PW) : DS := { S with pend := S.pend ++ [p] }
theorem DR.push (H : DR w a S) (w0 : World) (hb : Below w0.heap.size w0 w) (p : PW) (hn : p.n < S.cnt) (hp : Rw w 5 1 (some ⟨p.b, 0, none⟩) 512 p.c (bv p.bs)) (hpf : w0.heap.size ≤ p.b) (hf : ¬ a.all S p.b) {M : IM} (hM : ∀ n, M.get n = (lastOf S.pend n).map PW.val) {A2 : Option Addr} {c2 : Nat} {w2 w4 : World} (r2 : Rw w2 69 2 A2 (S.pend.length + 1) c2 (pcells S.pend ++ p.cells)) (ch2 : Ch (fun k => blkOf a.A = some k) w w2) (hA2 : blkOf A2 = blkOf a.A ∨ ∃ k, blkOf A2 = some k ∧ w.heap.size ≤ k)
    (m4 : IMap w4 a.m (M.put p.n p.val)) (ch4 : Ch (· = a.m) (w2.setCell ⟨a.g, 1, none⟩ (.slice A2 (S.pend.length + 1) c2)) w4) : DR w4 { a with A := A2, c := c2 } (S.push p) ∧ Mv w0 a S w4 { a with A := A2, c := c2 } (S.push p) := by
  have hA : ∀ k, k < w.heap.size → blkOf A2 = some k → blkOf a.A = some k := fun k hk e => by
    rcases hA2 with h | ⟨j, h, hj⟩
    · rw [← h]; exact e
    · rw [h] at e; injection e with e; omega
  have hgl := H.blk.lt
  have hpl := H.plat.blt
  have hml : a.m < w.heap.size := H.foot_lt (.inl (.inr (.inr (.inl rfl))))
  have st1 : ∀ k, k < w.heap.size → k ≠ a.g → k ≠ a.m → blkOf a.A ≠ some k → w4.heap[k]? = w.heap[k]? := fun k hk e1 e2 e3 =>
    (ch4.block k (Nat.lt_of_lt_of_le hk (by simpa using ch2.size)) e2).trans ((heap_setCell_other w2 ⟨a.g, 1, none⟩ k _ e1).trans (ch2.block k hk e3))
  have hb2 : Blk w2 a.g (dcells a S) := H.blk.ch ch2 H.ag.1
  have hb4 : Blk w4 a.g (dcells { a with A := A2, c := c2 } (S.push p)) := by
    have h1 := hb2.put 1 (.slice A2 (S.pend.length + 1) c2)
    have h2 := h1.ch ch4 H.gp.2.1
    have e : (dcells a S).setIfInBounds 1 (.slice A2 (S.pend.length + 1) c2) = dcells { a with A := A2, c := c2 } (S.push p) := by
      simp [dcells, DS.push]
    rwa [e] at h2
  have hch : Ch a.foot w w4 := ((ch2.mono fun k _ q => .inr (.inr (.inr q))).cell _ _ fun _ => .inl rfl).trans ch4 fun k _ q => .inr (.inr (.inl q))
  refine ⟨⟨hb4, H.plat.heap fun k e => ?_, ?_, ⟨_, m4, fun n => ?_⟩, fun q hq => ?_, H.size, H.c1, fun q hq => ?_, H.lft, H.gp, ⟨fun e => H.ag.1 (hA _ hgl e), fun e => H.ag.2.1 (hA _ hpl e), fun e => H.ag.2.2 (hA _ hml e)⟩, fun q hq => ?_⟩, ?_⟩
  · obtain rfl : a.pb = k := by injection e
    exact st1 _ hpl H.gp.1.symm H.gp.2.2 H.ag.2.1
  · have hr : Rw w4 69 2 A2 (S.pend.length + 1) c2 (pcells S.pend ++ p.cells) := r2.heap fun k e => by
      have e1 : k ≠ a.g := fun e2 => H.ag.1 (hA _ hgl (e2 ▸ e))
      have e2 : k ≠ a.m := fun e2 => H.ag.2.2 (hA _ hml (e2 ▸ e))
      have hkl := r2.lt k e
      exact (ch4.block k (by simpa using hkl) e2).trans (heap_setCell_other w2 ⟨a.g, 1, none⟩ k _ e1)
    have e : pcells (S.push p).pend = pcells S.pend ++ p.cells := by simp [DS.push, pcells]
    have e2 : (S.push p).pend.length = S.pend.length + 1 := by simp [DS.push]
    rw [e, e2]; exact hr
  · show (M.put p.n p.val).get n = (lastOf (S.pend ++ [p]) n).map PW.val
    rw [IM.get_put, lastOf_snoc, hM]
    split <;> simp
  · rcases List.mem_append.1 hq with hq | hq
    · have h1 := H.ar q hq
      exact (H.rows q hq).heap fun k e => by
        obtain rfl : q.b = k := by injection e
        exact st1 _ (H.rows q hq).blt h1.1 h1.2.2.1 h1.2.2.2
    · obtain rfl : q = p := by simpa using hq
      exact hp.heap fun k e => by
        obtain rfl : q.b = k := by injection e
        exact st1 _ hp.blt (fun e => hf (.inl (.inl e))) (fun e => hf (.inl (.inr (.inr (.inl e))))) (fun e => hf (.inl (.inr (.inr (.inr e)))))
  · rcases List.mem_append.1 hq with hq | hq
    · exact H.ins q hq
    · obtain rfl : q = p := by simpa using hq
      exact hn
  · rcases List.mem_append.1 hq with hq | hq
    · have h1 := H.ar q hq
      exact ⟨h1.1, h1.2.1, h1.2.2.1, fun e => h1.2.2.2 (hA _ (H.rows q hq).blt e)⟩
    · obtain rfl : q = p := by simpa using hq
      exact ⟨fun e => hf (.inl (.inl e)), fun e => hf (.inl (.inr (.inl e))), fun e => hf (.inl (.inr (.inr (.inl e)))), fun e => hf (.inl (.inr (.inr (.inr (hA _ hp.blt e)))))⟩
  · have hft : ∀ k, DA.foot { a with A := A2, c := c2 } k → a.foot k ∨ w0.heap.size ≤ k := fun k q => by
      rcases q with q | q | q | q
      · exact .inl (.inl q)
      · exact .inl (.inr (.inl q))
      · exact .inl (.inr (.inr (.inl q)))
      · rcases hA2 with h | ⟨j, h, hj⟩
        · exact .inl (.inr (.inr (.inr (h ▸ q))))
        · simp only at q; rw [h] at q; injection q with q; have := hb.size; exact .inr (by omega)
    refine ⟨(Ch.of_below hb).trans hch fun _ _ q => q, rfl, hft, fun k q => ?_⟩
    rcases q with q | ⟨q, hq, e⟩
    · exact (hft k q).imp .inl id
    · rcases List.mem_append.1 hq with hq | hq
      · exact .inl (.inr ⟨q, hq, e⟩)
      · obtain rfl : q = p := by simpa using hq
        exact .inr (e ▸ hpf)
theorem write_len (H : DR w a S) (n : Nat) (A : Option Addr) (m c : Nat) (hn : n < S.cnt) (hm : ¬ m = 512) : Calls Try.prog 10 #[.pointer (some ⟨a.g, 0, none⟩), .int .i64 (n : Int), .slice A m c] w fun e w' => e = .returned (.int .i64 1) ∧ w = w' := by
  have HI := Lib.hid (is_yes H n hn)
  have k0 : ((m : Int) != 512) = true := by
    have : ¬ (m : Int) = 512 := by omega
    simpa using this
  clear H hn hm
  go_enter Try.func10, Try.ntmps10
  go_wp2_with fail
  refine HI.out.mono ?_
  rintro e w' ⟨rfl, rfl⟩
  go_wp2
  go_ret
  exact ⟨by first | rfl | simp, rfl⟩
theorem bs63 (x : Int) (v : Value) (h : v.oneCell' = true) (w : World) : (Instr.buildSlice 63 1 #[(0, .agg #[.int .i64 x, v])]).run Try.prog w = .ok (.slice (some ⟨w.heap.size, 0, none⟩) 1 1) (w.alloc (.cells #[.int .i64 x, v] 69)) := by
  cases v <;> simp [Value.oneCell'] at h <;> simp [go_sem]
theorem sz63 (w : World) : (sizeOf 63).run Try.prog w = .ok 1 w := by kernel_rfl
theorem push_ok {w3 : World} (h4 : DR w3 a S) (w1 : World) (hb13 : Below w1.heap.size w1 w3) (p : PW) (hn : p.n < S.cnt) (hpr : Rw w3 5 1 (some ⟨p.b, 0, none⟩) 512 p.c (bv p.bs)) (hbf : w1.heap.size ≤ p.b) (hfall : ¬ a.all S p.b) (ob : Nat) (hob : ob < w3.heap.size) (hobf : ¬ a.foot ob) (e0 : w3.cell? ⟨ob, 0, none⟩ = some (.int .i64 (p.n : Int))) (e1 : w3.cell? ⟨ob, 1, none⟩ = some (.slice (some ⟨p.b, 0, none⟩) 512 p.c)) (hlen : S.pend.length ≤ 4398046511103) :
    ∃ A2 c2 w5 w7, (Builtin.append_ #[63, 63] 63 #[.slice a.A S.pend.length a.c, .slice (some ⟨w3.heap.size, 0, none⟩) 1 1]).run Try.prog (w3.alloc (.cells #[.int .i64 (p.n : Int), .slice (some ⟨p.b, 0, none⟩) 512 p.c] 69)) = .ok (.slice A2 (S.pend.length + 1) c2) w5
      ∧ (Instr.storeAt 63 (.pointer (some ⟨a.g, 1, none⟩)) (.slice A2 (S.pend.length + 1) c2)).run Try.prog w5 = .ok () (w5.setCell ⟨a.g, 1, none⟩ (.slice A2 (S.pend.length + 1) c2))
      ∧ (Instr.mapUpdate 62 (.map (some a.m)) (.int .i64 (p.n : Int)) (.slice (some ⟨p.b, 0, none⟩) 512 p.c)).run Try.prog (w5.setCell ⟨a.g, 1, none⟩ (.slice A2 (S.pend.length + 1) c2)).drew = .ok () w7
      ∧ (∀ u, u = w3 ∨ u = (w3.alloc (.cells #[.int .i64 (p.n : Int), .slice (some ⟨p.b, 0, none⟩) 512 p.c] 69)) ∨ u = w5 → u.cell? ⟨a.g, 1, none⟩ = some (.slice a.A S.pend.length a.c) ∧ u.cell? ⟨ob, 0, none⟩ = some (.int .i64 (p.n : Int)) ∧ u.cell? ⟨ob, 1, none⟩ = some (.slice (some ⟨p.b, 0, none⟩) 512 p.c))
      ∧ ((w5.setCell ⟨a.g, 1, none⟩ (.slice A2 (S.pend.length + 1) c2)).cell? ⟨a.g, 2, none⟩ = some (.map (some a.m)) ∧ (w5.setCell ⟨a.g, 1, none⟩ (.slice A2 (S.pend.length + 1) c2)).cell? ⟨ob, 1, none⟩ = some (.slice (some ⟨p.b, 0, none⟩) 512 p.c))
      ∧ DR w7 { a with A := A2, c := c2 } (S.push p) ∧ Mv w1 a S w7 { a with A := A2, c := c2 } (S.push p) := by
  have hle := h4.pend.le
  have hB1 : Below w3.heap.size w3 (w3.alloc (.cells #[.int .i64 (p.n : Int), .slice (some ⟨p.b, 0, none⟩) 512 p.c] 69)) := (Below.refl _ _).alloc (Nat.le_refl _) _
  obtain ⟨A2, c2, w5, f1, f2, f3, f4⟩ := rw_append (P := Try.prog) pwT 63 (h4.below hB1).pend (some ⟨w3.heap.size, 0, none⟩) 1 1 p.cells rfl (Rd.of_cells (fun j u hu => by
    match j with
    | 0 => simp [PW.cells] at hu; subst hu; simp [go_sem]
    | 1 => simp [PW.cells, PW.val] at hu; subst hu; simp [go_sem]
    | j + 2 => simp [PW.cells] at hu) (by simp [PW.cells, PW.val, Value.oneCell'])) (by intro e; cases e) (by unfold maxLen; omega) (by omega)
  have hB5 : Blk w5 a.g (dcells a S) := ((h4.below hB1).blk).ch f3 h4.ag.1
  have hst := store_cell (P := Try.prog) 63 ⟨a.g, 1, none⟩ (.slice A2 (S.pend.length + 1) c2) _ w5 (sz63 _) rfl ((hB5.all.2.2.1 1).trans rfl) (hB5.all.2.2.2 1)
  obtain ⟨M, hm, hM⟩ := h4.map
  have hm5 : IMap w5 a.m M := (hm.heap (hB1.block a.m hm.lt)).ch f3 h4.ag.2.2
  have hm6 : IMap (w5.setCell ⟨a.g, 1, none⟩ (.slice A2 (S.pend.length + 1) c2)) a.m M := hm5.heap (heap_setCell_other w5 ⟨a.g, 1, none⟩ a.m _ h4.gp.2.1.symm)
  obtain ⟨w7, m1, m2, m3, _⟩ := imap_update (P := Try.prog) hm6.drew ty62 ty3 (p.n : Int) (.slice (some ⟨p.b, 0, none⟩) 512 p.c)
  have hb03 : Below w1.heap.size w1 (w3.alloc (.cells #[.int .i64 (p.n : Int), .slice (some ⟨p.b, 0, none⟩) 512 p.c] 69)) := hb13.trans (Below.mono hB1 hb13.size)
  obtain ⟨g1, g2⟩ := DR.push (h4.below hB1) w1 hb03 p hn (hpr.below hB1) hbf hfall hM f2 f3 (f4.imp id fun e => ⟨_, e, Nat.le_refl _⟩) m2 m3.undrew
  have hobg : ¬ ob = a.g := fun e => hobf (.inl e)
  have hobA : blkOf a.A ≠ some ob := fun e => hobf (.inr (.inr (.inr e)))
  have l2 : ∀ (k : Nat) v, w3.cell? ⟨ob, k, none⟩ = some v → (w3.alloc (.cells #[.int .i64 (p.n : Int), .slice (some ⟨p.b, 0, none⟩) 512 p.c] 69)).cell? ⟨ob, k, none⟩ = some v ∧ w5.cell? ⟨ob, k, none⟩ = some v ∧ (w5.setCell ⟨a.g, 1, none⟩ (.slice A2 (S.pend.length + 1) c2)).cell? ⟨ob, k, none⟩ = some v := fun k v hv => by
    have x1 := (World.cell?_of_block (a := ⟨ob, k, none⟩) (hB1.block ob hob)).trans hv
    have x2 := (World.cell?_of_block (a := ⟨ob, k, none⟩) (f3.block ob (Nat.lt_of_lt_of_le hob hB1.size) hobA)).trans x1
    exact ⟨x1, x2, by rw [World.cell?_setCell_other _ _ _ _ (by simp [hobg])]; exact x2⟩
  obtain ⟨y1, y2, y3⟩ := l2 0 _ e0
  obtain ⟨y4, y5, y6⟩ := l2 1 _ e1
  refine ⟨A2, c2, w5, w7, f1, hst, m1, fun u hu => ?_, ⟨?_, y6⟩, g1, g2⟩
  · rcases hu with rfl | rfl | rfl
    · exact ⟨h4.cells.2.1, e0, e1⟩
    · exact ⟨(h4.below hB1).cells.2.1, y1, y4⟩
    · exact ⟨(hB5.all.2.2.1 1).trans rfl, y2, y5⟩
  · rw [World.cell?_setCell_other _ _ _ _ (by simp)]
    exact (hB5.all.2.2.1 2).trans rfl
set_option maxRecDepth 100000 in
set_option maxHeartbeats 4000000 in
theorem write_on (H : DR w a S) (n : Nat) (A : Option Addr) (c : Nat) (l : List Int) (hn : n < S.cnt) (ho : S.off = false) (hb : Rw w 5 1 A 512 c (bv l)) (hA : ∀ k, blkOf A = some k → ¬ a.foot k) (hlen : S.pend.length ≤ 4398046511103) : Calls Try.prog 10 #[.pointer (some ⟨a.g, 0, none⟩), .int .i64 (n : Int), .slice A 512 c] w fun e w' => ∃ a' p, e = .returned (.int .i64 0) ∧ p.n = n ∧ p.bs = l ∧ DR w' a' (S.dec.push p) ∧ Mv w a S w' a' (S.dec.push p) := by
  have HI := Lib.hid (is_yes H n hn)
  have HD := Lib.hid (does_on H ho)
  have hd1 : S.dec.cnt = S.cnt ∧ S.dec.pend = S.pend := by unfold DS.dec; split <;> exact ⟨rfl, rfl⟩
  clear H
  go_enter Try.func10, Try.ntmps10
  go_wp2_with fail
  refine HI.out.mono ?_
  rintro e w' ⟨rfl, rfl⟩
  go_wp2_with fail
  refine HD.out.mono ?_
  rintro e w1 ⟨rfl, h1, h2⟩
  have hb1 : Rw w1 5 1 A 512 c (bv l) := hb.ch h2.ch hA
  have HC := Lib.hid (clone_ok _ _ _ _ _ hb1 (by omega))
  have H1 := Lib.hid (And.intro h1 h2)
  clear h1 h2 hb1 hb hA
  go_wp2_with fail
  refine HC.out.mono ?_
  rintro e w2 ⟨A', c', rfl, q1, q2, q3⟩
  obtain ⟨b, rfl⟩ := q1.some_ (by omega)
  have hbf := q3 b rfl
  have h3 := H1.out.1.below q2
  have hws := q2.size
  have hbb : Below w2.heap.size w2 (w2.alloc (.cells #[.int .i64 (n : Int), .slice (some ⟨b, 0, none⟩) 512 c'] 69)) := (Below.refl _ _).alloc (Nat.le_refl _) _
  have hbl := q1.blt
  have HB3 : Below w1.heap.size w1 (w2.alloc (.cells #[.int .i64 (n : Int), .slice (some ⟨b, 0, none⟩) 512 c'] 69)).drew := (q2.trans (Below.mono hbb hws)).drew
  have hfall : ¬ a.all S.dec b := fun q => by
    have := H1.out.1.foot_lt q
    omega
  obtain ⟨A2, c2, w5, w7, f1, f2, f3, f4, f5, f6, f7⟩ := push_ok (h3.below hbb).drew w1 HB3 ⟨n, b, c', l⟩ (by rw [hd1.1]; exact hn) (q1.below hbb).drew hbf hfall w2.heap.size (by simp) (fun q => by have := h3.foot_lt (.inl q); omega) (by simp [go_sem]) (by simp [go_sem]) (by rw [hd1.2]; exact hlen)
  have f7 := H1.out.2.trans f7
  have hbs := bs63 (n : Int) (.slice (some ⟨b, 0, none⟩) 512 c') rfl (w2.alloc (.cells #[.int .i64 (n : Int), .slice (some ⟨b, 0, none⟩) 512 c'] 69)).drew
  have hsz : (w2.alloc (.cells #[.int .i64 (n : Int), .slice (some ⟨b, 0, none⟩) 512 c'] 69)).drew.heap.size = w2.heap.size + 1 := by simp
  rw [hsz] at f1 hbs
  rw [hd1.2] at f1 f2 f3 f4 f5
  simp only at f1 f2 f3 f4 f5
  obtain ⟨F, hF⟩ : ∃ F : World → Prop, F = fun w' => ∃ a' p, p.n = n ∧ p.bs = l ∧ DR w' a' (S.dec.push p) ∧ Mv w a S w' a' (S.dec.push p) := ⟨_, rfl⟩
  have d6 := f6.cells.2.2.2.2.2.2.1
  have z6 := f6.cells.2.2.2.2.2.2.2.2 6
  simp only at d6 z6
  have hfin : F (w7.setCell ⟨a.g, 6, none⟩ (.int .i64 (wrap64 (a.wr + 1)))) := by
    obtain ⟨g3, g4⟩ := f6.fld 6 (.int .i64 (wrap64 (a.wr + 1))) { a with A := A2, c := c2, wr := wrap64 (a.wr + 1) } _ rfl ⟨rfl, rfl, rfl, rfl, rfl, rfl⟩ ⟨rfl, rfl, rfl⟩ f6.lft
    rw [hF]
    exact ⟨_, _, rfl, rfl, g3, f7.trans g4⟩
  have HFIN := Lib.hid hfin
  have HF := Lib.hid hF
  clear hfin hF f6 f7 h3 hbb HB3 hfall q1 q2 q3 HC HD HI H1 hsz
  go_wp2_with fail
  generalize hob : w2.heap.size = ob at *
  generalize hw3 : (w2.alloc (.cells #[.int .i64 (n : Int), .slice (some ⟨b, 0, none⟩) 512 c'] 69)) = w3 at *
  have HBS := Lib.hid hbs
  have HE1 := Lib.hid f1
  have HE2 := Lib.hid f2
  have HM1 := Lib.hid f3
  generalize hw4 : w3.drew.alloc (.cells #[.int .i64 (n : Int), .slice (some ⟨b, 0, none⟩) 512 c'] 69) = w4 at *
  generalize hw6 : w5.setCell ⟨a.g, 1, none⟩ (.slice A2 (S.pend.length + 1) c2) = w6 at *
  obtain ⟨x1, x2⟩ := f5
  have hld : ∀ s : Sub (puK w3.drew w4 w5 w6 6 7 10) [] [10], s.val.cell? ⟨a.g, 1, none⟩ = some (.slice a.A S.pend.length a.c) :=
    puK_load (X := fun u => u.cell? ⟨a.g, 1, none⟩ = some (.slice a.A S.pend.length a.c)) (f4 _ (.inl rfl)).1 (f4 _ (.inr (.inl rfl))).1 (f4 _ (.inr (.inr rfl))).1
  have hl0 : ∀ s : Sub (puK w3.drew w4 w5 w6 6 7 10) [] [10], s.val.cell? ⟨ob, 0, none⟩ = some (.int .i64 (n : Int)) :=
    puK_load (X := fun u => u.cell? ⟨ob, 0, none⟩ = some (.int .i64 (n : Int))) (f4 _ (.inl rfl)).2.1 (f4 _ (.inr (.inl rfl))).2.1 (f4 _ (.inr (.inr rfl))).2.1
  have hl1 : ∀ s : Sub (puK w3.drew w4 w5 w6 6 7 10) [] [10], s.val.cell? ⟨ob, 1, none⟩ = some (.slice (some ⟨b, 0, none⟩) 512 c') :=
    puK_load (X := fun u => u.cell? ⟨ob, 1, none⟩ = some (.slice (some ⟨b, 0, none⟩) 512 c')) (f4 _ (.inl rfl)).2.2 (f4 _ (.inr (.inl rfl))).2.2 (f4 _ (.inr (.inr rfl))).2.2
  have HX := Lib.hid (And.intro x1 x2)
  clear f1 f2 f3 f4 hbs hw4 hw6 hw3 hob x1 x2
  have i1 : Nonempty (Sub (puK w3.drew w4 w5 w6 6 7 10) [] [10]) := ⟨⟨w3.drew, fun _ => false, rfl, by simp, by simp⟩⟩
  refine wp_segs [(6, [], [10]), (7, [], [10]), (10, [], [10])] ([], []) (puK w3.drew w4 w5 w6 6 7 10) ?_ ?_ ?_ ?_ ?_ ?_ ?_ ?_ ?_
  · kernel_rfl
  · kernel_rfl
  · kernel_rfl
  · kernel_rfl
  · kernel_rfl
  · kernel_rfl
  · rfl
  · exact fun jj hj D u hK => puK_out w3.drew w4 w5 w6 6 7 10 jj (by simpa using hj) D u hK
  · simp only [Segs, List.take_succ_cons, List.take_zero, List.drop_succ_cons, List.drop_zero, Nat.sub_zero, Nat.reduceSub, Nat.reduceAdd, List.drop_nil, List.take_nil]
    repeat (go_big_quiet_step (fail))
    refine wpQuiet_nil ?_
    refine ⟨.slice (some ⟨ob + 1, 0, none⟩) 1 1, stepOK_run (by kernel_rfl) (fun D u hb hb2 hi hK => puK_1 hi (hb2 7 (by decide) (by kernel_rfl)) (hb2 10 (by decide) (by kernel_rfl)) hK (by decide) (by decide) (run_box_any (s := Instr.buildSlice 63 1 #[(0, .agg #[.int .i64 (n : Int), .slice (some ⟨b, 0, none⟩) 512 c'])]) (by kernel_rfl) HBS.out)), ?_⟩
    go_frame
    repeat (go_big_quiet_step (fail))
    refine wpQuiet_nil ?_
    refine ⟨.slice A2 (S.pend.length + 1) c2, stepOK_run (by kernel_rfl) (fun D u hb hb2 hi hK => puK_2 (hb 6 (by decide) (by kernel_rfl)) hi (hb2 10 (by decide) (by kernel_rfl)) hK (by decide) (run_box_any (s := Builtin.append_ #[63, 63] 63 #[.slice a.A S.pend.length a.c, .slice (some ⟨ob + 1, 0, none⟩) 1 1]) (by kernel_rfl) HE1.out)), ?_⟩
    go_frame
    repeat (go_big_quiet_step (fail))
    refine wpQuiet_nil ?_
    refine ⟨undef, stepOK_skip (by kernel_rfl) (fun D u hb hb2 hi hK => puK_3 (hb 7 (by decide) (by kernel_rfl)) hi hK (run_skip_any (s := Instr.storeAt 63 (.pointer (some ⟨a.g, 1, none⟩)) (.slice A2 (S.pend.length + 1) c2)) (by kernel_rfl) HE2.out)), ?_⟩
    refine wpQuiet_nil ?_
    intro u hK
    obtain rfl := puK_end (D := _) (by decide) hK

    clear hld hl0 hl1
    obtain ⟨v6, hv6⟩ : ∃ v6, v6 = u := ⟨u, rfl⟩
    subst hv6
    have hk2 : ∀ s : Sub (k1K v6.drew w7 7) [] [7], s.val.cell? ⟨a.g, 2, none⟩ = some (.map (some a.m)) := k1K_load (X := fun v => v.cell? ⟨a.g, 2, none⟩ = some (.map (some a.m))) HX.out.1
    have hk3 : ∀ s : Sub (k1K v6.drew w7 7) [] [7], s.val.cell? ⟨ob, 1, none⟩ = some (.slice (some ⟨b, 0, none⟩) 512 c') := k1K_load (X := fun v => v.cell? ⟨ob, 1, none⟩ = some (.slice (some ⟨b, 0, none⟩) 512 c')) HX.out.2
    go_wp2_with fail
    haveI i1 := k1K_ne v6.drew w7 7
    haveI i2 := k1K_ne0 v6.drew w7 7
    refine wp_segs [(7, [], [7])] ([], []) (k1K v6.drew w7 7) ?_ ?_ ?_ ?_ ?_ ?_ ?_ ?_ ?_
    · kernel_rfl
    · kernel_rfl
    · kernel_rfl
    · kernel_rfl
    · kernel_rfl
    · kernel_rfl
    · rfl
    · exact fun jj hj D u hK => k1K_out v6.drew w7 7 jj (by simpa using hj) D u hK
    · simp only [Segs, List.take_succ_cons, List.take_zero, List.drop_succ_cons, List.drop_zero, Nat.sub_zero, Nat.reduceSub, Nat.reduceAdd, List.drop_nil, List.take_nil]
      repeat (go_big_quiet_step (fail))
      refine wpQuiet_nil ?_
      refine ⟨undef, stepOK_skip (by kernel_rfl) (fun D u hb hb2 hi hK => k1K_1 hi hK (run_skip_any (s := Instr.mapUpdate 62 (.map (some a.m)) (.int .i64 (n : Int)) (.slice (some ⟨b, 0, none⟩) 512 c')) (by kernel_rfl) HM1.out)), ?_⟩
      (try go_frame)
      repeat (go_big_quiet_step (fail))
      refine wpQuiet_nil ?_
      intro u hK
      obtain rfl := k1K_end (D := _) (by decide) hK
      clear hk2 hk3
      go_wp2
      go_ret
      have := HFIN.out
      rw [HF.out] at this
      obtain ⟨a', p, r1, r2, r3, r4⟩ := this
      exact ⟨a', p, by first | rfl | simp, r1, r2, r3, r4⟩
end
end Go.Proofs.Ytajhpfmfoolcjaa
