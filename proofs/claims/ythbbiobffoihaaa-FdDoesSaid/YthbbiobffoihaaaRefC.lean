import Derived.Test.YthbbiobffoihaaaRefB
/- The reference: Open, All, On; the program's On. -/
namespace Go.Proofs.Ythbbiobffoihaaa
open Go.RowKit Go.BigFrame
set_option linter.unusedVariables false
set_option linter.unusedSimpArgs false
attribute [local go_sem] szIs_lit row_at row_past row_alloc nf_alloc row_set nf_set row_cell nf_cell row_drew nf_drew row_drewN nf_drewN cell_setRow frozen_setRow nlt1 nlt2 nlt3 nlt4 nne1 nne2 nne3 nen1 nen2 nen3
set_option maxRecDepth 20000
theorem flat_len (R : List Fl) : (R.flatMap fun f => f.cells.toList).length = R.length * 5 := by
  induction R with
  | nil => rfl
  | cons g R ih => simp only [List.flatMap_cons, List.length_append, ih, List.length_cons]; have : g.cells.toList.length = 5 := rfl; omega
theorem rcells_size (R : List Fl) : (rcells R).size = R.length * 5 := by
  have := flat_len R
  unfold rcells
  rw [List.size_toArray, this]
theorem rcells_ext (R : List Fl) {i : Nat} {f : Fl} (hi : R[i]? = some f) : (rcells R).extract (i * 5) (i * 5 + 5) = f.cells := by
  apply Array.ext_getElem?
  intro k
  have hl := (List.getElem?_eq_some_iff.1 hi).1
  rw [Array.getElem?_extract]
  by_cases hk : k < 5
  · rw [if_pos (by rw [rcells_size]; omega)]
    have := flat_get R i k f hi hk
    have e : (rcells R)[i * 5 + k]? = some (.int .i64 (f.at k)) := by simpa [rcells] using this
    rw [e]
    rcases (show k = 0 ∨ k = 1 ∨ k = 2 ∨ k = 3 ∨ k = 4 by omega) with rfl | rfl | rfl | rfl | rfl <;> rfl
  · rw [if_neg (by rw [rcells_size]; omega), Array.getElem?_eq_none (by show 5 ≤ k; omega)]
theorem rb_index {R : List Fl} (hR : R.length = 64) {i : Nat} {f : Fl} (hi : R[i]? = some f) (w : World) : (Instr.index 64 (.agg (rcells R)) (.int .i64 (i : Int))).run Try.prog w = .ok (.agg #[.int .i64 f.kd, .int .i64 f.wh, .int .i64 f.at_, .int .i64 f.fg, .int .i64 f.rf]) w := by
  have hl := (List.getElem?_eq_some_iff.1 hi).1
  rw [hR] at hl
  have hu : Try.prog.underlying 64 = some (.array 64 40) := by kernel_rfl
  have hs : ∀ w, (sizeOf 40).run Try.prog w = .ok 5 w := fun w => by kernel_rfl
  have ha : ∀ w, (isAgg 40).run Try.prog w = .ok true w := fun w => by kernel_rfl
  have he := rcells_ext R hi
  have h0 : ¬ ((i : Int) < 0) := by omega
  have h1 : ¬ ((64 : Int) ≤ (i : Int)) := by omega
  simp [go_sem, Instr.index, run_underlying hu, part, hs, ha, h0, h1, he, hl, Fl.cells]
theorem Rof_app (L : PL Fl) {i : Nat} (hi : i < 64) (b : Nat) (f : Fl) (hg : PL.get L (i : Int) = none) : Rof (L ++ [((i : Int), b, f)]) = (Rof L).set i f := by
  refine Rof_set hi ?_ (fun j _ hj => ?_)
  · unfold flAt; rw [PL.get_app L _ b f hg, if_pos rfl]
  · unfold flAt; rw [PL.get_app L _ b f hg, if_neg (by omega)]
section
variable {w w' : World} {r : Nat} {L : PL Fl}
theorem RF.ofApp (hids : ∀ x ∈ PL.ks L, 0 ≤ x ∧ x < 64) (hpos : ∀ x q, PL.get L x = some q → 1 ≤ q.2.rf ∧ q.2.rf ≤ 4611686018427387904) {i : Nat} (hi : i < 64) (b : Nat) (f : Fl) (hf : 1 ≤ f.rf ∧ f.rf ≤ 4611686018427387904) (hg : PL.get L (i : Int) = none) (hb : Blk w r (rcells ((Rof L).set i f))) : RF w r (L ++ [((i : Int), b, f)]) := by
  refine ⟨by rw [Rof_app L hi b f hg]; exact hb, fun x hx => ?_, fun x q hq => ?_⟩
  · simp only [PL.ks, List.map_append, List.map_cons, List.map_nil, List.mem_append, List.mem_singleton] at hx
    rcases hx with hx | rfl
    · exact hids x hx
    · omega
  · rw [PL.get_app L _ b f hg] at hq
    split at hq
    · injection hq with hq; subst hq; exact hf
    · exact hpos x q hq
theorem ropen_arg (h : RF w r L) (k a f : Int) (hk : k < 1 ∨ 4 < k) : Calls Try.prog 45 #[.pointer (some ⟨r, 0, none⟩), .int .i64 k, .int .i64 a, .int .i64 f] w fun e w' => e = .returned (.tuple #[.int .i64 0, .int .i64 1]) ∧ w = w' := by
  clear h
  by_cases h1 : k < 1
  · have h2 : decide (k < 1) = true := by simpa using h1
    clear hk h1
    go_enter Try.func45, Try.ntmps45
    go_wp2
    go_ret2
    exact ⟨by first | rfl | simp, rfl⟩
  · have h2 : decide (k < 1) = false := by simpa using h1
    have h3 : decide (k > 4) = true := by simp; omega
    clear hk h1
    go_enter Try.func45, Try.ntmps45
    go_wp2
    go_ret2
    exact ⟨by first | rfl | simp, rfl⟩
set_option maxHeartbeats 2000000 in
theorem ropen_any (h : RF w r L) (k a f : Int) (hk : 1 ≤ k) (hk4 : k ≤ 4) (q : Nat) (hq : q ≤ 64) (hfree : q < 64 → PL.get L (q : Int) = none) (hmin : ∀ j : Nat, j < q → PL.get L (j : Int) ≠ none) (b : Nat) :
    Calls Try.prog 45 #[.pointer (some ⟨r, 0, none⟩), .int .i64 k, .int .i64 a, .int .i64 f] w fun e w' => (q = 64 ∧ e = .returned (.tuple #[.int .i64 0, .int .i64 2]) ∧ Below w.heap.size w w') ∨ (q < 64 ∧ e = .returned (.tuple #[.int .i64 (q : Int), .int .i64 0]) ∧ RF w' r (L ++ [((q : Int), b, ⟨k, a, 0, f, 1⟩)]) ∧ Ch (· = r) w w') := by
  have hld : (Instr.loadAt 64 (.pointer (some ⟨r, 0, none⟩))).run Try.prog w = .ok (.agg (rcells (Rof L))) w := h.blk.load (ty := 64) (d := (Try.prog.underlying 64).getD default) (by kernel_rfl) (by kernel_rfl) (by rw [rcells_size, Rof_len]; kernel_rfl)
  have h1 : decide (k < 1) = false := by simp; omega
  have h2 : decide (k > 4) = false := by simp; omega
  have HH := Lib.hid h
  have HQ := Lib.hid (And.intro hfree hmin)
  have hidx : ∀ (i : Nat) (fl : Fl), (Rof L)[i]? = some fl → ∀ w, (Instr.index 64 (.agg (rcells (Rof L))) (.int .i64 (i : Int))).run Try.prog w = .ok (.agg #[.int .i64 fl.kd, .int .i64 fl.wh, .int .i64 fl.at_, .int .i64 fl.fg, .int .i64 fl.rf]) w := fun i fl hi w => rb_index (Rof_len L) hi w
  have HIX := Lib.hid hidx
  clear h hfree hmin hidx hk hk4
  generalize hC : rcells (Rof L) = C at *
  have HC := Lib.hid hC
  clear hC
  go_enter Try.func45, Try.ntmps45
  go_wp2_with (first | (refine wpList_load_run rfl 64 (.tmp 20) rfl (.pointer (some ⟨r, 0, none⟩)) rfl hld ?_) | fail)
  clear hld h1 h2
  go_loopg [22] 64 (fun n i_ wr => ∃ i : Nat, i_ = .int .i64 (i : Int) ∧ n = 64 - i ∧ i ≤ q ∧ Below w.heap.size w wr)
  case atStart => exact ⟨0, rfl, rfl, by omega, Below.refl _ _⟩
  case round =>
    obtain ⟨i, rfl, hn, hiq, hB⟩ := hrel
    have HN := Lib.hid hn
    have HB := Lib.hid hB
    clear hn hB
    by_cases hi : i < 64
    · obtain ⟨fl, hfl⟩ : ∃ fl, fl = flAt L i := ⟨_, rfl⟩
      have hix := HIX.out i fl (by rw [Rof_get L hi, hfl])
      have HFL := Lib.hid hfl
      clear hfl
      obtain ⟨kd, wh, at_, fg, rf⟩ := fl
      simp only at hix
      have hk8 : Blk (wr.alloc (.cells #[.int .i64 0, .int .i64 0, .int .i64 0, .int .i64 0, .int .i64 0] 40)) wr.heap.size #[.int .i64 0, .int .i64 0, .int .i64 0, .int .i64 0, .int .i64 0] := Blk.of_heap (heap_at rfl)
      have hb8 : Below wr.heap.size wr (wr.alloc (.cells #[.int .i64 0, .int .i64 0, .int .i64 0, .int .i64 0, .int .i64 0] 40)) := (Below.refl _ _).alloc (Nat.le_refl _) _
      obtain ⟨w6, s1, s2, s3, s4⟩ := store5 (wr.alloc (.cells #[.int .i64 0, .int .i64 0, .int .i64 0, .int .i64 0, .int .i64 0] 40)) wr.heap.size 0 0 0 0 0 kd wh at_ fg rf hk8
      have hb9 : Below wr.heap.size wr w6 := hb8.trans (s3.below (B := wr.heap.size) (fun k hk q => by omega) hb8.size)
      have hc4 : w6.cell? ⟨wr.heap.size, 4, none⟩ = some (.int .i64 rf) := (s2.all.2.2.1 4).trans rfl
      have HB6 := Lib.hid (HB.out.trans (hb9.mono HB.out.size))
      clear hk8 hb8 hb9 s2 s3 s4
      generalize hu8 : wr.alloc (.cells #[.int .i64 0, .int .i64 0, .int .i64 0, .int .i64 0, .int .i64 0] 40) = w8 at *
      by_cases hr : rf = 0
      · subst hr
        have hqi : q = i := by
          rcases Nat.lt_or_ge i q with h4 | h4
          · have h5 := HQ.out.2 i h4
            cases hg : PL.get L (i : Int) with
            | none => exact absurd hg h5
            | some z =>
              have h6 := (HH.out.pos _ _ hg).1
              have h7 := HFL.out
              rw [flAt_some (b := z.1) (f := z.2) hg] at h7
              rw [← h7] at h6
              simp at h6
          · omega
        subst hqi
        have hgn := HQ.out.1 hi
        have hR6 : RF w6 r L := HH.out.below HB6.out
        obtain ⟨w7, t1, t2, t3, t4⟩ := rb_store hR6.blk (Rof_get L hi) k a 0 f 1
        have HE := Lib.hid (And.intro (RF.ofApp HH.out.ids HH.out.pos hi b ⟨k, a, 0, f, 1⟩ (by simp) hgn t2) ((Ch.of_below HB6.out).trans t3 (fun k _ q => q)))
        have hi' : (q : Int) < 64 := by omega
        clear hgn hR6 t2 t3 t4 hiq hq
        go_wp2_with (first | (rw [hu8]) | (refine wpList_store_run rfl 40 (.tmp 11) (.tmp 25) rfl (.pointer (some ⟨wr.heap.size, 0, none⟩)) (.agg #[.int .i64 kd, .int .i64 wh, .int .i64 at_, .int .i64 fg, .int .i64 0]) rfl rfl s1 ?_) | (refine wpList_store_run rfl 40 (.tmp 37) (.tmp 34) rfl (.pointer (some ⟨r, q * 5, none⟩)) (.agg #[.int .i64 k, .int .i64 a, .int .i64 0, .int .i64 f, .int .i64 1]) rfl rfl t1 ?_) | fail)
        go_ret2
        exact Or.inr ⟨hi, by first | rfl | simp, HE.out⟩
      · have hr2 : (rf == 0) = false := by simpa using hr
        have hlt : i < q := by
          rcases Nat.lt_or_ge i q with h4 | h4
          · exact h4
          · exfalso
            obtain rfl : i = q := by omega
            have h7 := HFL.out
            rw [flAt_none (HQ.out.1 hi)] at h7
            injection h7 with _ _ _ _ h8
            exact hr h8
        have hw : IntKind.i64.wrap ((i : Int) + 1) = (i : Int) + 1 := IntWalk.i64_in _ (by omega)
        have hi' : (i : Int) < 64 := by omega
        go_wp2_with (first | (rw [hu8]) | (refine wpList_store_run rfl 40 (.tmp 11) (.tmp 25) rfl (.pointer (some ⟨wr.heap.size, 0, none⟩)) (.agg #[.int .i64 kd, .int .i64 wh, .int .i64 at_, .int .i64 fg, .int .i64 rf]) rfl rfl s1 ?_) | fail)
        go_roundg (64 - (i + 1))
        case measure => have := HN.out; omega
        case rel => exact ⟨i + 1, by first | rfl | go_num, rfl, by omega, HB6.out⟩
    · obtain rfl : i = 64 := by omega
      obtain rfl : q = 64 := by omega
      go_wp2_with fail
      go_ret2
      first
        | exact Or.inl ⟨rfl, by first | rfl | simp, HB.out⟩
        | exact ⟨by first | rfl | simp, HB.out⟩
/-! All -/
def upl (L : PL Fl) (j : Nat) : List Int := ((List.range j).filter fun i : Nat => (PL.get L (i : Int)).isSome).map fun i : Nat => (i : Int)
theorem upl_succ (L : PL Fl) (j : Nat) : upl L (j + 1) = if (PL.get L (j : Int)).isSome then upl L j ++ [(j : Int)] else upl L j := by
  unfold upl
  rw [List.range_succ, List.filter_append, List.map_append]
  by_cases h : (PL.get L (j : Int)).isSome
  · rw [if_pos h]; simp [h]
  · rw [if_neg h]; simp [h]
theorem upl_len (L : PL Fl) (j : Nat) : (upl L j).length ≤ j := by
  induction j with
  | zero => simp [upl]
  | succ j ih =>
    rw [upl_succ]
    split
    · simp; omega
    · omega
theorem mem_upl {L : PL Fl} {j : Nat} {x : Int} : x ∈ upl L j ↔ ∃ i : Nat, i < j ∧ x = (i : Int) ∧ (PL.get L (i : Int)).isSome = true := by
  unfold upl
  simp only [List.mem_map, List.mem_filter, List.mem_range]
  constructor
  · rintro ⟨i, ⟨h1, h2⟩, rfl⟩; exact ⟨i, h1, rfl, h2⟩
  · rintro ⟨i, h1, rfl, h2⟩; exact ⟨i, ⟨h1, h2⟩, rfl⟩
theorem upl_rising (L : PL Fl) (j : Nat) : (upl L j).Pairwise (fun a b => a < b) := by
  unfold upl
  rw [List.pairwise_map]
  refine ((List.pairwise_lt_range (n := j)).filter _).imp fun h => ?_
  omega
theorem upl_sk {L : PL Fl} (hn : (PL.ks L).Nodup) (hi : ∀ x ∈ PL.ks L, 0 ≤ x ∧ x < 64) : upl L 64 = PL.sk L := by
  refine rising_ext (upl_rising L 64) (PL.sk_rising hn) (fun x => ?_)
  rw [PL.mem_sk, mem_upl]
  constructor
  · rintro ⟨i, h1, rfl, h2⟩
    refine Classical.byContradiction fun hq => ?_
    rw [PL.get_none.2 hq] at h2; cases h2
  · intro hx
    have := hi x hx
    refine ⟨x.toNat, by omega, by omega, ?_⟩
    have e : ((x.toNat : Nat) : Int) = x := by omega
    rw [e]
    cases hg : PL.get L x with
    | some q => rfl
    | none => exact absurd hx (PL.get_none.1 hg)
set_option maxHeartbeats 2000000 in
theorem rall_ok (h : RF w r L) : Calls Try.prog 37 #[.pointer (some ⟨r, 0, none⟩)] w fun e w' => ∃ A c, e = .returned (.slice A (upl L 64).length c) ∧ Rw w' 3 1 A (upl L 64).length c (iv (upl L 64)) ∧ Below w.heap.size w w' ∧ ∀ k, blkOf A = some k → w.heap.size ≤ k := by
  have HH := Lib.hid h
  clear h
  go_enter Try.func37, Try.ntmps37
  go_wp2_with fail
  go_loopg [3, 5] 64 (fun m o_ p_ wr => ∃ (j c : Nat) (A : Option Addr), o_ = .slice A (upl L j).length c ∧ p_ = .int .i64 (j : Int) ∧ m = 64 - j ∧ j ≤ 64 ∧ Rw wr 3 1 A (upl L j).length c (iv (upl L j)) ∧ Below w.heap.size w wr ∧ ∀ b, blkOf A = some b → w.heap.size ≤ b)
  case atStart => exact ⟨0, 0, none, rfl, rfl, rfl, by omega, Rw.nil _ _ _, Below.refl _ _, by simp [blkOf]⟩
  case round =>
    obtain ⟨j, c, A, rfl, rfl, hm, hj, hr, hb, hf⟩ := hrel
    have HM2 := Lib.hid hm
    have HR := Lib.hid hr
    have HB := Lib.hid hb
    have HF := Lib.hid hf
    clear hm hr hb hf
    by_cases hlt : j < 64
    · have hR : RF wr r L := HH.out.below HB.out
      have hw : IntKind.i64.wrap ((j : Int) + 1) = (j : Int) + 1 := IntWalk.i64_in _ (by omega)
      cases hg : PL.get L (j : Int) with
      | none =>
        have HI := Lib.hid (is_no hR hg)
        have HG := Lib.hid hg
        clear hR hg
        go_wp2_with fail
        refine HI.out.mono ?_
        rintro e w' ⟨rfl, rfl⟩
        go_wp2_with fail
        go_roundg (64 - (j + 1))
        case measure => have := HM2.out; omega
        case rel => exact ⟨j + 1, c, A, by rw [upl_succ, HG.out]; rfl, by first | rfl | go_num, rfl, by omega, by rw [upl_succ, HG.out]; exact HR.out, HB.out, HF.out⟩
      | some q =>
        have HI := Lib.hid (is_yes hR (b := q.1) (f := q.2) hlt hg)
        have HG := Lib.hid hg
        have hle := upl_len L j
        have hbb : Below wr.heap.size wr (wr.alloc (.cells #[.int .i64 (j : Int)] 3)) := (Below.refl _ _).alloc (Nat.le_refl _) _
        obtain ⟨A2, c2, w2, e1, e2, e3, e4⟩ := rw_append (P := Try.prog) intT 56 (HR.out.below hbb) (some ⟨wr.heap.size, 0, none⟩) 1 1 [.int .i64 (j : Int)] rfl (Rd.of_cells (fun j u hu => by
          cases j with
          | zero => simp at hu; subst hu; simp [go_sem]
          | succ j => simp at hu) (by simp [Value.oneCell'])) (by intro e; cases e) (by unfold maxLen; omega) (by omega)
        have hbs := bs56 (j : Int)
        have HE1 := Lib.hid e1
        have HE := Lib.hid (And.intro e2 (And.intro hbb (And.intro e3 e4)))
        clear e1 e2 e3 e4 hbb hle hR hg
        go_wp2_with fail
        refine HI.out.mono ?_
        rintro e w' ⟨rfl, rfl⟩
        go_wp2_with (at_builtin; go_must (refine wpList_run rfl (s := Builtin.append_ #[56, 56] 56 #[.slice A (upl L j).length c, .slice (some ⟨wr.heap.size, 0, none⟩) 1 1]) (by kernel_rfl) HE1.out ?_))
        go_roundg (64 - (j + 1))
        case measure => have := HM2.out; omega
        case rel =>
          obtain ⟨x2, x1, x3, x4⟩ := HE.out
          have hsz := HB.out.size
          have hs : upl L (j + 1) = upl L j ++ [(j : Int)] := by rw [upl_succ, HG.out]; rfl
          refine ⟨j + 1, c2, A2, by rw [hs]; simp, by first | rfl | go_num, rfl, by omega, by rw [hs]; simpa [iv] using x2, HB.out.trans ((Below.mono x1 hsz).trans (x3.below (fun b hk q => ?_) (by have := x1.size; omega))), fun b q => ?_⟩
          · have := HF.out b q; omega
          · rcases x4 with e | e
            · exact HF.out b (e ▸ q)
            · rw [e] at q; injection q with q; simp at q; omega
    · obtain rfl : j = 64 := by omega
      go_wp2_with fail
      go_ret
      exact ⟨A, c, by first | rfl | simp, HR.out, HB.out, HF.out⟩
/-! On -/
def hit (L : PL Fl) (k a : Int) (x : Int) : Bool := match PL.get L x with | some q => q.2.kd == k && q.2.wh == a | none => false
theorem hit_some {L : PL Fl} {x : Int} {b : Nat} {f : Fl} (hg : PL.get L x = some (b, f)) (k a : Int) : hit L k a x = (f.kd == k && f.wh == a) := by unfold hit; rw [hg]
theorem cnt_take {l : List Int} {j : Nat} {x : Int} (hx : l[j]? = some x) (p : Int → Bool) : (l.take (j + 1)).countP p = (l.take j).countP p + if p x then 1 else 0 := by
  rw [List.take_add_one, hx, List.countP_append]
  simp [List.countP_cons]
set_option maxHeartbeats 4000000 in
theorem ron_ok (h : RF w r L) (k a : Int) : Calls Try.prog 38 #[.pointer (some ⟨r, 0, none⟩), .int .i64 k, .int .i64 a] w fun e w' => e = .returned (.int .i64 (((upl L 64).countP (hit L k a) : Nat) : Int)) ∧ Below w.heap.size w w' := by
  have HA := Lib.hid (rall_ok h)
  have HH := Lib.hid h
  have hl0 : (upl L 64).length ≤ 64 := upl_len L 64
  clear h
  obtain ⟨l, hl⟩ : ∃ l, l = upl L 64 := ⟨_, rfl⟩
  go_enter Try.func38, Try.ntmps38
  go_wp2_with fail
  refine HA.out.mono ?_
  rintro e w1 ⟨A, c, rfl, hr, hb, _⟩
  rw [← hl] at hr ⊢
  rw [← hl] at hl0
  have HR := Lib.hid (And.intro hr hb)
  have HLL := Lib.hid hl
  clear hr hb hl
  obtain ⟨n, hn⟩ : ∃ n, n = l.length := ⟨_, rfl⟩
  rw [← hn] at hl0 ⊢
  have HN := Lib.hid hn
  clear hn
  go_wp2_with fail
  go_loopg [7, 13] n (fun m o_ p_ wr => ∃ (j : Nat), o_ = .int .i64 (((l.take j).countP (hit L k a) : Nat) : Int) ∧ p_ = .int .i64 (j : Int) ∧ m = n - j ∧ j ≤ n ∧ wr = w1)
  case atStart => exact ⟨0, by simp, rfl, rfl, by omega, rfl⟩
  case round =>
    obtain ⟨j, rfl, rfl, hm, hj, rfl⟩ := hrel
    have HM := Lib.hid hm
    clear hm
    by_cases hlt : j < n
    · obtain ⟨x, hx⟩ : ∃ x, l[j]? = some x := ⟨_, List.getElem?_eq_getElem (by rw [← HN.out]; exact hlt)⟩
      have hrr := HR.out.1
      rw [← HN.out] at hrr
      obtain ⟨ba, rfl⟩ := hrr.some_ (by omega)
      have e1 : wr.cell? ⟨ba, j, none⟩ = some (.int .i64 x) := (hrr.cell j (by omega)).trans (iv_get hx)
      have hxs := cnt_take hx (hit L k a)
      obtain ⟨i, rfl, hi⟩ : ∃ i : Nat, x = (i : Int) ∧ i < 64 := by
        have hm := List.mem_of_getElem? hx
        rw [HLL.out, mem_upl] at hm
        obtain ⟨i, h1, h2, _⟩ := hm
        exact ⟨i, h2, h1⟩
      obtain ⟨⟨b, kd, wh, at_, fg, rf⟩, hg⟩ : ∃ q, PL.get L (i : Int) = some q := by
        have hm := List.mem_of_getElem? hx
        rw [HLL.out, mem_upl] at hm
        obtain ⟨i2, h1, h2, h3⟩ := hm
        rw [← h2] at h3
        cases hq : PL.get L (i : Int) with
        | none => rw [hq] at h3; cases h3
        | some q => exact ⟨q, rfl⟩
      have hR : RF wr r L := HH.out.below HR.out.2
      have d0 := hR.cell (k := 0) hi (by omega)
      have d1 := hR.cell (k := 1) hi (by omega)
      rw [flAt_some hg] at d0 d1
      simp only [Fl.at, Nat.add_zero] at d0 d1
      clear hR
      have hcl : (l.take j).countP (hit L k a) ≤ 64 := by
        have := List.countP_le_length (p := hit L k a) (l := l.take j)
        simp at this; omega
      rw [hit_some hg] at hxs
      have HXS := Lib.hid hxs
      generalize hcq : (l.take j).countP (hit L k a) = cq at *
      have hw : IntKind.i64.wrap ((j : Int) + 1) = (j : Int) + 1 := IntWalk.i64_in _ (by omega)
      have hw2 : IntKind.i64.wrap ((cq : Int) + 1) = (cq : Int) + 1 := IntWalk.i64_in _ (by omega)
      clear hrr hxs hx hcl hcq hg
      by_cases hk : kd = k
      · subst hk
        by_cases ha : wh = a
        · subst ha
          go_wp2_with fail
          go_roundg (n - (j + 1))
          case measure => have := HM.out; omega
          case rel => exact ⟨j + 1, by rw [HXS.out]; simp, by first | rfl | go_num, rfl, by omega, rfl⟩
        · have ha2 : (wh == a) = false := by simpa using ha
          have HXS2 := Lib.hid (show (l.take (j + 1)).countP (hit L kd a) = cq by rw [HXS.out, ha2]; simp)
          clear ha
          go_wp2_with fail
          go_roundg (n - (j + 1))
          case measure => have := HM.out; omega
          case rel => exact ⟨j + 1, by rw [HXS2.out], by first | rfl | go_num, rfl, by omega, rfl⟩
      · have hk2 : (kd == k) = false := by simpa using hk
        have HXS2 := Lib.hid (show (l.take (j + 1)).countP (hit L k a) = cq by rw [HXS.out, hk2]; simp)
        clear hk
        go_wp2_with fail
        go_roundg (n - (j + 1))
        case measure => have := HM.out; omega
        case rel => exact ⟨j + 1, by rw [HXS2.out], by first | rfl | go_num, rfl, by omega, rfl⟩
    · obtain rfl : j = n := by omega
      have e : l.take j = l := by rw [HN.out]; exact List.take_length
      rw [e]
      have HE := Lib.hid HLL.out
      go_wp2_with fail
      go_ret
      exact ⟨by rw [← HLL.out]; first | rfl | simp, HR.out.2⟩
set_option maxHeartbeats 4000000 in
theorem on_ok {g m : Nat} (h : FR w g m L) (k a : Int) : Calls Try.prog 22 #[.pointer (some ⟨g, 0, none⟩), .int .i64 k, .int .i64 a] w fun e w' => e = .returned (.int .i64 (((PL.sk L).countP (hit L k a) : Nat) : Int)) ∧ Below w.heap.size w w' := by
  have HA := Lib.hid (all_ok h)
  have HH := Lib.hid h
  have hl0 : (PL.sk L).length ≤ 64 := by rw [PL.sk_len]; exact h.len
  clear h
  obtain ⟨l, hl⟩ : ∃ l, l = PL.sk L := ⟨_, rfl⟩
  go_enter Try.func22, Try.ntmps22
  go_wp2_with fail
  refine HA.out.mono ?_
  rintro e w1 ⟨A, c, rfl, hr, hb, _⟩
  rw [← PL.sk_len L] at hr ⊢
  rw [← hl] at hr ⊢
  rw [← hl] at hl0
  have HR := Lib.hid (And.intro hr hb)
  have HLL := Lib.hid hl
  clear hr hb hl
  obtain ⟨n, hn⟩ : ∃ n, n = l.length := ⟨_, rfl⟩
  rw [← hn] at hl0 ⊢
  have HN := Lib.hid hn
  clear hn
  go_wp2_with fail
  go_loopg [7, 14] n (fun m o_ p_ wr => ∃ (j : Nat), o_ = .int .i64 (((l.take j).countP (hit L k a) : Nat) : Int) ∧ p_ = .int .i64 (j : Int) ∧ m = n - j ∧ j ≤ n ∧ wr = w1)
  case atStart => exact ⟨0, by simp, rfl, rfl, by omega, rfl⟩
  case round =>
    obtain ⟨j, rfl, rfl, hm, hj, rfl⟩ := hrel
    have HM := Lib.hid hm
    clear hm
    by_cases hlt : j < n
    · obtain ⟨x, hx⟩ : ∃ x, l[j]? = some x := ⟨_, List.getElem?_eq_getElem (by rw [← HN.out]; exact hlt)⟩
      have hrr := HR.out.1
      rw [← HN.out] at hrr
      obtain ⟨ba, rfl⟩ := hrr.some_ (by omega)
      have e1 : wr.cell? ⟨ba, j, none⟩ = some (.int .i64 x) := (hrr.cell j (by omega)).trans (iv_get hx)
      have hxs := cnt_take hx (hit L k a)
      obtain ⟨⟨b, kd, wh, at_, fg, rf⟩, hg⟩ : ∃ q, PL.get L x = some q := by
        have hm := List.mem_of_getElem? hx
        rw [HLL.out, PL.mem_sk] at hm
        cases hq : PL.get L x with
        | none => exact absurd hm (PL.get_none.1 hq)
        | some q => exact ⟨q, rfl⟩
      have hF : FR wr g m L := HH.out.below HR.out.2
      have c0 := hF.c0
      have hlk := hF.look_yes hg
      obtain ⟨d0, d1, -, -, -, -, -, -⟩ := hF.cells hg
      simp only at d0 d1
      clear hF
      have hcl : (l.take j).countP (hit L k a) ≤ 64 := by
        have := List.countP_le_length (p := hit L k a) (l := l.take j)
        simp at this; omega
      rw [hit_some hg] at hxs
      have HXS := Lib.hid hxs
      generalize hcq : (l.take j).countP (hit L k a) = cq at *
      have hw : IntKind.i64.wrap ((j : Int) + 1) = (j : Int) + 1 := IntWalk.i64_in _ (by omega)
      have hw2 : IntKind.i64.wrap ((cq : Int) + 1) = (cq : Int) + 1 := IntWalk.i64_in _ (by omega)
      clear hrr hxs hx hcl hcq hg
      by_cases hk : kd = k
      · subst hk
        by_cases ha : wh = a
        · subst ha
          go_wp2_with fail
          go_roundg (n - (j + 1))
          case measure => have := HM.out; omega
          case rel => exact ⟨j + 1, by rw [HXS.out]; simp, by first | rfl | go_num, rfl, by omega, rfl⟩
        · have ha2 : (wh == a) = false := by simpa using ha
          have HXS2 := Lib.hid (show (l.take (j + 1)).countP (hit L kd a) = cq by rw [HXS.out, ha2]; simp)
          clear ha
          go_wp2_with fail
          go_roundg (n - (j + 1))
          case measure => have := HM.out; omega
          case rel => exact ⟨j + 1, by rw [HXS2.out], by first | rfl | go_num, rfl, by omega, rfl⟩
      · have hk2 : (kd == k) = false := by simpa using hk
        have HXS2 := Lib.hid (show (l.take (j + 1)).countP (hit L k a) = cq by rw [HXS.out, hk2]; simp)
        clear hk
        go_wp2_with fail
        go_roundg (n - (j + 1))
        case measure => have := HM.out; omega
        case rel => exact ⟨j + 1, by rw [HXS2.out], by first | rfl | go_num, rfl, by omega, rfl⟩
    · obtain rfl : j = n := by omega
      have e : l.take j = l := by rw [HN.out]; exact List.take_length
      rw [e]
      have HE := Lib.hid HLL.out
      go_wp2_with fail
      go_ret
      exact ⟨by rw [← HLL.out]; first | rfl | simp, HR.out.2⟩
end
end Go.Proofs.Ythbbiobffoihaaa
