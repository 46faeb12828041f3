import Derived.Test.YtphikmdgdbdaiaaRows2
import Derived.Deep.LoopGhost
import Derived.Deep.Cut
import Derived.Deep.CutRange
import Derived.Deep.DeepMust
import Derived.Outline
/- IndexFunc, DeleteFunc with the closure that asks for a thread. -/
namespace Go.Proofs.Ytphikmdgdbdaiaa
open Go.RowKit Go.BigFrame
set_option linter.unusedVariables false
set_option linter.unusedSimpArgs false
attribute [local go_sem] szIs_lit row_at row_past row_alloc nf_alloc row_set nf_set row_cell nf_cell row_drew nf_drew row_drewN nf_drewN cell_setRow frozen_setRow nlt1 nlt2 nlt3 nlt4 nne1 nne2 nne3 nen1 nen2 nen3
theorem clos_ok (x t : Int) (p : Addr) (w : World) (hp : w.cell? p = some (.int .i64 t)) : Calls Try.prog 30 #[.int .i64 x, .pointer (some p)] w fun e w' => e = .returned (.bool (decide (x = t))) ∧ w = w' := by
  go_enter Try.func30, Try.ntmps30
  go_wp2
  go_ret
  exact ⟨by first | rfl | simp, rfl⟩
/-- The first place of t; -1: it is not there. -/
def IsIdx (l : List Int) (t r : Int) : Prop := (r = -1 ∧ t ∉ l) ∨ ∃ j : Nat, r = j ∧ l[j]? = some t ∧ t ∉ l.take j
theorem notin_take {l : List Int} {t x : Int} {j : Nat} (h : t ∉ l.take j) (hx : l[j]? = some x) (hne : ¬ x = t) : t ∉ l.take (j + 1) := by
  rw [List.take_add_one, hx]
  simp only [Option.toList_some, List.mem_append, List.mem_singleton, not_or]
  exact ⟨h, fun e => hne e.symm⟩
set_option maxHeartbeats 1000000 in
theorem idx_ok (w : World) (A : Option Addr) (c : Nat) (l : List Int) (h : Rw w 3 1 A l.length c (iv l)) (hl : l.length ≤ 1000) (t : Int) (p : Addr) (hp : w.cell? p = some (.int .i64 t)) : Calls Try.prog 41 #[.slice A l.length c, .func (.func 30) #[] #[.pointer (some p)]] w fun e w' => ∃ r, e = .returned (.int .i64 r) ∧ IsIdx l t r ∧ w = w' := by
  have HH := Lib.hid h
  have HP := Lib.hid hp
  clear h
  go_enter Try.func41, Try.ntmps41
  go_wp2_with fail
  go_loopg [8] l.length (fun k i wr => ∃ (j : Nat), i = .int .i64 (j : Int) ∧ k = l.length - j ∧ j ≤ l.length ∧ t ∉ l.take j ∧ wr = w)
  case atStart => exact ⟨0, rfl, rfl, by omega, by simp, rfl⟩
  case round =>
    obtain ⟨j, rfl, hk, hj, hn, hw⟩ := hrel
    obtain rfl : w = wr := hw.symm
    have HK := Lib.hid hk
    have HN := Lib.hid hn
    clear hk hn hw
    by_cases hlt : j < l.length
    · obtain ⟨x, hx⟩ : ∃ x, l[j]? = some x := ⟨_, List.getElem?_eq_getElem hlt⟩
      obtain ⟨b, rfl⟩ := HH.out.some_ (by omega)
      have hc : w.cell? ⟨b, j, none⟩ = some (.int .i64 x) := by rw [HH.out.cell j (by omega)]; simp [iv, hx]
      have HX := Lib.hid hx
      clear hx
      go_wp2_with fail
      refine (clos_ok x t p w HP.out).mono ?_
      rintro e w5 ⟨rfl, rfl⟩
      by_cases he : x = t
      · have hd : decide (x = t) = true := decide_eq_true he
        have HE := Lib.hid he
        clear he
        rw [hd]
        go_wp2
        go_ret
        exact ⟨j, by first | rfl | simp, .inr ⟨j, rfl, by rw [HX.out, HE.out], HN.out⟩, rfl⟩
      · have hd : decide (x = t) = false := decide_eq_false he
        have HE := Lib.hid he
        clear he
        rw [hd]
        go_wp2_with fail
        go_roundg (l.length - (j + 1))
        case measure => have := HK.out; omega
        case rel => exact ⟨j + 1, by go_num, rfl, by omega, notin_take HN.out HX.out HE.out, rfl⟩
    · obtain rfl : j = l.length := by omega
      go_wp2
      go_ret
      exact ⟨-1, by first | rfl | simp, .inl ⟨rfl, by have := HN.out; rwa [List.take_length] at this⟩, rfl⟩
theorem cell_lt' {w : World} {a : Addr} {v : Value} (h : w.cell? a = some v) : a.block < w.heap.size := by
  rcases Nat.lt_or_ge a.block w.heap.size with h1 | h1
  · exact h1
  · unfold World.cell? at h; rw [Array.getElem?_eq_none h1] at h; cases h
def fl (t : Int) (l : List Int) : List Int := l.filter fun x => !(x == t)
theorem fl_none {t : Int} {l : List Int} (h : t ∉ l) : fl t l = l := List.filter_eq_self.2 fun x hx => by
  have : x ≠ t := fun e => h (e ▸ hx)
  simpa using this
theorem fl_app (t : Int) (l m : List Int) : fl t (l ++ m) = fl t l ++ fl t m := List.filter_append ..
theorem fl_len (t : Int) (l : List Int) : (fl t l).length ≤ l.length := List.length_filter_le _ _
theorem fl_snoc (t : Int) {l : List Int} {j : Nat} {x : Int} (hx : l[j]? = some x) : fl t (l.take (j + 1)) = fl t (l.take j) ++ if x = t then [] else [x] := by
  rw [List.take_add_one, hx, fl_app]
  congr 1
  by_cases h : x = t <;> simp [fl, h]
/-- Some rounds of DeleteFunc: the first i are what stays of the first j, those from j on are as they were. -/
structure DelAt (w : World) (b c : Nat) (l : List Int) (t : Int) (i j : Nat) (cur : List Int) : Prop where
  row : Rw w 3 1 (some ⟨b, 0, none⟩) l.length c (iv cur)
  len : cur.length = l.length
  pre : cur.take i = fl t (l.take j)
  post : cur.drop j = l.drop j
  ij : i ≤ j
  jl : j ≤ l.length
  il : (fl t (l.take j)).length = i
theorem DelAt.get {w : World} {b c : Nat} {l : List Int} {t : Int} {i j : Nat} {cur : List Int} (h : DelAt w b c l t i j cur) : cur[j]? = l[j]? := by
  have := congrArg (·[0]?) h.post
  simpa [List.getElem?_drop] using this
theorem DelAt.skip {w : World} {b c : Nat} {l : List Int} {t : Int} {i j : Nat} {cur : List Int} (h : DelAt w b c l t i j cur) (hx : l[j]? = some t) : DelAt w b c l t i (j + 1) cur := by
  have hj := (List.getElem?_eq_some_iff.1 hx).1
  have hs := fl_snoc t hx
  rw [if_pos rfl, List.append_nil] at hs
  refine ⟨h.row, h.len, by rw [hs]; exact h.pre, ?_, by have := h.ij; omega, hj, by rw [hs]; exact h.il⟩
  have := congrArg (List.drop 1) h.post
  simpa [List.drop_drop, Nat.add_comm] using this
theorem DelAt.put {w : World} {b c : Nat} {l : List Int} {t : Int} {i j : Nat} {cur : List Int} (h : DelAt w b c l t i j cur) {x : Int} (hx : l[j]? = some x) (hne : ¬ x = t) : DelAt (w.setCell ⟨b, i, none⟩ (.int .i64 x)) b c l t (i + 1) (j + 1) (cur.set i x) := by
  have hj := (List.getElem?_eq_some_iff.1 hx).1
  have hs := fl_snoc t hx
  rw [if_neg hne] at hs
  have hij := h.ij
  have hlen := h.len
  refine ⟨?_, by simpa using h.len, ?_, ?_, by omega, hj, by rw [hs]; simp [h.il]⟩
  · have := h.row.put i (.int .i64 x)
    have e : (iv cur).set i (.int .i64 x) = iv (cur.set i x) := by simp [iv, List.map_set]
    rwa [e] at this
  · rw [hs, ← h.pre, List.take_add_one]
    congr 1
    · rw [List.take_set, List.set_eq_of_length_le (by simp; omega)]
    · simp [List.getElem?_set, show i < cur.length by omega]
  · rw [List.drop_set_of_lt (by omega)]
    have := congrArg (List.drop 1) h.post
    simpa [List.drop_drop, Nat.add_comm] using this
set_option maxRecDepth 100000 in
set_option maxHeartbeats 4000000 in
theorem delf_ok (w : World) (A : Option Addr) (c : Nat) (l : List Int) (h : Rw w 3 1 A l.length c (iv l)) (hl : l.length ≤ 1000) (t : Int) (p : Addr) (hp : w.cell? p = some (.int .i64 t)) (hpA : blkOf A ≠ some p.block) : Calls Try.prog 29 #[.slice A l.length c, .func (.func 30) #[] #[.pointer (some p)]] w fun e w' => e = .returned (.slice A (fl t l).length c) ∧ Rw w' 3 1 A (fl t l).length c (iv (fl t l)) ∧ Ch (fun k => blkOf A = some k) w w' := by
  have HI := Lib.hid (idx_ok w A c l h hl t p hp)
  have HH := Lib.hid h
  have HP := Lib.hid hp
  have hm2 : l.length ≤ c ∧ c ≤ 9223372036854775807 := by have := h.le; unfold maxLen at this; omega
  clear h hp
  go_enter Try.func29, Try.ntmps29
  go_wp2_with fail
  refine HI.out.mono ?_
  rintro e w5 ⟨r, rfl, hr, rfl⟩
  rcases hr with ⟨rfl, hn⟩ | ⟨j0, rfl, hj0, hn⟩
  · have HF := Lib.hid (fl_none hn)
    clear hn
    go_wp2
    go_ret
    exact ⟨by rw [HF.out]; first | rfl | simp, by rw [HF.out]; exact HH.out, Ch.refl _ _⟩
  · have hjl := (List.getElem?_eq_some_iff.1 hj0).1
    obtain ⟨b, rfl⟩ := HH.out.some_ (by omega)
    have hD0 : DelAt w b c l t j0 (j0 + 1) l := DelAt.skip ⟨HH.out, rfl, by rw [fl_none hn], rfl, Nat.le_refl _, by omega, by rw [fl_none hn]; simp; omega⟩ hj0
    have HD0 := Lib.hid hD0
    have k1 : ((j0 : Int) == -1) = false := by
      have : ¬ (j0 : Int) = -1 := by omega
      simp
    have hpb : ¬ b = p.block := fun e => hpA (by simp [blkOf, e])
    have HPB := Lib.hid hpb
    clear hj0 hn hD0 hpA hpb
    go_wp2_with fail
    go_loopg [5, 6, 7] (l.length - (j0 + 1)) (fun k i_ j_ v_ wr => ∃ (i j : Nat) (cur : List Int), i_ = .int .i64 (i : Int) ∧ j_ = .int .i64 (j : Int) ∧ k = l.length - j ∧ DelAt wr b c l t i j cur ∧ Ch (· = b) w wr)
    case atStart => exact ⟨j0, j0 + 1, l, rfl, by go_num, rfl, HD0.out, Ch.refl _ _⟩
    case round =>
      obtain ⟨i, j, cur, rfl, rfl, hk, hD, hC⟩ := hrel
      have HK := Lib.hid hk
      have HD := Lib.hid hD
      have HC := Lib.hid hC
      have hij := hD.ij
      have hjl2 := hD.jl
      clear hk hD hC
      by_cases hlt : j < l.length
      · obtain ⟨x, hx⟩ : ∃ x, l[j]? = some x := ⟨_, List.getElem?_eq_getElem hlt⟩
        have hc : wr.cell? ⟨b, j, none⟩ = some (.int .i64 x) := by rw [HD.out.row.cell j (by omega)]; simp [iv, HD.out.get, hx]
        have hcp : wr.cell? p = some (.int .i64 t) := by
          have := World.cell?_of_block (a := p) (HC.out.block p.block (cell_lt' HP.out) (fun e => HPB.out e.symm))
          rw [this]; exact HP.out
        obtain ⟨y, hy⟩ : ∃ y, wr.cell? ⟨b, i, none⟩ = some y := by
          rw [HD.out.row.cell i (by omega)]
          have : i < (iv cur).length := by rw [iv_len, HD.out.len]; omega
          exact ⟨_, List.getElem?_eq_getElem this⟩
        have hz := HD.out.row.frozen i
        have HX := Lib.hid hx
        have HCP := Lib.hid hcp
        clear hx hcp
        go_wp2_with fail
        refine (clos_ok x t p wr HCP.out).mono ?_
        rintro e w6 ⟨rfl, rfl⟩
        by_cases he : x = t
        · have hd : decide (x = t) = true := decide_eq_true he
          have HE := Lib.hid he
          clear he
          rw [hd]
          go_wp2_with fail
          go_roundg (l.length - (j + 1))
          case measure => have := HK.out; omega
          case rel => exact ⟨i, j + 1, cur, rfl, by go_num, rfl, HD.out.skip (by rw [HX.out, HE.out]), HC.out⟩
        · have hd : decide (x = t) = false := decide_eq_false he
          have HE := Lib.hid he
          clear he
          rw [hd]
          go_wp2_with fail
          go_roundg (l.length - (j + 1))
          case measure => have := HK.out; omega
          case rel => exact ⟨i + 1, j + 1, cur.set i x, by go_num, by go_num, rfl, HD.out.put HX.out HE.out, HC.out.cell _ _ fun _ => rfl⟩
      · obtain rfl : j = l.length := by omega
        have hfin : fl t l = cur.take i := by rw [HD.out.pre, List.take_length]
        have hil : (fl t l).length = i := by have := HD.out.il; rwa [List.take_length] at this
        have hrow := HD.out.row.take i (by omega)
        have hiv : (iv cur).take (i * 1) = iv (fl t l) := by rw [hfin, Nat.mul_one]; simp [iv, List.map_take]
        rw [hiv] at hrow
        obtain ⟨A1, q1, qa, _⟩ := cut_l (P := Try.prog) intT b l.length c i (by omega) hm2.1 HD.out.row.le.2
        have q2 := cut_h (P := Try.prog) intT (some ⟨b, 0, none⟩) l.length c i (by omega) HD.out.row.le.2
        obtain ⟨w7, f1, f2, f3, _⟩ := rw_clear (P := Try.prog) intT 0 hrow (k := l.length - i) (c' := c - i) (by omega) zero3v A1 (fun _ => by rw [qa (by omega)])
        have hcl := f1
        have HFF := Lib.hid (And.intro f2 (HC.out.trans f3 (fun k _ q => q)))
        have HIL := Lib.hid hil
        clear f1 f2 f3 hrow hiv qa hfin hil
        go_wp2_with fail
        go_ret
        exact ⟨by rw [HIL.out]; first | rfl | simp, by rw [HIL.out]; exact HFF.out.1, HFF.out.2.mono fun k _ e => by rw [e]; rfl⟩
end Go.Proofs.Ytphikmdgdbdaiaa
