import Derived.Test.YtngjpokbjnjodaaRefT5
import Derived.Deep.QuietTactic
import Derived.BigQuiet
import Derived.Deep.LoopGhost
import Derived.Deep.Cut
import Derived.Deep.CutRange
import Derived.Deep.DeepMust
/- both: apart. -/
namespace Go.Proofs.Ytngjpokbjnjodaa
open Go.RowKit Go.BigFrame
set_option linter.unusedVariables false
set_option linter.unusedSimpArgs false
attribute [local go_sem] szIs_lit row_at row_past row_alloc nf_alloc row_set nf_set row_cell nf_cell row_drew nf_drew row_drewN nf_drewN cell_setRow frozen_setRow nlt1 nlt2 nlt3 nlt4 nne1 nne2 nne3 nen1 nen2 nen3
attribute [local go_sem] by_get by_set
abbrev bothS (g t x : Nat) : Array Value := #[.pointer (some ⟨g, 0, none⟩), .pointer (some ⟨t, 0, none⟩), .pointer (some ⟨x, 0, none⟩)]
def hasF (l : List (Nat × Nat)) (f : Int) : Bool := l.any fun kf => (kf.2 : Int) == f
theorem hasF_take {l : List (Nat × Nat)} {i : Nat} {kf : Nat × Nat} (h : l[i]? = some kf) (k : Int) : hasF (l.take (i + 1)) k = (hasF (l.take i) k || ((kf.2 : Int) == k)) := by
  unfold hasF; rw [List.take_add_one, h]; simp [List.any_append]
section
variable {w w' : World} {bb g t x : Nat} {F root : Int} {E : Nat → Int} {A : Option Addr} {n c : Nat} {l : List (Nat × Nat)}
set_option maxRecDepth 100000 in
theorem apart_ok (hb : Blk w bb (bothS g t x)) (h : Blk w x (rrow F root (.slice A n c) E)) (hr : Rw w 100 2 A n c (lv l)) (hl : l.length = n) (hn : n ≤ 1000) (f : Int) : Calls Try.prog 54 #[.pointer (some ⟨bb, 0, none⟩), .int .i64 f] w fun r w' => r = .returned (.bool (!(f == root) && !hasF l f)) ∧ w = w' := by
  have c0 : w.cell? ⟨bb, 2, none⟩ = some (.pointer (some ⟨x, 0, none⟩)) := (hb.all.2.2.1 2).trans rfl
  have c1 : w.cell? ⟨x, 1, none⟩ = some (.int .i64 root) := (h.all.2.2.1 1).trans (by unfold rrow; rw [List.getElem?_toArray]; rfl)
  have c2 : w.cell? ⟨x, 2, none⟩ = some (.slice A n c) := (h.all.2.2.1 2).trans (by unfold rrow; rw [List.getElem?_toArray]; rfl)
  have HR := Lib.hid hr
  have HL := Lib.hid hl
  clear h hr hl hb
  cases hfr : (f == root) with
  | true =>
    go_enter Try.func54, Try.ntmps54
    go_wp2
    go_ret
    exact ⟨by first | rfl | simp, rfl⟩
  | false =>
    simp only [Bool.not_false, Bool.true_and]
    go_enter Try.func54, Try.ntmps54
    go_wp2_with fail
    go_loopg [5] n (fun k i_ wr => wr = w ∧ ∃ (i : Nat), i_ = .int .i64 (i : Int) ∧ k = n - i ∧ i ≤ n ∧ hasF (l.take i) f = false)
    case atStart => exact ⟨rfl, 0, rfl, rfl, by omega, rfl⟩
    case round =>
      obtain ⟨rfl, i, rfl, hk, hi, hh⟩ := hrel
      have HK := Lib.hid hk
      have HH := Lib.hid hh
      clear hk hh
      by_cases hlt : i < n
      · obtain ⟨kf, hkf⟩ : ∃ kf, l[i]? = some kf := ⟨_, List.getElem?_eq_getElem (by rw [HL.out]; exact hlt)⟩
        obtain ⟨b, rfl⟩ := HR.out.some_ (by omega)
        have d0 := (HR.out.cell (i * 2 + 1) (by omega)).trans (lv_get l i kf hkf).2
        have HT := Lib.hid (hasF_take hkf f)
        have HKF := Lib.hid hkf
        clear hkf
        generalize hy : (kf.2 : Int) = y at *
        have HY := Lib.hid hy
        clear hy
        by_cases hq : y = f
        · have k1 : (y == f) = true := by simp [hq]
          have HT2 := Lib.hid (show hasF l f = true from List.any_eq_true.2 ⟨kf, List.mem_of_getElem? HKF.out, by rw [HY.out]; exact k1⟩)
          clear hq
          go_wp2_with fail
          go_ret
          exact ⟨by rw [HT2.out]; first | rfl | simp, rfl⟩
        · have k1 : (y == f) = false := by simpa using hq
          clear hq
          have HT2 := Lib.hid (show hasF (l.take (i + 1)) f = false by rw [HT.out, HH.out, k1]; rfl)
          go_wp2_with fail
          go_roundg (n - (i + 1))
          case measure => have := HK.out; omega
          case rel => exact ⟨rfl, i + 1, by go_num, rfl, by omega, HT2.out⟩
      · obtain rfl : n = i := by omega
        have HE := Lib.hid (show hasF l f = false by have := HH.out; rwa [List.take_of_length_le (by rw [HL.out]; exact Nat.le_refl _)] at this)
        go_wp2_with fail
        go_ret
        exact ⟨by rw [HE.out]; first | rfl | simp, rfl⟩
end
end Go.Proofs.Ytngjpokbjnjodaa
