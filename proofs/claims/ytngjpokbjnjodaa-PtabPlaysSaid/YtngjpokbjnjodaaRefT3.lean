import Derived.Test.YtngjpokbjnjodaaRefT2
import Derived.Deep.QuietTactic
import Derived.BigQuiet
import Derived.Deep.LoopGhost
import Derived.Deep.Cut
import Derived.Deep.CutRange
import Derived.Deep.DeepMust
/- The reference table: has, Needs. -/
namespace Go.Proofs.Ytngjpokbjnjodaa
open Go.RowKit Go.BigFrame
set_option linter.unusedVariables false
set_option linter.unusedSimpArgs false
attribute [local go_sem] szIs_lit row_at row_past row_alloc nf_alloc row_set nf_set row_cell nf_cell row_drew nf_drew row_drewN nf_drewN cell_setRow frozen_setRow nlt1 nlt2 nlt3 nlt4 nne1 nne2 nne3 nen1 nen2 nen3
attribute [local go_sem] by_get by_set
/-- A leaf's words. -/
def lv (l : List (Nat × Nat)) : List Value := l.flatMap fun kf => [Value.int .i64 (kf.1 : Int), Value.int .i64 (kf.2 : Int)]
theorem lv_get : ∀ (l : List (Nat × Nat)) (i : Nat) (kf : Nat × Nat), l[i]? = some kf → (lv l)[i * 2]? = some (.int .i64 (kf.1 : Int)) ∧ (lv l)[i * 2 + 1]? = some (.int .i64 (kf.2 : Int))
  | [], i, kf, h => by simp at h
  | a :: l, 0, kf, h => by simp at h; subst h; exact ⟨rfl, rfl⟩
  | a :: l, i + 1, kf, h => by
    have := lv_get l i kf (by simpa using h)
    have e : lv (a :: l) = .int .i64 (a.1 : Int) :: .int .i64 (a.2 : Int) :: lv l := rfl
    rw [e, show (i + 1) * 2 = i * 2 + 1 + 1 by omega]
    exact this
def hasW (l : List (Nat × Nat)) (k : Int) : Bool := l.any fun kf => (kf.1 : Int) == k
theorem hasW_take {l : List (Nat × Nat)} {i : Nat} {kf : Nat × Nat} (h : l[i]? = some kf) (k : Int) : hasW (l.take (i + 1)) k = (hasW (l.take i) k || ((kf.1 : Int) == k)) := by
  unfold hasW; rw [List.take_add_one, h]; simp [List.any_append]
section
variable {w w' : World} {x : Nat} {F root : Int} {E : Nat → Int} {A : Option Addr} {n c : Nat} {l : List (Nat × Nat)}
set_option maxRecDepth 100000 in
theorem rhas_ok (h : Blk w x (rrow F root (.slice A n c) E)) (hr : Rw w 100 2 A n c (lv l)) (hl : l.length = n) (hn : n ≤ 1000) (p : Int) (h0 : 0 ≤ p) (h1 : p < 256) : Calls Try.prog 60 #[.pointer (some ⟨x, 0, none⟩), .int .i64 p] w fun r w' => r = .returned (.bool (hasW l (p / 64))) ∧ w = w' := by
  have c2 : w.cell? ⟨x, 2, none⟩ = some (.slice A n c) := (h.all.2.2.1 2).trans (by unfold rrow; rw [List.getElem?_toArray]; rfl)
  have HR := Lib.hid hr
  have HL := Lib.hid hl
  clear h hr hl
  go_enter Try.func60, Try.ntmps60
  go_wp2_with fail
  go_loopg [5] n (fun k i_ wr => wr = w ∧ ∃ (i : Nat), i_ = .int .i64 (i : Int) ∧ k = n - i ∧ i ≤ n ∧ hasW (l.take i) (p / 64) = false)
  case atStart => exact ⟨rfl, 0, rfl, rfl, by omega, rfl⟩
  case round =>
    obtain ⟨rfl, i, rfl, hk, hi, hh⟩ := hrel
    have HK := Lib.hid hk
    have HH := Lib.hid hh
    clear hk hh
    by_cases hlt : i < n
    · obtain ⟨kf, hkf⟩ : ∃ kf, l[i]? = some kf := ⟨_, List.getElem?_eq_getElem (by rw [HL.out]; exact hlt)⟩
      obtain ⟨b, rfl⟩ := HR.out.some_ (by omega)
      have d0 := (HR.out.cell (i * 2) (by omega)).trans (lv_get l i kf hkf).1
      have HT := Lib.hid (hasW_take hkf (p / 64))
      have HKF := Lib.hid hkf
      clear hkf
      generalize hy : (kf.1 : Int) = y at *
      have HY := Lib.hid hy
      clear hy
      by_cases hq : y = p / 64
      · have k1 : (y == p / 64) = true := by simp [hq]
        have HT2 := Lib.hid (show hasW l (p / 64) = true from List.any_eq_true.2 ⟨kf, List.mem_of_getElem? HKF.out, by rw [HY.out]; exact k1⟩)
        clear hq
        go_wp2_with fail
        go_ret
        exact ⟨by rw [HT2.out]; first | rfl | simp, rfl⟩
      · have k1 : (y == p / 64) = false := by simpa using hq
        clear hq
        have HT2 := Lib.hid (show hasW (l.take (i + 1)) (p / 64) = false by rw [HT.out, HH.out, k1]; rfl)
        go_wp2_with fail
        go_roundg (n - (i + 1))
        case measure => have := HK.out; omega
        case rel => exact ⟨rfl, i + 1, by go_num, rfl, by omega, HT2.out⟩
    · obtain rfl : n = i := by omega
      have HE := Lib.hid (show hasW l (p / 64) = false by have := HH.out; rwa [List.take_of_length_le (by rw [HL.out]; exact Nat.le_refl _)] at this)
      go_wp2_with fail
      go_ret
      exact ⟨by rw [HE.out]; first | rfl | simp, rfl⟩
end
end Go.Proofs.Ytngjpokbjnjodaa
