import Derived.Test.YtngjpokbjnjodaaBoth2
import Derived.Deep.QuietTactic
import Derived.BigQuiet
import Derived.Maps.RangeWalk
/- One call of both tables. -/
namespace Go.Proofs.Ytngjpokbjnjodaa
open Go.RowKit Go.BigFrame
set_option linter.unusedVariables false
set_option linter.unusedSimpArgs false
attribute [local go_sem] szIs_lit row_at row_past row_alloc nf_alloc row_set nf_set row_cell nf_cell row_drew nf_drew row_drewN nf_drewN cell_setRow frozen_setRow nlt1 nlt2 nlt3 nlt4 nne1 nne2 nne3 nen1 nen2 nen3
attribute [local go_sem] by_get by_set
def opC (kind page entry spare addr : Int) (wr : Bool) : Array Value := #[Value.int .i64 kind, .int .i64 page, .int .u32 entry, .int .i64 spare, .int .u32 addr, .bool wr]
def CB (bb o : Nat) (c d : Array Value) (u : World) : Prop := Blk u bb c ∧ Blk u o d
theorem toB {P : Program} {f : FuncId} {args : Array Value} {w : World} {v : Ending} (h : Calls P f args w fun r w' => r = v ∧ w = w') : Calls P f args w fun r w' => r = v ∧ Below w.heap.size w w' :=
  h.mono fun r w' ⟨a, b⟩ => ⟨a, by subst b; exact Below.refl _ _⟩
section
variable {B bb g b t x F root : Nat} {L L' : Nat → Option Nat} {E E' : Nat → Int}
theorem needs_any (p : Int) {w : World} (h : J2 w B bb g b t x F root L E) : ∃ c, (∀ w, J2 w B bb g b t x F root L E → Calls Try.prog 34 #[.pointer (some ⟨t, 0, none⟩), .int .i64 p] w fun r w' => r = .returned (.bool c) ∧ Below w.heap.size w w') ∧ ∀ u, J2 u B bb g b t x F root L E → Calls Try.prog 57 #[.pointer (some ⟨x, 0, none⟩), .int .i64 p] u fun r w' => r = .returned (.bool c) ∧ Below u.heap.size u w' := by
  by_cases hp : 0 ≤ p ∧ p < 256
  · obtain ⟨q, rfl⟩ := Int.eq_ofNat_of_zero_le hp.1
    have hq : q < 256 := by omega
    refine ⟨!(L (q / 64)).isSome, fun w h => ?_, fun u hu => ?_⟩
    · obtain ⟨M, m1, m2⟩ := h.ts.ex
      have := needs_ok m1 h.ts.ht h.ts.hr q hq
      rw [m2.has q hq] at this
      exact this
    · obtain ⟨A, c, r1, r2, r3⟩ := hu.rt.ex
      have hn := toB (rneeds_ok r1 r2 rfl (by have := lvL_len L; omega) (q : Int) (by omega) (by omega))
      rw [show (q : Int) / 64 = ((q / 64 : Nat) : Int) by omega, hasW_lvL (by omega)] at hn
      exact hn
  · exact ⟨false, fun w h => toB (needs_page h.ts.ht p hp), fun u hu => toB (rneeds_no p hp _ u)⟩
theorem get_any (p : Int) {w : World} (h : J2 w B bb g b t x F root L E) : ∃ e v : Int, (∀ w, J2 w B bb g b t x F root L E → Calls Try.prog 31 #[.pointer (some ⟨t, 0, none⟩), .int .i64 p] w fun r w' => r = .returned (.tuple #[.int .u32 e, .int .i64 v]) ∧ Below w.heap.size w w') ∧ ∀ u, J2 u B bb g b t x F root L E → Calls Try.prog 56 #[.pointer (some ⟨x, 0, none⟩), .int .i64 p] u fun r w' => r = .returned (.tuple #[.int .u32 e, .int .i64 v]) ∧ Below u.heap.size u w' := by
  by_cases hp : 0 ≤ p ∧ p < 256
  · obtain ⟨q, rfl⟩ := Int.eq_ofNat_of_zero_le hp.1
    have hq : q < 256 := by omega
    refine ⟨_, _, fun w h => get_ok h.ts q hq, fun u hu => ?_⟩
    obtain ⟨A, c, r1, r2, r3⟩ := hu.rt.ex
    exact toB (rget_ok r1 q hq)
  · exact ⟨0, 1, fun w h => toB (get_page h.ts p hp), fun u hu => toB (rget_no p hp _ u)⟩
theorem trans_any (a : Int) (ha : 0 ≤ a ∧ a ≤ 4294967295) (c : Bool) {w : World} (h : J2 w B bb g b t x F root L E) : ∃ e v : Int, (∀ w, J2 w B bb g b t x F root L E → Calls Try.prog 32 #[.pointer (some ⟨t, 0, none⟩), .int .u32 a, .bool c] w fun r w' => r = .returned (.tuple #[.int .i64 e, .int .i64 v]) ∧ Below w.heap.size w w') ∧ ∀ u, J2 u B bb g b t x F root L E → Calls Try.prog 58 #[.pointer (some ⟨x, 0, none⟩), .int .u32 a, .bool c] u fun r w' => r = .returned (.tuple #[.int .i64 e, .int .i64 v]) ∧ Below u.heap.size u w' := by
  by_cases hf : 65536 ≤ a
  · have hz : entA E a = 0 := by unfold entA; rw [if_neg (by omega)]
    exact ⟨0, 51, fun w h => trans_zero h.ts a ha c hz, fun u hu => toB (rtrans_far a hf c _ u)⟩
  · have hl : a < 65536 := by omega
    have he : entA E a = E (a / 256).toNat := by unfold entA; rw [if_pos (by omega)]
    have hb := h.eb (a / 256).toNat
    by_cases hz : entA E a = 0
    · refine ⟨0, 51, fun w h => trans_zero h.ts a ha c hz, fun u hu => ?_⟩
      obtain ⟨A, k, r1, r2, r3⟩ := hu.rt.ex
      exact toB (rtrans_zero r1 a ha.1 hl _ he.symm c hz)
    · rw [← he] at hb
      cases c with
      | false =>
        refine ⟨_, _, fun w h => trans_read h.ts a ha hb hz, fun u hu => ?_⟩
        obtain ⟨A, k, r1, r2, r3⟩ := hu.rt.ex
        exact toB (rtrans_read r1 a ha.1 hl _ he.symm hb hz)
      | true =>
        have fe := flag2 (entA E a % 256) (by omega) (by omega)
        cases hw : (entA E a % 256 / 2 % 2 == 0) with
        | true =>
          refine ⟨_, _, fun w h => trans_ro h.ts a ha hb hz (fe.trans hw), fun u hu => ?_⟩
          obtain ⟨A, k, r1, r2, r3⟩ := hu.rt.ex
          exact toB (rtrans_ro r1 a ha.1 hl _ he.symm hb hz hw)
        | false =>
          refine ⟨_, _, fun w h => trans_write h.ts a ha hb hz (fe.trans hw), fun u hu => ?_⟩
          obtain ⟨A, k, r1, r2, r3⟩ := hu.rt.ex
          exact toB (rtrans_write r1 a ha.1 hl _ he.symm hb hz hw)
/-- Between the two Sets. -/
structure Mid (w u : World) (B bb g b t x F root o : Nat) (oc : Array Value) (L : Nat → Option Nat) (E : Nat → Int) (p e sp : Int) (uu : Bool) (vv : Int) (L' : Nat → Option Nat) (E' : Nat → Int) : Prop where
  hb : Blk u bb (bothS g t x)
  ho : Blk u o oc
  ts : TS u g b F t root L' E'
  rt : RT u x (Zs bb g b t x) F root L E
  lts : ∀ k, Zs bb g b t x k → k < u.heap.size
  sr : SetR F p e sp L E uu vv L' E'
  bl : Below B w u
  hB : B ≤ u.heap.size
  on : o ≠ x
theorem Mid.below {w u u' : World} {B bb g b t x F root o : Nat} {oc : Array Value} {L : Nat → Option Nat} {E : Nat → Int} {p e sp : Int} {uu : Bool} {vv : Int} {L' : Nat → Option Nat} {E' : Nat → Int} (h : Mid w u B bb g b t x F root o oc L E p e sp uu vv L' E') (hb : Below u.heap.size u u') : Mid w u' B bb g b t x F root o oc L E p e sp uu vv L' E' :=
  ⟨h.hb.below hb h.hb.lt, h.ho.below hb h.ho.lt, h.ts.below hb, h.rt.below hb, fun k hk => Nat.lt_of_lt_of_le (h.lts k hk) hb.size, h.sr, h.bl.trans (Below.mono hb h.hB), Nat.le_trans h.hB hb.size, h.on⟩
end
end Go.Proofs.Ytngjpokbjnjodaa
