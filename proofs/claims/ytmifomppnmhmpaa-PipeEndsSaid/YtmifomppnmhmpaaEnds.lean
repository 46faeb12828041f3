import Derived.Test.YtmifomppnmhmpaaLives
/- PipeEnds. -/
namespace Go.Proofs.Ytmifomppnmhmpaa
open Go.RowKit
set_option linter.unusedVariables false
set_option linter.unusedSimpArgs false
attribute [local go_sem] szIs_lit row_at row_past row_alloc nf_alloc row_set nf_set row_cell nf_cell row_drew nf_drew row_drewN nf_drewN cell_setRow frozen_setRow nlt1 nlt2 nlt3 nlt4 nne1 nne2 nne3 nen1 nen2 nen3
attribute [local go_sem] rg_setf rg_setn rg_setm

def IsRow (k : IntKind) (w : World) (a : Option Addr) (len cap : Nat) (zs : List Int) : Prop :=
  (a = none ∧ len = 0 ∧ cap = 0 ∧ zs = []) ∨ ∃ ad, a = some ad ∧ len ≤ cap ∧ cap ≤ maxLen ∧ zs.length = cap ∧ (∀ i, i < zs.length → w.cell? (ad.add i) = some (.int k (zs.getD i 0))) ∧ ∀ n ∈ zs, (Lit.int k n).wf = true
theorem cell_lt {w : World} {a : Addr} {v : Value} (h : w.cell? a = some v) : a.block < w.heap.size := by
  rcases Nat.lt_or_ge a.block w.heap.size with h1 | h1
  · exact h1
  · unfold World.cell? at h; rw [Array.getElem?_eq_none h1] at h; cases h
/-- Bytes that can be read, in blocks below B. -/
def RdB (w : World) (B : Nat) (A : Option Addr) (n : Nat) (Q : Nat → Int) : Prop := 0 < n → ∃ ad, A = some ad ∧ ad.block < B ∧ ∀ i, i < n → w.cell? (ad.add i) = some (.int .u8 (Q i))
theorem RdB.rd {w : World} {B n : Nat} {A : Option Addr} {Q : Nat → Int} (h : RdB w B A n Q) : Rd w A n Q := fun hn => by obtain ⟨ad, a, _, b⟩ := h hn; exact ⟨ad, a, b⟩
theorem RdB.src {w : World} {B n g : Nat} {A : Option Addr} {Q : Nat → Int} (h : RdB w B A n Q) (hg : B ≤ g) : Src w g A n Q := fun hn => by obtain ⟨ad, a, c, b⟩ := h hn; exact ⟨ad, a, by omega, b⟩
theorem RdB.below {w w' : World} {B n : Nat} {A : Option Addr} {Q : Nat → Int} (h : RdB w B A n Q) (hb : Below B w w') : RdB w' B A n Q := fun hn => by
  obtain ⟨ad, a, c, b⟩ := h hn
  exact ⟨ad, a, c, fun i hi => (hb.cell (by rw [block_of_add]; exact c)).trans (b i hi)⟩
theorem RdB.of_row {w : World} {A : Option Addr} {len cap : Nat} {zs : List Int} (h : IsRow .u8 w A len cap zs) : RdB w w.heap.size A len (fun i => zs.getD i 0) ∧ len ≤ cap ∧ cap ≤ 9223372036854775807 := by
  rcases h with ⟨rfl, rfl, rfl, rfl⟩ | ⟨ad, rfl, hl, hm, hz, hc, _⟩
  · exact ⟨fun h => absurd h (by omega), by omega, by omega⟩
  · refine ⟨fun h => ⟨ad, rfl, ?_, fun i hi => hc i (by omega)⟩, hl, hm⟩
    have := cell_lt (hc 0 (by omega))
    rwa [block_of_add] at this
theorem PipeAt.past {w w1 w2 : World} {g m g' m' n : Nat} {Q : Nat → Int} {r s : Int} (h : PipeAt w1 g m Q n r s) (hk : Keep w1 w2 g' m') (h1 : g ≠ g') (h2 : g ≠ m') (h3 : m ≠ g') (h4 : m ≠ m') : PipeAt w2 g m Q n r s := h.keep hk h1 h2 h3 h4
set_option maxRecDepth 20000 in
theorem ends_walk (A : Option Addr) (len cap : Nat) (zs : List Int) (N : Int) (w : World) (hz : IsRow .u8 w A len cap zs) : Calls Try.prog 5 #[.slice A len cap, .int .i64 N] w fun e w' => e = .returned (.bool true) ∧ Below w.heap.size w w' := by
  obtain ⟨hrd, hlc, hcap⟩ := RdB.of_row hz
  have HR := Lib.hid hrd
  clear hrd hz
  go_enter Try.func5, Try.ntmps5
  go_wp2_with fail
  refine (new_ok _).mono ?_
  rintro e w1 ⟨g, m, rfl, hg, hm, hP, hB⟩
  have HP := Lib.hid hP
  have HB := Lib.hid hB
  obtain ⟨gl, ml⟩ := hP.lt
  clear hP hB
  go_wp2_with fail
  refine (new_ok _).mono ?_
  rintro e w2 ⟨g', m', rfl, hg', hm', hP, hB⟩
  have HP2 := Lib.hid (HP.out.below hB gl ml)
  have HQ2 := Lib.hid hP
  have HB2 := Lib.hid (HB.out.trans (hB.mono HB.out.size))
  clear hP hB
  have d1 : g ≠ g' := by omega
  have d2 : g ≠ m' := by omega
  have d3 : m ≠ g' := by omega
  have d4 : m ≠ m' := by omega
  have hs1 := HB.out.size
  go_wp2_with fail
  refine (lives_ok _).mono ?_
  rintro e w3 ⟨rfl, hB⟩
  have HP3 := Lib.hid (HP2.out.below hB HP2.out.lt.1 HP2.out.lt.2)
  have HQ3 := Lib.hid (HQ2.out.below hB HQ2.out.lt.1 HQ2.out.lt.2)
  have HB3 := Lib.hid (HB2.out.trans (hB.mono HB2.out.size))
  clear hB
  go_wp2_with fail
  refine (write_any g m 0 _ 1 1 w3 HP3.out A len cap _ (by omega) hlc hcap ((HR.out.below HB3.out).src hg)).mono ?_
  rintro e w4 ⟨rfl, hP, hK⟩
  have HP4 := Lib.hid hP
  have HQ4 := Lib.hid (HQ3.out.keep hK d1.symm d3.symm d2.symm d4.symm)
  have HB4 := Lib.hid (HB3.out.trans (hK.below hg hm HB3.out.size))
  clear hP hK
  have hc5 : 0 + wrote 1 0 len ≤ 512 := by unfold wrote; rw [if_neg (by omega)]; omega
  generalize hcc : 0 + wrote 1 0 len = c at *
  go_wp2_with fail
  refine (len_ok g m c _ 1 1 w4 HP4.out).mono ?_
  rintro e w5 ⟨rfl, rfl⟩
  go_wp2_with fail
  refine (close_true g m c _ 1 1 w4 HP4.out (by omega) (by omega)).mono ?_
  rintro e w5 ⟨rfl, hP, hK⟩
  have HP5 := Lib.hid (show PipeAt w5 g m _ c 1 0 from hP)
  have HQ5 := Lib.hid (HQ4.out.keep hK d1.symm d3.symm d2.symm d4.symm)
  have HB5 := Lib.hid (HB4.out.trans (hK.below hg hm HB4.out.size))
  clear hP hK
  rw [show (((1 : Int) == 0) && ((1 : Int) - 1 == 0)) = false from by decide]
  go_wp2_with fail
  refine (ready_rd0 g m c _ 1 0 w5 HP5.out rfl).mono ?_
  rintro e w6 ⟨rfl, rfl⟩
  go_wp2_with fail
  refine (read_any g m c _ 1 0 w5 HP5.out 512 (by omega)).mono ?_
  rintro e w6 ⟨A1, rfl, _, _, hP, hK⟩
  have e1 : took c 512 = c := by unfold took; rw [if_neg (by omega)]; simp; omega
  have e2 : tookE 0 c 512 = 0 := by unfold tookE; simp
  rw [e1] at hP ⊢
  rw [e2]
  rw [Nat.sub_self] at hP
  have HP6 := Lib.hid hP
  have HQ6 := Lib.hid (HQ5.out.keep hK d1.symm d3.symm d2.symm d4.symm)
  have HB6 := Lib.hid (HB5.out.trans (hK.below hg hm HB5.out.size))
  clear hP hK e1 e2
  go_wp2_with fail
  refine (read_any g m 0 _ 1 0 w6 HP6.out 1 (by omega)).mono ?_
  rintro e w7 ⟨A2, rfl, _, _, hP, hK⟩
  have e1 : took 0 1 = 0 := by decide
  have e2 : tookE 0 0 1 = 0 := by decide
  rw [e1] at hP ⊢
  rw [e2]
  have HQ7 := Lib.hid (HQ6.out.keep hK d1.symm d3.symm d2.symm d4.symm)
  have HB7 := Lib.hid (HB6.out.trans (hK.below hg hm HB6.out.size))
  clear hP hK e1 e2
  have hg2 : w.heap.size ≤ g' := by omega
  have hm2 : w.heap.size ≤ m' := by omega
  go_wp2_with fail
  refine (close_false g' m' 0 _ 1 1 w7 HQ7.out (by omega) (by omega)).mono ?_
  rintro e w8 ⟨rfl, hP, hK⟩
  have HQ8 := Lib.hid (show PipeAt w8 g' m' _ 0 0 1 from hP)
  have HB8 := Lib.hid (HB7.out.trans (hK.below hg2 hm2 HB7.out.size))
  clear hP hK
  rw [show (((1 : Int) - 1 == 0) && ((1 : Int) == 0)) = false from by decide]
  go_wp2_with fail
  refine (ready_wr0 g' m' 0 _ 0 1 w8 HQ8.out rfl).mono ?_
  rintro e w9 ⟨rfl, rfl⟩
  go_wp2_with fail
  refine (write_any g' m' 0 _ 0 1 w8 HQ8.out A len cap _ (by omega) hlc hcap ((HR.out.below HB8.out).src hg2)).mono ?_
  rintro e w9 ⟨rfl, hP, hK⟩
  have e1 : wrote 0 0 len = 0 := by unfold wrote; simp
  have e2 : wroteE 0 0 len = 210 := by unfold wroteE; simp
  rw [e1] at hP ⊢
  rw [e2]
  have HQ9 := Lib.hid hP
  have HB9 := Lib.hid (HB8.out.trans (hK.below hg2 hm2 HB8.out.size))
  clear hP hK e1 e2
  go_wp2_with fail
  refine (close_true g' m' 0 _ 0 1 w9 HQ9.out (by omega) (by omega)).mono ?_
  rintro e w10 ⟨rfl, hP, hK⟩
  have HB10 := Lib.hid (HB9.out.trans (hK.below hg2 hm2 HB9.out.size))
  clear hP hK
  rw [show (((0 : Int) == 0) && ((1 : Int) - 1 == 0)) = true from by decide]
  go_wp2
  go_ret
  exact ⟨by simp, HB10.out⟩
end Go.Proofs.Ytmifomppnmhmpaa
