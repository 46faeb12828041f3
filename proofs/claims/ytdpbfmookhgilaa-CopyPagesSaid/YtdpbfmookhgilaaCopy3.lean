import Derived.Test.YtdpbfmookhgilaaCopy2
import Derived.Deep.QuietTactic
import Derived.BigQuiet
import Derived.Deep.LoopGhost
import Derived.LoopN
import Derived.Maps.RangeWalk
/- spans, Out, In, at the example. -/
namespace Go.Proofs.Ytdpbfmookhgilaa
open Go.RowKit Go.BigFrame
set_option linter.unusedVariables false
set_option linter.unusedSimpArgs false
attribute [local go_sem] szIs_lit row_at row_past row_alloc nf_alloc row_set nf_set row_cell nf_cell row_drew nf_drew row_drewN nf_drewN cell_setRow frozen_setRow nlt1 nlt2 nlt3 nlt4 nne1 nne2 nne3 nen1 nen2 nen3
attribute [local go_sem] by_get by_set
section
variable {w w' : World} {g b t mB bB sb : Nat} {M : Nat → Int} {L : Nat → Option Nat} {E : Nat → Int}
theorem t250 (h : TS w g b 26 t 16 L E) (hE : E 0 = 1795) : Calls Try.prog 33 #[.pointer (some ⟨t, 0, none⟩), .int .u32 250, .bool true] w fun r w' => r = .returned (.tuple #[.int .i64 2042, .int .i64 0]) ∧ Below w.heap.size w w' := by
  have := trans_good h 250 7 (by decide) (by decide) (by simpa using hE) true
  simpa using this
theorem t256 (h : TS w g b 26 t 16 L E) (hE : E 1 = 771) : Calls Try.prog 33 #[.pointer (some ⟨t, 0, none⟩), .int .u32 256, .bool true] w fun r w' => r = .returned (.tuple #[.int .i64 768, .int .i64 0]) ∧ Below w.heap.size w w' := by
  have := trans_good h 256 3 (by decide) (by decide) (by simpa using hE) true
  simpa using this
theorem cell_lt {w : World} {a : Addr} {v : Value} (h : w.cell? a = some v) : a.block < w.heap.size := by
  rcases Nat.lt_or_ge a.block w.heap.size with h1 | h1
  · exact h1
  · unfold World.cell? at h; rw [Array.getElem?_eq_none h1] at h; cases h
theorem abc_byte : ∀ x ∈ abc, isByte x := by
  intro x hx
  simp only [abc, List.mem_cons, List.mem_nil_iff, or_false] at hx
  unfold isByte
  omega
/-- Where the ten bytes lie. -/
structure AB (w : World) (b mB bB g sb : Nat) : Prop where
  cm : CM mB bB g sb w
  d1 : mB ≠ b
  d2 : bB ≠ b
  d3 : sb ≠ b
  cs : ∀ j v, abc[j]? = some v → w.cell? ⟨sb, j, none⟩ = some (.int .u8 v)
theorem AB.below (h : AB w b mB bB g sb) (hb : Below w.heap.size w w') : AB w' b mB bB g sb :=
  ⟨⟨h.cm.1.below hb h.cm.1.lt, h.cm.2.below hb h.cm.2.lt⟩, h.d1, h.d2, h.d3, fun j v hv => (hb.cell (p := ⟨sb, j, none⟩) (cell_lt (h.cs j v hv))).trans (h.cs j v hv)⟩
theorem AB.only (h : AB w b mB bB g sb) (hg : w.grownBy w' (some b)) : AB w' b mB bB g sb :=
  ⟨⟨h.cm.1.only hg h.cm.1.lt h.d1, h.cm.2.only hg h.cm.2.lt h.d2⟩, h.d1, h.d2, h.d3, fun j v hv => (World.cell?_of_block (a := ⟨sb, j, none⟩) (hg.block sb (cell_lt (h.cs j v hv)) (fun e => h.d3 (by injection e)))).trans (h.cs j v hv)⟩
theorem o250 (h : TM w g b t M 16 L E) (ha : AB w b mB bB g sb) : Calls Try.prog 18 #[.int .i64 2042, .int .i64 0, .int .i64 6, .pointer (some ⟨mB, 0, none⟩), .pointer (some ⟨bB, 0, none⟩)] w fun r w' => (∃ v, r = .returned v) ∧ TM w' g b t (putB M 2042 [97, 98, 99, 100, 101, 102]) 16 L E ∧ AB w' b mB bB g sb ∧ w.grownBy w' (some b) :=
  (out1_ok h.mp ha.cm ha.d1 ha.d2 abc rfl abc_byte ha.cs 2042 0 6 (by decide) (by decide) (by decide)).mono fun r w' ⟨r1, r2, r3⟩ => ⟨r1, h.put 2042 _ (by decide) r2 r3, ha.only r3, r3⟩
theorem o256 (h : TM w g b t M 16 L E) (ha : AB w b mB bB g sb) : Calls Try.prog 18 #[.int .i64 768, .int .i64 6, .int .i64 10, .pointer (some ⟨mB, 0, none⟩), .pointer (some ⟨bB, 0, none⟩)] w fun r w' => (∃ v, r = .returned v) ∧ TM w' g b t (putB M 768 [103, 104, 105, 106]) 16 L E ∧ AB w' b mB bB g sb ∧ w.grownBy w' (some b) :=
  (out1_ok h.mp ha.cm ha.d1 ha.d2 abc rfl abc_byte ha.cs 768 6 10 (by decide) (by decide) (by decide)).mono fun r w' ⟨r1, r2, r3⟩ => ⟨r1, h.put 768 _ (by decide) r2 r3, ha.only r3, r3⟩
set_option maxHeartbeats 2000000 in
theorem spans_ok (h : TM w g b t M 16 L E) (ha : AB w b mB bB g sb) (h0 : E 0 = 1795) (h1 : E 1 = 771) : Calls Try.prog 17 #[.pointer (some ⟨t, 0, none⟩), .int .u32 250, .int .i64 10, .bool true, .func (.func 18) #[] #[.pointer (some ⟨mB, 0, none⟩), .pointer (some ⟨bB, 0, none⟩)]] w fun r w' => (∃ v, r = .returned v) ∧ TM w' g b t (putB (putB M 2042 [97, 98, 99, 100, 101, 102]) 768 [103, 104, 105, 106]) 16 L E ∧ w.grownBy w' (some b) := by
  have HT := Lib.hid h
  have HA := Lib.hid ha
  have H0 := Lib.hid (t250 h.ts h0)
  have HE1 := Lib.hid h1
  have y1 : bits .and .u32 250 255 = 250 := by decide
  have y2 : bits .and .u32 256 255 = 0 := by decide
  clear h ha h0 h1
  go_enter Try.func17, Try.ntmps17
  go_wp2_with fail
  refine wp_loop_rounds 3 ?_
  rw [rounds_succ]
  go_wp2_with fail
  refine H0.out.mono ?_
  rintro r w1 ⟨rfl, hb⟩
  have HB1 := Lib.hid hb
  have HO := Lib.hid (o250 (HT.out.below hb) (HA.out.below hb))
  clear hb H0
  go_wp2_with fail
  refine HO.out.mono ?_
  rintro r w2 ⟨⟨v, rfl⟩, q1, q2, q3⟩
  have HT2 := Lib.hid q1
  have HA2 := Lib.hid q2
  have HB2 := Lib.hid (below_only_r HB1.out q3)
  have H1 := Lib.hid (t256 q1.ts HE1.out)
  clear q1 q2 q3 HO HT HA HB1
  go_wp2_with fail
  rw [rounds_succ]
  go_wp2_with fail
  refine H1.out.mono ?_
  rintro r w3 ⟨rfl, hb⟩
  have HB3 := Lib.hid (only_below HB2.out hb)
  have HO := Lib.hid (o256 (HT2.out.below hb) (HA2.out.below hb))
  clear hb H1
  go_wp2_with fail
  refine HO.out.mono ?_
  rintro r w4 ⟨⟨v, rfl⟩, q1, q2, q3⟩
  have HT4 := Lib.hid q1
  have HB4 := Lib.hid (only_trans HB3.out q3)
  clear q1 q2 q3 HO HT2 HA2 HB3
  go_wp2_with fail
  rw [rounds_succ]
  go_wp2_with fail
  go_end0
  exact ⟨⟨_, rfl⟩, HT4.out, HB4.out⟩
theorem cnt1 : cnt 250 10 = 2 := by decide
theorem cnt2 : cnt 500 20 = 2 := by decide
theorem miss1 (h : TS w g b 26 t 16 L E) (h0 : E 0 = 1795) (h1 : E 1 = 771) : Calls Try.prog 16 #[.pointer (some ⟨t, 0, none⟩), .int .u32 250, .int .i64 10, .bool true] w fun r w' => r = .returned (.tuple #[.int .i64 0, .bool false]) ∧ Below w.heap.size w w' := by
  refine missing_all h 250 10 (by decide) (by decide) true (fun i hi w h => ?_)
  rw [cnt1] at hi
  rcases (show i = 0 ∨ i = 1 by omega) with rfl | rfl
  · exact there_ok h 0 (by decide) (by decide) 7 (by decide) (by simpa using h0) true
  · exact there_ok h 1 (by decide) (by decide) 3 (by decide) (by simpa using h1) true
theorem miss2 (h : TS w g b 26 t 16 L E) (h1 : E 1 = 771) (h2 : E 2 = 0) : Calls Try.prog 16 #[.pointer (some ⟨t, 0, none⟩), .int .u32 500, .int .i64 20, .bool false] w fun r w' => r = .returned (.tuple #[.int .i64 2, .bool true]) ∧ Below w.heap.size w w' := by
  refine missing_at h 500 20 (by decide) (by decide) false 1 (by rw [cnt2]; decide) (fun i hi w h => ?_) (fun w h => ?_)
  · obtain rfl : i = 0 := by omega
    exact there_ok h 1 (by decide) (by decide) 3 (by decide) (by simpa using h1) false
  · exact there_no h 2 (by decide) (by decide) (by simpa using h2) false
set_option maxHeartbeats 2000000 in
theorem out_ok (h : TM w g b t M 16 L E) (hsb : sb < w.heap.size) (hd : sb ≠ b) (hs : ∀ j v, abc[j]? = some v → w.cell? ⟨sb, j, none⟩ = some (.int .u8 v)) (h0 : E 0 = 1795) (h1 : E 1 = 771) : Calls Try.prog 8 #[.pointer (some ⟨g, 0, none⟩), .pointer (some ⟨t, 0, none⟩), .int .u32 250, .slice (some ⟨sb, 0, none⟩) 10 10] w fun r w' => r = .returned (.tuple #[.int .i64 0, .int .i64 0]) ∧ TM w' g b t (putB (putB M 2042 [97, 98, 99, 100, 101, 102]) 768 [103, 104, 105, 106]) 16 L E ∧ w.grownBy w' (some b) := by
  obtain ⟨w0, hw0⟩ : ∃ w0, (w.alloc (.cells #[.pointer (some ⟨g, 0, none⟩)] 37)).alloc (.cells #[.slice (some ⟨sb, 0, none⟩) 10 10] 45) = w0 := ⟨_, rfl⟩
  have hB0 : Below w.heap.size w w0 := by rw [← hw0]; exact ((Below.refl _ _).alloc (Nat.le_refl _) _).alloc (by simp) _
  have hbl : b < w.heap.size := h.mp.hb.lt
  have hA : AB w0 b w.heap.size (w.heap.size + 1) g sb := by
    refine ⟨⟨?_, ?_⟩, by omega, by omega, hd, fun j v hv => (hB0.cell (p := ⟨sb, j, none⟩) hsb).trans (hs j v hv)⟩
    · rw [← hw0]
      exact (Blk.of_heap (heap_at rfl) : Blk (w.alloc (.cells #[.pointer (some ⟨g, 0, none⟩)] 37)) w.heap.size #[.pointer (some ⟨g, 0, none⟩)]).below ((Below.refl _ _).alloc (Nat.le_refl _) _) (by simp)
    · rw [← hw0]; exact Blk.of_heap (heap_at (by simp))
  have HT := Lib.hid (h.below hB0)
  have HA := Lib.hid hA
  have HB0 := Lib.hid hB0
  have HE := Lib.hid (And.intro h0 h1)
  have l1 : w0.cell? ⟨w.heap.size, 0, none⟩ = some (.pointer (some ⟨g, 0, none⟩)) := (hA.cm.1.all.2.2.1 0).trans rfl
  have l2 : w0.cell? ⟨w.heap.size + 1, 0, none⟩ = some (.slice (some ⟨sb, 0, none⟩) 10 10) := (hA.cm.2.all.2.2.1 0).trans rfl
  clear h hsb hd hs h0 h1 hB0 hbl hA
  go_enter Try.func8, Try.ntmps8
  go_wp2_with (rw [hw0])
  refine (right_ok 10 (by decide) (by decide) w0).mono ?_
  rintro r w1 ⟨rfl, rfl⟩
  go_wp2_with fail
  refine (miss1 HT.out.ts HE.out.1 HE.out.2).mono ?_
  rintro r w1 ⟨rfl, hb⟩
  have HT1 := Lib.hid (HT.out.below hb)
  have HA1 := Lib.hid (HA.out.below hb)
  have HB1 := Lib.hid (HB0.out.trans (Below.mono hb HB0.out.size))
  have l3 : w1.cell? ⟨w.heap.size + 1, 0, none⟩ = some (.slice (some ⟨sb, 0, none⟩) 10 10) := (HA1.out.cm.2.all.2.2.1 0).trans rfl
  clear hb HT HA l1 l2
  go_wp2_with fail
  refine (spans_ok HT1.out HA1.out HE.out.1 HE.out.2).mono ?_
  rintro r w2 ⟨⟨v, rfl⟩, q1, q2⟩
  have HF := Lib.hid (And.intro q1 (below_only_r HB1.out q2))
  clear q1 q2 HT1 HA1 HB1 l3
  go_wp2_with fail
  go_ret2
  exact ⟨by first | rfl | simp, HF.out⟩
set_option maxHeartbeats 2000000 in
theorem in_fault (h : TS w g b 26 t 16 L E) (h1 : E 1 = 771) (h2 : E 2 = 0) : Calls Try.prog 10 #[.pointer (some ⟨g, 0, none⟩), .pointer (some ⟨t, 0, none⟩), .int .u32 500, .int .i64 20] w fun r w' => r = .returned (.tuple #[.slice none 0 0, .int .i64 2, .int .i64 51]) ∧ Below w.heap.size w w' := by
  have hB0 : Below w.heap.size w (w.alloc (.cells #[.pointer (some ⟨g, 0, none⟩)] 37)) := (Below.refl _ _).alloc (Nat.le_refl _) _
  have HT := Lib.hid (h.below hB0)
  have HB0 := Lib.hid hB0
  have HE := Lib.hid (And.intro h1 h2)
  clear h h1 h2 hB0
  go_enter Try.func10, Try.ntmps10
  go_wp2_with fail
  refine (right_ok 20 (by decide) (by decide) _).mono ?_
  rintro r w1 ⟨rfl, rfl⟩
  go_wp2_with fail
  refine (miss2 HT.out HE.out.1 HE.out.2).mono ?_
  rintro r w1 ⟨rfl, hb⟩
  have HB1 := Lib.hid (HB0.out.trans (Below.mono hb HB0.out.size))
  clear hb
  go_wp2_with fail
  go_ret3
  exact ⟨by first | rfl | simp, HB1.out⟩
end
end Go.Proofs.Ytdpbfmookhgilaa
