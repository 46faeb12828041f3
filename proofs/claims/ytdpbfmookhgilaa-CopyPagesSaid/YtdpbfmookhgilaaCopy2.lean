import Derived.Test.YtdpbfmookhgilaaCopy1
import Derived.Deep.QuietTactic
import Derived.BigQuiet
import Derived.Deep.LoopGhost
import Derived.LoopN
import Derived.Maps.RangeWalk
/- Out of ten bytes; In of a page that is not there. -/
namespace Go.Proofs.Ytdpbfmookhgilaa
open Go.RowKit Go.BigFrame
set_option linter.unusedVariables false
set_option linter.unusedSimpArgs false
attribute [local go_sem] szIs_lit row_at row_past row_alloc nf_alloc row_set nf_set row_cell nf_cell row_drew nf_drew row_drewN nf_drewN cell_setRow frozen_setRow nlt1 nlt2 nlt3 nlt4 nne1 nne2 nne3 nen1 nen2 nen3
attribute [local go_sem] by_get by_set
def CM (mB bB g sb : Nat) (u : World) : Prop := Blk u mB #[.pointer (some ⟨g, 0, none⟩)] ∧ Blk u bB #[.slice (some ⟨sb, 0, none⟩) 10 10]
section
variable {w w' : World} {g b F t root mB bB sb : Nat} {M : Nat → Int} {L : Nat → Option Nat} {E : Nat → Int}
set_option maxHeartbeats 2000000 in
theorem out1_ok (hm : MP w g b F M) (hC : CM mB bB g sb w) (h1 : mB ≠ b) (h2 : bB ≠ b) (xs : List Int) (hl : xs.length = 10) (hx : ∀ x ∈ xs, isByte x) (hs : ∀ j v, xs[j]? = some v → w.cell? ⟨sb, j, none⟩ = some (.int .u8 v)) (a fr to_ : Nat) (hf : fr < to_) (ht : to_ ≤ 10) (ha : a + (to_ - fr) ≤ F * 256) :
    Calls Try.prog 18 #[.int .i64 (a : Int), .int .i64 (fr : Int), .int .i64 (to_ : Int), .pointer (some ⟨mB, 0, none⟩), .pointer (some ⟨bB, 0, none⟩)] w fun r w' => (∃ v, r = .returned v) ∧ MP w' g b F (putB M a ((xs.drop fr).take (to_ - fr))) ∧ w.grownBy w' (some b) := by
  have hlen : ((xs.drop fr).take (to_ - fr)).length = to_ - fr := by rw [List.length_take, List.length_drop, hl]; omega
  have HWD := Lib.hid (write_xs (hm.below (Below.refl _ _).drew) a (to_ - fr) ((xs.drop fr).take (to_ - fr)) hlen (by omega) ha ⟨sb, fr, none⟩ (10 - fr) (fun x hx' => hx x (List.mem_of_mem_drop (List.mem_of_mem_take hx'))) (fun j v hv => by
    rw [List.getElem?_take] at hv
    split at hv
    · rw [List.getElem?_drop] at hv
      rw [add_plain]; exact hs _ _ hv
    · cases hv))
  obtain ⟨A9, q1, q2, -⟩ := cut_lh byT sb 10 10 fr to_ (by omega) ht (by unfold maxLen; omega)
  obtain rfl := q2 (by omega)
  rw [Nat.mul_one] at q1
  have hcut : ∀ s : World, (Instr.slice 45 (.slice (some ⟨sb, 0, none⟩) 10 10) (some (.int .i64 (fr : Int))) (some (.int .i64 (to_ : Int))) none).run Try.prog s = .ok (.slice (some ⟨sb, fr, none⟩) (to_ - fr) (10 - fr)) s := q1
  have k0 : CM mB bB g sb w.drew := hC
  have HCU := Lib.hid (show ∀ u u', CM mB bB g sb u → u.grownBy u' (some b) → CM mB bB g sb u' from fun u u' h hg => ⟨h.1.only hg h.1.lt h1, h.2.only hg h.2.lt h2⟩)
  have HM := Lib.hid hm
  clear q1 q2 hm hC hs hx hlen ha
  generalize hys : (xs.drop fr).take (to_ - fr) = ys at *
  clear hys hl
  go_enter Try.func18, Try.ntmps18
  go_wp2_with fail
  refine wp_theta [6] [6] (fun i v => i = 6 → v = .int .i64 0) (fun ρ D u => CM mB bB g sb u ∧ (D 6 = false → u = w.drew) ∧ (D 6 = true → MP u g b F (putB M a ys) ∧ w.grownBy u (some b))) (CM mB bB g sb) ?_ ?_ ?_ ?_ ?_ ?_ ?_ ?_ ?_ ?_
  · kernel_rfl
  · kernel_rfl
  · kernel_rfl
  · kernel_rfl
  · kernel_rfl
  · kernel_rfl
  · exact fun i hi => ⟨_, fun _ => rfl⟩
  · exact ⟨k0, fun _ => rfl, by simp⟩
  · exact fun ρ D u h => h.1
  · intro θ hθ
    simp only [SegsT, List.take_succ_cons, List.take_zero, List.drop_succ_cons, List.drop_zero, Nat.sub_zero, Nat.reduceSub, Nat.reduceAdd, List.drop_nil, List.take_nil]
    haveI i1 : Nonempty (Wd (CM mB bB g sb)) := ⟨⟨_, k0⟩⟩
    have l1 : ∀ s : Wd (CM mB bB g sb), s.val.cell? ⟨mB, 0, none⟩ = some (.pointer (some ⟨g, 0, none⟩)) := fun s => (s.prop.1.all.2.2.1 0).trans rfl
    have l2 : ∀ s : Wd (CM mB bB g sb), s.val.cell? ⟨bB, 0, none⟩ = some (.slice (some ⟨sb, 0, none⟩) 10 10) := fun s => (s.prop.2.all.2.2.1 0).trans rfl
    have t6 := hθ 6 (by decide) rfl
    clear k0
    repeat (go_big_quiet_step (fail))
    refine wpQuiet_nil ?_
    rw [if_pos (by decide)]
    refine ⟨thOK_call [] [] 19 _ _ (by kernel_rfl) rfl (by kernel_rfl) #[.pointer (some ⟨g, 0, none⟩), .int .i64 (a : Int), .slice (some ⟨sb, fr, none⟩) (to_ - fr) (10 - fr)] (by kernel_rfl) (by kernel_rfl) (fun ρ D u hq hK => ?_), ?_⟩
    · have hu := hK.2.1 hq.now
      subst hu
      have hW : Calls Try.prog 19 #[.pointer (some ⟨g, 0, none⟩), .int .i64 (a : Int), .slice (some ⟨sb, fr, none⟩) (to_ - fr) (10 - fr)] w.drew _ := HWD.out
      refine hW.mono ?_
      rintro r u' ⟨rfl, q1, q2⟩
      exact ⟨_, rfl, fun _ => rfl, HCU.out _ _ hK.1 q2, by simp [upd], fun _ => ⟨q1, below_only_r (Below.refl _ _).drew q2⟩⟩
    rw [t6]
    try go_frame
    repeat (go_big_quiet_step (fail))
    refine wpQuiet_nil ?_
    intro u hK
    have HF := Lib.hid (hK.2.2 rfl)
    clear hK t6 l1 l2 i1 hθ
    go_wp2_with fail
    go_end0
    exact ⟨⟨_, rfl⟩, HF.out⟩
/-- A table over a memory, its frames from 16 on. -/
structure TM (w : World) (g b t : Nat) (M : Nat → Int) (root : Nat) (L : Nat → Option Nat) (E : Nat → Int) : Prop where
  mp : MP w g b 26 M
  tb : TB M 26 root L E
  ht : Blk w t (tabS g root)
  ne : t ≠ b
  r16 : 16 ≤ root
  r26 : root < 26
  l16 : ∀ k f, k < 4 → L k = some f → 16 ≤ f
theorem TM.ts (h : TM w g b t M root L E) : TS w g b 26 t root L E := ⟨⟨M, h.mp, h.tb⟩, h.ht, h.ne, h.r26⟩
theorem TM.below (h : TM w g b t M root L E) (hb : Below w.heap.size w w') : TM w' g b t M root L E := ⟨h.mp.below hb, h.tb, h.ht.below hb h.ht.lt, h.ne, h.r16, h.r26, h.l16⟩
theorem TM.put (h : TM w g b t M root L E) (a : Nat) (xs : List Int) (ha : a + xs.length ≤ 4096) (hm : MP w' g b 26 (putB M a xs)) (hg : w.grownBy w' (some b)) : TM w' g b t (putB M a xs) root L E :=
  ⟨hm, h.tb.far (fun i hi => by unfold putB; rw [if_neg (by omega)]) h.r16 h.l16, h.ht.only hg h.ht.lt h.ne, h.ne, h.r16, h.r26, h.l16⟩
def abc : List Int := [97, 98, 99, 100, 101, 102, 103, 104, 105, 106]
theorem putB_j (M : Nat → Int) : putB M 768 [103, 104, 105, 106] 771 = 106 := by simp [putB]
end
end Go.Proofs.Ytdpbfmookhgilaa
