import Derived.Test.YtdpbfmookhgilaaTab2
import Derived.Deep.QuietTactic
import Derived.BigQuiet
/- grow, Set, Translate, All. -/
namespace Go.Proofs.Ytdpbfmookhgilaa
open Go.RowKit Go.BigFrame
set_option linter.unusedVariables false
set_option linter.unusedSimpArgs false
attribute [local go_sem] szIs_lit row_at row_past row_alloc nf_alloc row_set nf_set row_cell nf_cell row_drew nf_drew row_drewN nf_drewN cell_setRow frozen_setRow nlt1 nlt2 nlt3 nlt4 nne1 nne2 nne3 nen1 nen2 nen3
attribute [local go_sem] by_get by_set
def growM (M : Nat → Int) (root p spare : Nat) : Nat → Int := st32 (zf M (spare * 256) 256) (root * 256 + 4 * (p / 64)) ((spare : Int) * 256 + 1) 4
def putM (M : Nat → Int) (root p : Nat) (e : Int) : Nat → Int := st32 M (leafF M root p * 256 + 4 * (p % 64)) e 4
section
variable {w w' : World} {g b F t root : Nat} {M : Nat → Int}
theorem grow_neg (p : Int) (spare : Int) (hs : spare < 0) (v : Value) (w : World) : Calls Try.prog 28 #[v, .int .i64 p, .int .i64 spare] w fun r w' => r = .returned (.int .i64 2) ∧ w = w' := by
  go_enter Try.func28, Try.ntmps28
  go_wp2
  go_ret
  exact ⟨by first | rfl | simp, rfl⟩
theorem grow_far (h : MP w g b F M) (ht : Blk w t (tabS g root)) (p : Int) (spare : Int) (hs : (F : Int) ≤ spare) : Calls Try.prog 28 #[.pointer (some ⟨t, 0, none⟩), .int .i64 p, .int .i64 spare] w fun r w' => r = .returned (.int .i64 10) ∧ w = w' := by
  have HZ := Lib.hid (zero_no h spare (by omega))
  have c0 : w.cell? ⟨t, 0, none⟩ = some (.pointer (some ⟨g, 0, none⟩)) := (ht.all.2.2.1 0).trans rfl
  have hs0 : 0 ≤ spare := by omega
  clear h ht hs
  go_enter Try.func28, Try.ntmps28
  go_wp2_with fail
  refine HZ.out.mono ?_
  rintro r w' ⟨rfl, rfl⟩
  go_wp2
  go_ret
  exact ⟨by first | rfl | simp, rfl⟩
set_option maxHeartbeats 2000000 in
theorem grow_ok (h : MP w g b F M) (ht : Blk w t (tabS g root)) (hne : t ≠ b) (hr : root < F) (p spare : Nat) (hp : p < 256) (hs : spare < F) : Calls Try.prog 28 #[.pointer (some ⟨t, 0, none⟩), .int .i64 (p : Int), .int .i64 (spare : Int)] w fun r w' => r = .returned (.int .i64 0) ∧ MP w' g b F (growM M root p spare) ∧ Blk w' t (tabS g root) ∧ w.grownBy w' (some b) := by
  have HZ := Lib.hid (zero_ok h spare hs)
  have HN := Lib.hid hne
  have c0 : w.cell? ⟨t, 0, none⟩ = some (.pointer (some ⟨g, 0, none⟩)) := (ht.all.2.2.1 0).trans rfl
  have f1 := h.f1
  have HT := Lib.hid ht
  obtain ⟨TT, hTT⟩ : ∃ TT : World → Prop, TT = fun u => Blk u t (tabS g root) := ⟨_, rfl⟩
  have htt : ∀ u, TT u → Blk u t (tabS g root) := fun u h => by rw [hTT] at h; exact h
  have htb : ∀ u, Blk u t (tabS g root) → TT u := fun u h => by rw [hTT]; exact h
  have HTT := Lib.hid htt
  have HTB := Lib.hid htb
  clear h ht hne htt htb hTT
  go_enter Try.func28, Try.ntmps28
  go_wp2_with fail
  refine HZ.out.mono ?_
  rintro r w1 ⟨rfl, hm1, hg1⟩
  have hT1 := HT.out.only hg1 HT.out.lt HN.out
  have c1 : w1.cell? ⟨t, 0, none⟩ = some (.pointer (some ⟨g, 0, none⟩)) := (hT1.all.2.2.1 0).trans rfl
  have k0 : TT w1.drew := HTB.out _ (hT1.below (Below.refl _ _).drew hT1.lt)
  have ka : MP w1.drew g b F (zf M (spare * 256) 256) ∧ w.grownBy w1.drew (some b) := ⟨hm1.below (Below.refl _ _).drew, only_below hg1 (Below.refl _ _).drew⟩
  obtain ⟨CC, hCC⟩ : ∃ CC : World → Prop, CC = fun u => MP u g b F (zf M (spare * 256) 256) ∧ w.grownBy u (some b) := ⟨_, rfl⟩
  have hcc : ∀ u, CC u → MP u g b F (zf M (spare * 256) 256) ∧ w.grownBy u (some b) := fun u h => by rw [hCC] at h; exact h
  have ka : CC w1.drew := by rw [hCC]; exact ka
  obtain ⟨SC, hSC⟩ : ∃ SC : World → Prop, SC = fun u => MP u g b F (growM M root p spare) ∧ w.grownBy u (some b) := ⟨_, rfl⟩
  have hsc : ∀ u, SC u → MP u g b F (growM M root p spare) ∧ w.grownBy u (some b) := fun u h => by rw [hSC] at h; exact h
  have hsb : ∀ u, MP u g b F (growM M root p spare) ∧ w.grownBy u (some b) → SC u := fun u h => by rw [hSC]; exact h
  have HCC := Lib.hid hcc
  have HSC := Lib.hid hsc
  have HSB := Lib.hid hsb
  clear hCC hSC hcc hsc hsb hm1 hg1 hT1 HZ HT
  go_wp2_with fail
  refine wp_theta [14, 15] [14, 15] (fun i v => (i = 14 → v = .int .u32 ((spare : Int) * 256 + 1)) ∧ (i = 15 → v = .int .i64 0)) (fun ρ D u => TT u ∧ (D 15 = true → SC u) ∧ (D 15 = false → CC u)) (TT) ?_ ?_ ?_ ?_ ?_ ?_ ?_ ?_ ?_ ?_
  · kernel_rfl
  · kernel_rfl
  · kernel_rfl
  · kernel_rfl
  · kernel_rfl
  · kernel_rfl
  · intro i hi; simp at hi; rcases hi with rfl | rfl; exact ⟨.int .u32 ((spare : Int) * 256 + 1), by simp⟩; exact ⟨.int .i64 0, by simp⟩
  · exact ⟨k0, by simp, fun _ => ka⟩
  · exact fun ρ D u h => h.1
  · intro θ hθ
    simp only [SegsT, List.take_succ_cons, List.take_zero, List.drop_succ_cons, List.drop_zero, Nat.sub_zero, Nat.reduceSub, Nat.reduceAdd, List.drop_nil, List.take_nil]
    haveI i1 : Nonempty (Wd TT) := ⟨⟨_, k0⟩⟩
    have l0 : ∀ s : Wd TT, s.val.cell? ⟨t, 0, none⟩ = some (.pointer (some ⟨g, 0, none⟩)) := fun s => ((HTT.out _ s.prop).all.2.2.1 0).trans rfl
    have l1 : ∀ s : Wd TT, s.val.cell? ⟨t, 1, none⟩ = some (.int .i64 (root : Int)) := fun s => ((HTT.out _ s.prop).all.2.2.1 1).trans rfl
    clear k0
    clear ka
    have t14 := (hθ 14 (by decide)).1 rfl
    have t15 := (hθ 15 (by decide)).2 rfl
    repeat (go_big_quiet_step (fail))
    refine wpQuiet_nil ?_
    rw [if_pos (by decide)]
    refine ⟨thOK_call [] [15] 39 _ _ (by kernel_rfl) rfl (by kernel_rfl) #[.int .i64 (spare : Int), .int .i64 1] (by kernel_rfl) (by kernel_rfl) (fun ρ D u hq hK => ?_), ?_⟩
    · have h15 := hq.not 15 (by simp)
      refine (pack_ok (spare : Int) 1 (by omega) (by omega) (by omega) (by omega) u).mono ?_
      rintro r u' ⟨rfl, rfl⟩
      exact ⟨_, rfl, by simp, hK.1, by simp [upd, h15], fun _ => hK.2.2 h15⟩
    rw [t14]
    try go_frame
    repeat (go_big_quiet_step (fail))
    refine wpQuiet_nil ?_
    rw [if_pos (by decide)]
    refine ⟨thOK_call [14] [] 30 _ _ (by kernel_rfl) rfl (by kernel_rfl) #[.pointer (some ⟨g, 0, none⟩), .int .i64 ((root : Int) * 256 + 4 * ((p : Int) / 64)), .int .u32 ((spare : Int) * 256 + 1)] (by kernel_rfl) (by kernel_rfl) (fun ρ D u hq hK => ?_), ?_⟩
    · have h15 := hq.now
      obtain ⟨q1, q2⟩ := HCC.out _ (hK.2.2 h15)
      have hst := q1.store (root * 256 + 4 * (p / 64)) ((spare : Int) * 256 + 1) (by omega) (by omega) (by omega)
      rw [show ((root * 256 + 4 * (p / 64) : Nat) : Int) = (root : Int) * 256 + 4 * ((p : Int) / 64) by omega] at hst
      refine hst.mono ?_
      rintro r u' ⟨rfl, r2, r3⟩
      have hT := HTT.out _ hK.1
      exact ⟨_, rfl, by simp, HTB.out _ (hT.only r3 hT.lt HN.out), fun _ => HSB.out _ ⟨r2, only_trans q2 r3⟩, by simp [upd]⟩
    rw [t15]
    try go_frame
    repeat (go_big_quiet_step (fail))
    refine wpQuiet_nil ?_
    intro u hK
    have HB := Lib.hid (HSC.out u (hK.2.1 rfl))
    have HTE := Lib.hid (HTT.out u hK.1)
    clear hK t14 t15 l0 l1 i1 hθ HCC HSC HSB HTT HTB
    go_wp2
    go_ret
    exact ⟨by first | rfl | simp, HB.out.1, HTE.out, HB.out.2⟩
end
end Go.Proofs.Ytdpbfmookhgilaa
