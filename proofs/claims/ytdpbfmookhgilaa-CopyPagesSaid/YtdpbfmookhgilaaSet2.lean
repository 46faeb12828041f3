import Derived.Test.YtdpbfmookhgilaaModel
import Derived.Deep.QuietTactic
import Derived.BigQuiet
/- Set, every case; what it does to a table. -/
namespace Go.Proofs.Ytdpbfmookhgilaa
open Go.RowKit Go.BigFrame
set_option linter.unusedVariables false
set_option linter.unusedSimpArgs false
attribute [local go_sem] szIs_lit row_at row_past row_alloc nf_alloc row_set nf_set row_cell nf_cell row_drew nf_drew row_drewN nf_drewN cell_setRow frozen_setRow nlt1 nlt2 nlt3 nlt4 nne1 nne2 nne3 nen1 nen2 nen3
attribute [local go_sem] by_get by_set
section
variable {w w' : World} {g b F t root : Nat} {M2 : Nat → Int}
set_option maxHeartbeats 4000000 in
theorem set_put (h : MP w g b F M2) (ht : Blk w t (tabS g root)) (hne : t ≠ b) (hr : root < F) (p : Nat) (e spare : Int) (hp : p < 256) (h0 : 0 ≤ e) (h1 : e ≤ 4294967295) (hm : mayE F e = true) (hl : hasL M2 F root p = true) : Calls Try.prog 13 #[.pointer (some ⟨t, 0, none⟩), .int .i64 (p : Int), .int .u32 e, .int .i64 spare] w fun r w' => r = .returned (.tuple #[.bool false, .int .i64 0]) ∧ MP w' g b F (putM M2 root p e) ∧ Blk w' t (tabS g root) ∧ w.grownBy w' (some b) := by
  have HM := Lib.hid (made_ok ht)
  have HP := Lib.hid (page_yes (p : Int) (by omega) w)
  have HY := may_ok h ht e (by omega) h1
  rw [hm] at HY
  have HY := Lib.hid HY
  have HN := Lib.hid hne
  have HH := Lib.hid h
  have HT := Lib.hid ht
  have hp2 : putM M2 root p e = st32 M2 (leafF M2 root p * 256 + 4 * (p % 64)) e 4 := rfl
  rw [hp2]
  have hflt := leafF_lt h root p hl
  obtain ⟨lf, hlf⟩ : ∃ lf, leafF M2 root p = lf := ⟨_, rfl⟩
  have f1 := h.f1
  rw [hlf] at hflt
  rw [hlf]
  have HL2 := Lib.hid (And.intro hl hlf)
  have HL1 := Lib.hid hl
  obtain ⟨TT, hTT⟩ : ∃ TT : World → Prop, TT = fun u => Blk u t (tabS g root) := ⟨_, rfl⟩
  have htt : ∀ u, TT u → Blk u t (tabS g root) := fun u h => by rw [hTT] at h; exact h
  have htb : ∀ u, Blk u t (tabS g root) → TT u := fun u h => by rw [hTT]; exact h
  have HTT := Lib.hid htt
  have HTB := Lib.hid htb
  clear h ht hne htt htb hTT hm hp2 hlf hl
  go_enter Try.func13, Try.ntmps13
  go_wp2_with fail
  refine HM.out.mono ?_
  rintro r w' ⟨rfl, rfl⟩
  go_wp2_with fail
  refine HP.out.mono ?_
  rintro r w' ⟨rfl, rfl⟩
  go_wp2_with fail
  refine HY.out.mono ?_
  rintro r w1 ⟨rfl, hb1⟩
  have HB1 := Lib.hid hb1
  have hnd := needs_ok (HH.out.below hb1) (HT.out.below hb1 HT.out.lt) hr p hp
  rw [HL1.out] at hnd
  have HND := Lib.hid hnd
  clear hb1 hnd HM HP HY
  go_wp2_with fail
  refine HND.out.mono ?_
  rintro r w2 ⟨rfl, hb2⟩
  have HB2 := Lib.hid (HB1.out.trans (Below.mono hb2 HB1.out.size))
  have hm3 := HH.out.below HB2.out
  have ht3 := HT.out.below HB2.out HT.out.lt
  have hg3 := only_refl w2 b
  clear hb2 HND HL1
  obtain ⟨CC, hCC⟩ : ∃ CC : World → Prop, CC = fun u => MP u g b F M2 ∧ w.grownBy u (some b) := ⟨_, rfl⟩
  have hcc : ∀ u, CC u → MP u g b F M2 ∧ w.grownBy u (some b) := fun u h => by rw [hCC] at h; exact h
  have hcb : ∀ u u', CC u → Below u.heap.size u u' → CC u' := fun u u' h hb => by rw [hCC] at h ⊢; exact ⟨h.1.below hb, only_below h.2 hb⟩
  have ka : CC w2.drew := by rw [hCC]; exact ⟨hm3.below (Below.refl _ _).drew, only_below (below_only_r HB2.out hg3) (Below.refl _ _).drew⟩
  have k0 : TT w2.drew := HTB.out _ (ht3.below (Below.refl _ _).drew ht3.lt)
  obtain ⟨SC, hSC⟩ : ∃ SC : World → Prop, SC = fun u => MP u g b F (st32 M2 (lf * 256 + 4 * (p % 64)) e 4) ∧ w.grownBy u (some b) := ⟨_, rfl⟩
  have hsc : ∀ u, SC u → MP u g b F (st32 M2 (lf * 256 + 4 * (p % 64)) e 4) ∧ w.grownBy u (some b) := fun u h => by rw [hSC] at h; exact h
  have hsb : ∀ u, MP u g b F (st32 M2 (lf * 256 + 4 * (p % 64)) e 4) ∧ w.grownBy u (some b) → SC u := fun u h => by rw [hSC]; exact h
  have HCC := Lib.hid hcc
  have HCB := Lib.hid hcb
  have HSC := Lib.hid hsc
  have HSB := Lib.hid hsb
  have KA := Lib.hid ka
  clear hCC hSC hcc hsc hsb hcb hm3 ht3 hg3 HH HT HB1 HB2 ka
  go_wp2_with fail
  refine wp_theta [9] [9] (fun i v => i = 9 → v = .tuple #[.int .i64 (lf : Int), .bool true]) (fun ρ D u => TT u ∧ CC u) (TT) ?_ ?_ ?_ ?_ ?_ ?_ ?_ ?_ ?_ ?_
  · kernel_rfl
  · kernel_rfl
  · kernel_rfl
  · kernel_rfl
  · kernel_rfl
  · kernel_rfl
  · exact fun i hi => ⟨_, fun _ => rfl⟩
  · exact ⟨k0, KA.out⟩
  · exact fun ρ D u h => h.1
  · intro θ hθ
    simp only [SegsT, List.take_succ_cons, List.take_zero, List.drop_succ_cons, List.drop_zero, Nat.sub_zero, Nat.reduceSub, Nat.reduceAdd, List.drop_nil, List.take_nil]
    haveI i1 : Nonempty (Wd TT) := ⟨⟨_, k0⟩⟩
    have l0 : ∀ s : Wd TT, s.val.cell? ⟨t, 0, none⟩ = some (.pointer (some ⟨g, 0, none⟩)) := fun s => ((HTT.out _ s.prop).all.2.2.1 0).trans rfl
    have l1 : ∀ s : Wd TT, s.val.cell? ⟨t, 1, none⟩ = some (.int .i64 (root : Int)) := fun s => ((HTT.out _ s.prop).all.2.2.1 1).trans rfl
    clear k0
    have t9 := hθ 9 (by decide) rfl
    repeat (go_big_quiet_step (fail))
    refine wpQuiet_nil ?_
    rw [if_pos (by decide)]
    refine ⟨thOK_call [] [] 29 _ _ (by kernel_rfl) rfl (by kernel_rfl) #[.pointer (some ⟨g, 0, none⟩), .int .i64 (root : Int), .int .i64 (p : Int)] (by kernel_rfl) (by kernel_rfl) (fun ρ D u hq hK => ?_), ?_⟩
    · have := leaf_ok (HCC.out u hK.2).1 root p hr hp
      rw [HL2.out.1, HL2.out.2] at this
      refine this.mono ?_
      rintro r u' ⟨rfl, hb⟩
      have hT := HTT.out _ hK.1
      exact ⟨_, rfl, fun _ => rfl, HTB.out _ (hT.below hb hT.lt), HCB.out _ _ hK.2 hb⟩
    rw [t9]
    try go_frame
    repeat (go_big_quiet_step (fail))
    refine wpQuiet_nil ?_
    intro u hK
    have KA := Lib.hid (HCB.out _ _ hK.2 (Below.refl _ _).drew)
    have k0 : TT u.drew := HTB.out _ ((HTT.out _ hK.1).below (Below.refl _ _).drew (HTT.out _ hK.1).lt)
    clear hK t9 l0 l1 i1 hθ HL2
    go_wp2_with fail
    refine wp_theta [7, 9] [7, 9] (fun i v => (i = 7 → v = .int .i64 ((lf : Int) * 256 + 4 * ((p : Int) % 64))) ∧ (i = 9 → v = .int .i64 0)) (fun ρ D u => TT u ∧ (D 9 = true → SC u) ∧ (D 9 = false → CC u)) (TT) ?_ ?_ ?_ ?_ ?_ ?_ ?_ ?_ ?_ ?_
    · kernel_rfl
    · kernel_rfl
    · kernel_rfl
    · kernel_rfl
    · kernel_rfl
    · kernel_rfl
    · intro i hi; simp at hi; rcases hi with rfl | rfl; exact ⟨.int .i64 ((lf : Int) * 256 + 4 * ((p : Int) % 64)), by simp⟩; exact ⟨.int .i64 0, by simp⟩
    · exact ⟨k0, by simp, fun _ => KA.out⟩
    · exact fun ρ D u h => h.1
    · intro θ hθ
      simp only [SegsT, List.take_succ_cons, List.take_zero, List.drop_succ_cons, List.drop_zero, Nat.sub_zero, Nat.reduceSub, Nat.reduceAdd, List.drop_nil, List.take_nil]
      haveI i1 : Nonempty (Wd TT) := ⟨⟨_, k0⟩⟩
      have l0 : ∀ s : Wd TT, s.val.cell? ⟨t, 0, none⟩ = some (.pointer (some ⟨g, 0, none⟩)) := fun s => ((HTT.out _ s.prop).all.2.2.1 0).trans rfl
      have l1 : ∀ s : Wd TT, s.val.cell? ⟨t, 1, none⟩ = some (.int .i64 (root : Int)) := fun s => ((HTT.out _ s.prop).all.2.2.1 1).trans rfl
      clear k0
      have t7 := (hθ 7 (by decide)).1 rfl
      have t9 := (hθ 9 (by decide)).2 rfl
      repeat (go_big_quiet_step (fail))
      refine wpQuiet_nil ?_
      rw [if_pos (by decide)]
      refine ⟨thOK_call [] [9] 31 _ _ (by kernel_rfl) rfl (by kernel_rfl) #[.int .i64 (lf : Int), .int .i64 (p : Int)] (by kernel_rfl) (by kernel_rfl) (fun ρ D u hq hK => ?_), ?_⟩
      · have h9 := hq.not 9 (by simp)
        refine (at_ok (lf : Int) (p : Int) (by omega) (by omega) u).mono ?_
        rintro r u' ⟨rfl, rfl⟩
        exact ⟨_, rfl, by simp, hK.1, by simp [upd, h9], fun _ => hK.2.2 h9⟩
      rw [t7]
      try go_frame
      repeat (go_big_quiet_step (fail))
      refine wpQuiet_nil ?_
      rw [if_pos (by decide)]
      refine ⟨thOK_call [7] [] 30 _ _ (by kernel_rfl) rfl (by kernel_rfl) #[.pointer (some ⟨g, 0, none⟩), .int .i64 ((lf : Int) * 256 + 4 * ((p : Int) % 64)), .int .u32 e] (by kernel_rfl) (by kernel_rfl) (fun ρ D u hq hK => ?_), ?_⟩
      · have h9 := hq.now
        obtain ⟨q1, q2⟩ := HCC.out _ (hK.2.2 h9)
        have hst := q1.store (lf * 256 + 4 * (p % 64)) e (by omega) (by omega) (by omega)
        rw [show ((lf * 256 + 4 * (p % 64) : Nat) : Int) = (lf : Int) * 256 + 4 * ((p : Int) % 64) by omega] at hst
        refine hst.mono ?_
        rintro r u' ⟨rfl, r2, r3⟩
        have hT := HTT.out _ hK.1
        exact ⟨_, rfl, by simp, HTB.out _ (hT.only r3 hT.lt HN.out), fun _ => HSB.out _ ⟨r2, only_trans q2 r3⟩, by simp [upd]⟩
      rw [t9]
      try go_frame
      repeat (go_big_quiet_step (fail))
      refine wpQuiet_nil ?_
      intro u hK
      have HB := Lib.hid (HSC.out u (hK.2.1 rfl))
      have HTE := Lib.hid (HTT.out u hK.1)
      clear hK t7 t9 l0 l1 i1 hθ HCC HSC HSB HTT HTB HCB
      go_wp2
      go_ret2
      exact ⟨by first | rfl | simp, HB.out.1, HTE.out, HB.out.2⟩
set_option maxHeartbeats 1000000 in
theorem set_none (h : MP w g b F M2) (ht : Blk w t (tabS g root)) (hne : t ≠ b) (hr : root < F) (p : Nat) (e spare : Int) (hp : p < 256) (h0 : 0 ≤ e) (h1 : e ≤ 4294967295) (hm : mayE F e = true) (hl : hasL M2 F root p = false) (hz : e = 0) : Calls Try.prog 13 #[.pointer (some ⟨t, 0, none⟩), .int .i64 (p : Int), .int .u32 e, .int .i64 spare] w fun r w' => r = .returned (.tuple #[.bool false, .int .i64 0]) ∧ Below w.heap.size w w' := by
  have HM := Lib.hid (made_ok ht)
  have HP := Lib.hid (page_yes (p : Int) (by omega) w)
  have HY := may_ok h ht e (by omega) h1
  rw [hm] at HY
  have HY := Lib.hid HY
  have HN := Lib.hid hne
  have HH := Lib.hid h
  have HT := Lib.hid ht
  have HL1 := Lib.hid hl
  subst hz
  clear h ht hne hm hl
  go_enter Try.func13, Try.ntmps13
  go_wp2_with fail
  refine HM.out.mono ?_
  rintro r w' ⟨rfl, rfl⟩
  go_wp2_with fail
  refine HP.out.mono ?_
  rintro r w' ⟨rfl, rfl⟩
  go_wp2_with fail
  refine HY.out.mono ?_
  rintro r w1 ⟨rfl, hb1⟩
  have HB1 := Lib.hid hb1
  have hnd := needs_ok (HH.out.below hb1) (HT.out.below hb1 HT.out.lt) hr p hp
  rw [HL1.out] at hnd
  have HND := Lib.hid hnd
  clear hb1 hnd HM HP HY
  go_wp2_with fail
  refine HND.out.mono ?_
  rintro r w2 ⟨rfl, hb2⟩
  have HB2 := Lib.hid (HB1.out.trans (Below.mono hb2 HB1.out.size))
  clear hb2 HND
  go_wp2
  go_ret2
  exact ⟨by first | rfl | simp, HB2.out⟩
set_option maxHeartbeats 1000000 in
theorem set_neg (h : MP w g b F M2) (ht : Blk w t (tabS g root)) (hne : t ≠ b) (hr : root < F) (p : Nat) (e spare : Int) (hp : p < 256) (h0 : 0 ≤ e) (h1 : e ≤ 4294967295) (hm : mayE F e = true) (hl : hasL M2 F root p = false) (hz : e ≠ 0) (hs : spare < 0) : Calls Try.prog 13 #[.pointer (some ⟨t, 0, none⟩), .int .i64 (p : Int), .int .u32 e, .int .i64 spare] w fun r w' => r = .returned (.tuple #[.bool false, .int .i64 2]) ∧ Below w.heap.size w w' := by
  have HM := Lib.hid (made_ok ht)
  have HP := Lib.hid (page_yes (p : Int) (by omega) w)
  have HY := may_ok h ht e (by omega) h1
  rw [hm] at HY
  have HY := Lib.hid HY
  have HN := Lib.hid hne
  have HH := Lib.hid h
  have HT := Lib.hid ht
  have HL1 := Lib.hid hl
  have hez : (e == 0) = false := by
    have : ¬ e = 0 := by omega
    simpa using this
  have HS := Lib.hid hs
  clear h ht hne hm hl hs
  go_enter Try.func13, Try.ntmps13
  go_wp2_with fail
  refine HM.out.mono ?_
  rintro r w' ⟨rfl, rfl⟩
  go_wp2_with fail
  refine HP.out.mono ?_
  rintro r w' ⟨rfl, rfl⟩
  go_wp2_with fail
  refine HY.out.mono ?_
  rintro r w1 ⟨rfl, hb1⟩
  have HB1 := Lib.hid hb1
  have hnd := needs_ok (HH.out.below hb1) (HT.out.below hb1 HT.out.lt) hr p hp
  rw [HL1.out] at hnd
  have HND := Lib.hid hnd
  clear hb1 hnd HM HP HY
  go_wp2_with fail
  refine HND.out.mono ?_
  rintro r w2 ⟨rfl, hb2⟩
  have HB2 := Lib.hid (HB1.out.trans (Below.mono hb2 HB1.out.size))
  clear hb2 HND
  have HGR := Lib.hid (grow_neg (p : Int) spare HS.out (.pointer (some ⟨t, 0, none⟩)) w2)
  go_wp2_with fail
  refine HGR.out.mono ?_
  rintro r w' ⟨rfl, rfl⟩
  go_wp2
  go_ret2
  exact ⟨by first | rfl | simp, HB2.out⟩
set_option maxHeartbeats 1000000 in
theorem set_far (h : MP w g b F M2) (ht : Blk w t (tabS g root)) (hne : t ≠ b) (hr : root < F) (p : Nat) (e spare : Int) (hp : p < 256) (h0 : 0 ≤ e) (h1 : e ≤ 4294967295) (hm : mayE F e = true) (hl : hasL M2 F root p = false) (hz : e ≠ 0) (hs : (F : Int) ≤ spare) : Calls Try.prog 13 #[.pointer (some ⟨t, 0, none⟩), .int .i64 (p : Int), .int .u32 e, .int .i64 spare] w fun r w' => r = .returned (.tuple #[.bool false, .int .i64 10]) ∧ Below w.heap.size w w' := by
  have HM := Lib.hid (made_ok ht)
  have HP := Lib.hid (page_yes (p : Int) (by omega) w)
  have HY := may_ok h ht e (by omega) h1
  rw [hm] at HY
  have HY := Lib.hid HY
  have HN := Lib.hid hne
  have HH := Lib.hid h
  have HT := Lib.hid ht
  have HL1 := Lib.hid hl
  have hez : (e == 0) = false := by
    have : ¬ e = 0 := by omega
    simpa using this
  have HS := Lib.hid hs
  clear h ht hne hm hl hs
  go_enter Try.func13, Try.ntmps13
  go_wp2_with fail
  refine HM.out.mono ?_
  rintro r w' ⟨rfl, rfl⟩
  go_wp2_with fail
  refine HP.out.mono ?_
  rintro r w' ⟨rfl, rfl⟩
  go_wp2_with fail
  refine HY.out.mono ?_
  rintro r w1 ⟨rfl, hb1⟩
  have HB1 := Lib.hid hb1
  have hnd := needs_ok (HH.out.below hb1) (HT.out.below hb1 HT.out.lt) hr p hp
  rw [HL1.out] at hnd
  have HND := Lib.hid hnd
  clear hb1 hnd HM HP HY
  go_wp2_with fail
  refine HND.out.mono ?_
  rintro r w2 ⟨rfl, hb2⟩
  have HB2 := Lib.hid (HB1.out.trans (Below.mono hb2 HB1.out.size))
  clear hb2 HND
  have HGR := Lib.hid (grow_far (HH.out.below HB2.out) (HT.out.below HB2.out HT.out.lt) (p : Int) spare HS.out)
  go_wp2_with fail
  refine HGR.out.mono ?_
  rintro r w' ⟨rfl, rfl⟩
  go_wp2
  go_ret2
  exact ⟨by first | rfl | simp, HB2.out⟩
end
end Go.Proofs.Ytdpbfmookhgilaa
