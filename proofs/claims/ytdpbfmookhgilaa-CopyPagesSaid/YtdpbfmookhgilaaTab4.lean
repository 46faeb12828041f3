import Derived.Test.YtdpbfmookhgilaaTab3
import Derived.Deep.QuietTactic
import Derived.BigQuiet
/- Set, Translate, All. -/
namespace Go.Proofs.Ytdpbfmookhgilaa
open Go.RowKit Go.BigFrame
set_option linter.unusedVariables false
set_option linter.unusedSimpArgs false
attribute [local go_sem] szIs_lit row_at row_past row_alloc nf_alloc row_set nf_set row_cell nf_cell row_drew nf_drew row_drewN nf_drewN cell_setRow frozen_setRow nlt1 nlt2 nlt3 nlt4 nne1 nne2 nne3 nen1 nen2 nen3
attribute [local go_sem] by_get by_set
section
variable {w w' : World} {g b F t root : Nat} {M : Nat → Int}
theorem set_nil (p e spare : Int) (w : World) : Calls Try.prog 13 #[.pointer none, .int .i64 p, .int .u32 e, .int .i64 spare] w fun r w' => r = .returned (.tuple #[.bool false, .int .i64 6]) ∧ w = w' := by
  have HM := Lib.hid (made_nil w)
  go_enter Try.func13, Try.ntmps13
  go_wp2_with fail
  refine HM.out.mono ?_
  rintro r w' ⟨rfl, rfl⟩
  go_wp2
  go_ret2
  exact ⟨by first | rfl | simp, rfl⟩
theorem set_page (ht : Blk w t (tabS g root)) (p e spare : Int) (hp : ¬ (0 ≤ p ∧ p < 256)) : Calls Try.prog 13 #[.pointer (some ⟨t, 0, none⟩), .int .i64 p, .int .u32 e, .int .i64 spare] w fun r w' => r = .returned (.tuple #[.bool false, .int .i64 1]) ∧ w = w' := by
  have HM := Lib.hid (made_ok ht)
  have HP := Lib.hid (page_no p hp w)
  clear ht hp
  go_enter Try.func13, Try.ntmps13
  go_wp2_with fail
  refine HM.out.mono ?_
  rintro r w' ⟨rfl, rfl⟩
  go_wp2_with fail
  refine HP.out.mono ?_
  rintro r w' ⟨rfl, rfl⟩
  go_wp2
  go_ret2
  exact ⟨by first | rfl | simp, rfl⟩
theorem set_may (h : MP w g b F M) (ht : Blk w t (tabS g root)) (p : Nat) (e spare : Int) (hp : p < 256) (h0 : 0 ≤ e) (h1 : e ≤ 4294967295) (hm : mayE F e = false) : Calls Try.prog 13 #[.pointer (some ⟨t, 0, none⟩), .int .i64 (p : Int), .int .u32 e, .int .i64 spare] w fun r w' => r = .returned (.tuple #[.bool false, .int .i64 50]) ∧ Below w.heap.size w w' := by
  have HM := Lib.hid (made_ok ht)
  have HP := Lib.hid (page_yes (p : Int) (by omega) w)
  have HY := may_ok h ht e h0 h1
  rw [hm] at HY
  have HY := Lib.hid HY
  clear ht hp h hm
  go_enter Try.func13, Try.ntmps13
  go_wp2_with fail
  refine HM.out.mono ?_
  rintro r w' ⟨rfl, rfl⟩
  go_wp2_with fail
  refine HP.out.mono ?_
  rintro r w' ⟨rfl, rfl⟩
  go_wp2_with fail
  refine HY.out.mono ?_
  rintro r w1 ⟨rfl, hb1⟩
  have HB := Lib.hid hb1
  clear hb1
  go_wp2
  go_ret2
  exact ⟨by first | rfl | simp, HB.out⟩
set_option maxHeartbeats 4000000 in
/-- No leaf yet: a spare frame becomes it. -/
theorem set_grow (h : MP w g b F M) (ht : Blk w t (tabS g root)) (hne : t ≠ b) (hr : root < F) (p spare : Nat) (e : Int) (hp : p < 256) (h0 : 0 < e) (h1 : e ≤ 4294967295) (hm : mayE F e = true) (hl : hasL M F root p = false) (hs : spare < F) (hl2 : hasL (growM M root p spare) F root p = true) : Calls Try.prog 13 #[.pointer (some ⟨t, 0, none⟩), .int .i64 (p : Int), .int .u32 e, .int .i64 (spare : Int)] w fun r w' => r = .returned (.tuple #[.bool true, .int .i64 0]) ∧ MP w' g b F (putM (growM M root p spare) root p e) ∧ Blk w' t (tabS g root) ∧ w.grownBy w' (some b) := by
  have HM := Lib.hid (made_ok ht)
  have HP := Lib.hid (page_yes (p : Int) (by omega) w)
  have HY := may_ok h ht e (by omega) h1
  rw [hm] at HY
  have HY := Lib.hid HY
  have HN := Lib.hid hne
  have HH := Lib.hid h
  have HT := Lib.hid ht
  have hez : (e == 0) = false := by
    have : ¬ e = 0 := by omega
    simpa using this
  have hp2 : putM (growM M root p spare) root p e = st32 (growM M root p spare) (leafF (growM M root p spare) root p * 256 + 4 * (p % 64)) e 4 := rfl
  rw [hp2]
  obtain ⟨lf, hlf⟩ : ∃ lf, leafF (growM M root p spare) root p = lf := ⟨_, rfl⟩
  have f1 := h.f1
  have hflt : lf < F := by
    have hr := le32_rng (st32_byte _ (root * 256 + 4 * (p / 64)) ((spare : Int) * 256 + 1) 4 (zf_byte h.by_ (spare * 256) 256)) (root * 256 + 4 * (p / 64))
    have hl3 := hl2
    unfold hasL rootW growM at hl3
    simp only [Bool.and_eq_true, decide_eq_true_eq] at hl3
    unfold leafF rootW growM at hlf
    omega
  rw [hlf]
  obtain ⟨M2, hM2⟩ : ∃ M2, growM M root p spare = M2 := ⟨_, rfl⟩
  rw [hM2]
  rw [hM2] at hlf hl2
  have HM2 := Lib.hid hM2
  have HL2 := Lib.hid (And.intro hl2 hlf)
  have HL1 := Lib.hid hl
  obtain ⟨TT, hTT⟩ : ∃ TT : World → Prop, TT = fun u => Blk u t (tabS g root) := ⟨_, rfl⟩
  have htt : ∀ u, TT u → Blk u t (tabS g root) := fun u h => by rw [hTT] at h; exact h
  have htb : ∀ u, Blk u t (tabS g root) → TT u := fun u h => by rw [hTT]; exact h
  have HTT := Lib.hid htt
  have HTB := Lib.hid htb
  clear h ht hne htt htb hTT hm hp2 hlf hl2 hl hM2
  go_enter Try.func13, Try.ntmps13
  go_wp2_with fail
  refine HM.out.mono ?_
  rintro r w' ⟨rfl, rfl⟩
  go_wp2_with fail
  refine HP.out.mono ?_
  rintro r w' ⟨rfl, rfl⟩
  go_wp2_with fail
  refine HY.out.mono ?_
  rintro r w1 ⟨rfl, hb1⟩
  have HB1 := Lib.hid hb1
  have hnd := needs_ok (HH.out.below hb1) (HT.out.below hb1 HT.out.lt) hr p hp
  rw [HL1.out] at hnd
  have HND := Lib.hid hnd
  clear hb1 hnd HM HP HY
  go_wp2_with fail
  refine HND.out.mono ?_
  rintro r w2 ⟨rfl, hb2⟩
  have HB2 := Lib.hid (HB1.out.trans (Below.mono hb2 HB1.out.size))
  have hgr := grow_ok (HH.out.below HB2.out) (HT.out.below HB2.out HT.out.lt) HN.out hr p spare hp hs
  rw [HM2.out] at hgr
  have HGR := Lib.hid hgr
  clear hb2 HND hgr
  go_wp2_with fail
  refine HGR.out.mono ?_
  rintro r w3 ⟨rfl, hm3, ht3, hg3⟩
  obtain ⟨CC, hCC⟩ : ∃ CC : World → Prop, CC = fun u => MP u g b F M2 ∧ w.grownBy u (some b) := ⟨_, rfl⟩
  have hcc : ∀ u, CC u → MP u g b F M2 ∧ w.grownBy u (some b) := fun u h => by rw [hCC] at h; exact h
  have hcb : ∀ u u', CC u → Below u.heap.size u u' → CC u' := fun u u' h hb => by rw [hCC] at h ⊢; exact ⟨h.1.below hb, only_below h.2 hb⟩
  have ka : CC w3.drew := by rw [hCC]; exact ⟨hm3.below (Below.refl _ _).drew, only_below (below_only_r HB2.out hg3) (Below.refl _ _).drew⟩
  have k0 : TT w3.drew := HTB.out _ (ht3.below (Below.refl _ _).drew ht3.lt)
  obtain ⟨SC, hSC⟩ : ∃ SC : World → Prop, SC = fun u => MP u g b F (st32 M2 (lf * 256 + 4 * (p % 64)) e 4) ∧ w.grownBy u (some b) := ⟨_, rfl⟩
  have hsc : ∀ u, SC u → MP u g b F (st32 M2 (lf * 256 + 4 * (p % 64)) e 4) ∧ w.grownBy u (some b) := fun u h => by rw [hSC] at h; exact h
  have hsb : ∀ u, MP u g b F (st32 M2 (lf * 256 + 4 * (p % 64)) e 4) ∧ w.grownBy u (some b) → SC u := fun u h => by rw [hSC]; exact h
  have HCC := Lib.hid hcc
  have HCB := Lib.hid hcb
  have HSC := Lib.hid hsc
  have HSB := Lib.hid hsb
  have KA := Lib.hid ka
  clear hCC hSC hcc hsc hsb hcb hm3 ht3 hg3 HH HT HGR HL1 HB1 HB2 HM2 ka
  go_wp2_with fail
  refine wp_theta [9] [9] (fun i v => i = 9 → v = .tuple #[.int .i64 (lf : Int), .bool true]) (fun ρ D u => TT u ∧ CC u) (TT) ?_ ?_ ?_ ?_ ?_ ?_ ?_ ?_ ?_ ?_
  · kernel_rfl
  · kernel_rfl
  · kernel_rfl
  · kernel_rfl
  · kernel_rfl
  · kernel_rfl
  · exact fun i hi => ⟨_, fun _ => rfl⟩
  · exact ⟨k0, KA.out⟩
  · exact fun ρ D u h => h.1
  · intro θ hθ
    simp only [SegsT, List.take_succ_cons, List.take_zero, List.drop_succ_cons, List.drop_zero, Nat.sub_zero, Nat.reduceSub, Nat.reduceAdd, List.drop_nil, List.take_nil]
    haveI i1 : Nonempty (Wd TT) := ⟨⟨_, k0⟩⟩
    have l0 : ∀ s : Wd TT, s.val.cell? ⟨t, 0, none⟩ = some (.pointer (some ⟨g, 0, none⟩)) := fun s => ((HTT.out _ s.prop).all.2.2.1 0).trans rfl
    have l1 : ∀ s : Wd TT, s.val.cell? ⟨t, 1, none⟩ = some (.int .i64 (root : Int)) := fun s => ((HTT.out _ s.prop).all.2.2.1 1).trans rfl
    clear k0
    have t9 := hθ 9 (by decide) rfl
    repeat (go_big_quiet_step (fail))
    refine wpQuiet_nil ?_
    rw [if_pos (by decide)]
    refine ⟨thOK_call [] [] 29 _ _ (by kernel_rfl) rfl (by kernel_rfl) #[.pointer (some ⟨g, 0, none⟩), .int .i64 (root : Int), .int .i64 (p : Int)] (by kernel_rfl) (by kernel_rfl) (fun ρ D u hq hK => ?_), ?_⟩
    · have := leaf_ok (HCC.out u hK.2).1 root p hr hp
      rw [HL2.out.1, HL2.out.2] at this
      refine this.mono ?_
      rintro r u' ⟨rfl, hb⟩
      have hT := HTT.out _ hK.1
      exact ⟨_, rfl, fun _ => rfl, HTB.out _ (hT.below hb hT.lt), HCB.out _ _ hK.2 hb⟩
    rw [t9]
    try go_frame
    repeat (go_big_quiet_step (fail))
    refine wpQuiet_nil ?_
    intro u hK
    have KA := Lib.hid (HCB.out _ _ hK.2 (Below.refl _ _).drew)
    have k0 : TT u.drew := HTB.out _ ((HTT.out _ hK.1).below (Below.refl _ _).drew (HTT.out _ hK.1).lt)
    clear hK t9 l0 l1 i1 hθ HL2
    go_wp2_with fail
    refine wp_theta [7, 9] [7, 9] (fun i v => (i = 7 → v = .int .i64 ((lf : Int) * 256 + 4 * ((p : Int) % 64))) ∧ (i = 9 → v = .int .i64 0)) (fun ρ D u => TT u ∧ (D 9 = true → SC u) ∧ (D 9 = false → CC u)) (TT) ?_ ?_ ?_ ?_ ?_ ?_ ?_ ?_ ?_ ?_
    · kernel_rfl
    · kernel_rfl
    · kernel_rfl
    · kernel_rfl
    · kernel_rfl
    · kernel_rfl
    · intro i hi; simp at hi; rcases hi with rfl | rfl; exact ⟨.int .i64 ((lf : Int) * 256 + 4 * ((p : Int) % 64)), by simp⟩; exact ⟨.int .i64 0, by simp⟩
    · exact ⟨k0, by simp, fun _ => KA.out⟩
    · exact fun ρ D u h => h.1
    · intro θ hθ
      simp only [SegsT, List.take_succ_cons, List.take_zero, List.drop_succ_cons, List.drop_zero, Nat.sub_zero, Nat.reduceSub, Nat.reduceAdd, List.drop_nil, List.take_nil]
      haveI i1 : Nonempty (Wd TT) := ⟨⟨_, k0⟩⟩
      have l0 : ∀ s : Wd TT, s.val.cell? ⟨t, 0, none⟩ = some (.pointer (some ⟨g, 0, none⟩)) := fun s => ((HTT.out _ s.prop).all.2.2.1 0).trans rfl
      have l1 : ∀ s : Wd TT, s.val.cell? ⟨t, 1, none⟩ = some (.int .i64 (root : Int)) := fun s => ((HTT.out _ s.prop).all.2.2.1 1).trans rfl
      clear k0
      have t7 := (hθ 7 (by decide)).1 rfl
      have t9 := (hθ 9 (by decide)).2 rfl
      repeat (go_big_quiet_step (fail))
      refine wpQuiet_nil ?_
      rw [if_pos (by decide)]
      refine ⟨thOK_call [] [9] 31 _ _ (by kernel_rfl) rfl (by kernel_rfl) #[.int .i64 (lf : Int), .int .i64 (p : Int)] (by kernel_rfl) (by kernel_rfl) (fun ρ D u hq hK => ?_), ?_⟩
      · have h9 := hq.not 9 (by simp)
        refine (at_ok (lf : Int) (p : Int) (by omega) (by omega) u).mono ?_
        rintro r u' ⟨rfl, rfl⟩
        exact ⟨_, rfl, by simp, hK.1, by simp [upd, h9], fun _ => hK.2.2 h9⟩
      rw [t7]
      try go_frame
      repeat (go_big_quiet_step (fail))
      refine wpQuiet_nil ?_
      rw [if_pos (by decide)]
      refine ⟨thOK_call [7] [] 30 _ _ (by kernel_rfl) rfl (by kernel_rfl) #[.pointer (some ⟨g, 0, none⟩), .int .i64 ((lf : Int) * 256 + 4 * ((p : Int) % 64)), .int .u32 e] (by kernel_rfl) (by kernel_rfl) (fun ρ D u hq hK => ?_), ?_⟩
      · have h9 := hq.now
        obtain ⟨q1, q2⟩ := HCC.out _ (hK.2.2 h9)
        have hst := q1.store (lf * 256 + 4 * (p % 64)) e (by omega) (by omega) (by omega)
        rw [show ((lf * 256 + 4 * (p % 64) : Nat) : Int) = (lf : Int) * 256 + 4 * ((p : Int) % 64) by omega] at hst
        refine hst.mono ?_
        rintro r u' ⟨rfl, r2, r3⟩
        have hT := HTT.out _ hK.1
        exact ⟨_, rfl, by simp, HTB.out _ (hT.only r3 hT.lt HN.out), fun _ => HSB.out _ ⟨r2, only_trans q2 r3⟩, by simp [upd]⟩
      rw [t9]
      try go_frame
      repeat (go_big_quiet_step (fail))
      refine wpQuiet_nil ?_
      intro u hK
      have HB := Lib.hid (HSC.out u (hK.2.1 rfl))
      have HTE := Lib.hid (HTT.out u hK.1)
      clear hK t7 t9 l0 l1 i1 hθ HCC HSC HSB HTT HTB HCB
      go_wp2
      go_ret2
      exact ⟨by first | rfl | simp, HB.out.1, HTE.out, HB.out.2⟩
set_option maxHeartbeats 2000000 in
theorem trans_2307 (h : MP w g b F M) (ht : Blk w t (tabS g root)) (hr : root < F) (hx : wlk M F root 65 = 2307) : Calls Try.prog 33 #[.pointer (some ⟨t, 0, none⟩), .int .u32 16643, .bool true] w fun r w' => r = .returned (.tuple #[.int .i64 2307, .int .i64 0]) ∧ Below w.heap.size w w' := by
  have HM := Lib.hid (made_ok ht)
  have hw1 := fun (u : World) (h : MP u g b F M) => walk_ok h root 65 hr (by omega)
  rw [hx] at hw1
  have HW := Lib.hid hw1
  have f1 := h.f1
  have hb255 : bits .and .u32 16643 255 = 3 := by kernel_rfl
  obtain ⟨CC, hCC⟩ : ∃ CC : World → Prop, CC = fun u => MP u g b F M ∧ Blk u t (tabS g root) ∧ Below w.drew.heap.size w.drew u := ⟨_, rfl⟩
  have hcc : ∀ u, CC u → MP u g b F M ∧ Blk u t (tabS g root) ∧ Below w.drew.heap.size w.drew u := fun u h => by rw [hCC] at h; exact h
  have hcb : ∀ u u', CC u → Below u.heap.size u u' → CC u' := fun u u' h hb => by rw [hCC] at h ⊢; exact ⟨h.1.below hb, h.2.1.below hb h.2.1.lt, h.2.2.trans (Below.mono hb h.2.2.size)⟩
  have k0 : CC w.drew := by rw [hCC]; exact ⟨h.below (Below.refl _ _).drew, ht.below (Below.refl _ _).drew ht.lt, Below.refl _ _⟩
  have HCC := Lib.hid hcc
  have HCB := Lib.hid hcb
  clear hcc hcb hCC h ht hw1 hx
  go_enter Try.func33, Try.ntmps33
  go_wp2_with fail
  refine HM.out.mono ?_
  rintro r w' ⟨rfl, rfl⟩
  go_wp2_with fail
  refine wp_theta [11] [11] (fun i v => i = 11 → v = .int .u32 2307) (fun ρ D u => CC u) (CC) ?_ ?_ ?_ ?_ ?_ ?_ ?_ ?_ ?_ ?_
  · kernel_rfl
  · kernel_rfl
  · kernel_rfl
  · kernel_rfl
  · kernel_rfl
  · kernel_rfl
  · exact fun i hi => ⟨_, fun _ => rfl⟩
  · exact k0
  · exact fun ρ D u h => h
  · intro θ hθ
    simp only [SegsT, List.take_succ_cons, List.take_zero, List.drop_succ_cons, List.drop_zero, Nat.sub_zero, Nat.reduceSub, Nat.reduceAdd, List.drop_nil, List.take_nil]
    haveI i1 : Nonempty (Wd CC) := ⟨⟨_, k0⟩⟩
    have l0 : ∀ s : Wd CC, s.val.cell? ⟨t, 0, none⟩ = some (.pointer (some ⟨g, 0, none⟩)) := fun s => ((HCC.out _ s.prop).2.1.all.2.2.1 0).trans rfl
    have l1 : ∀ s : Wd CC, s.val.cell? ⟨t, 1, none⟩ = some (.int .i64 (root : Int)) := fun s => ((HCC.out _ s.prop).2.1.all.2.2.1 1).trans rfl
    clear k0
    have t11 := hθ 11 (by decide) rfl
    repeat (go_big_quiet_step (fail))
    refine wpQuiet_nil ?_
    rw [if_pos (by decide)]
    refine ⟨thOK_call [] [] 42 _ _ (by kernel_rfl) rfl (by kernel_rfl) #[.pointer (some ⟨g, 0, none⟩), .int .i64 (root : Int), .int .i64 65] (by kernel_rfl) (by kernel_rfl) (fun ρ D u hq hK => ?_), ?_⟩
    · have := HW.out u (HCC.out u hK).1
      refine this.mono ?_
      rintro r u' ⟨rfl, hb⟩
      exact ⟨_, rfl, fun _ => rfl, HCB.out _ _ hK hb⟩
    rw [t11]
    try go_frame
    repeat (go_big_quiet_step (fail))
    refine wpQuiet_nil ?_
    intro u hK
    have HB := Lib.hid (below_undrew (HCC.out u hK).2.2)
    have HFL := Lib.hid (flags_ok 2307 (by omega) (by omega) u)
    have HFR := Lib.hid (frame_ok 2307 (by omega) (by omega) u)
    clear hK t11 l0 l1 i1 hθ HCC HCB HW
    go_wp2_with fail
    refine HFL.out.mono ?_
    rintro r w' ⟨rfl, rfl⟩
    go_wp2_with fail
    refine HFR.out.mono ?_
    rintro r w' ⟨rfl, rfl⟩
    go_wp2
    go_ret2
    exact ⟨by first | rfl | simp, HB.out⟩
end
end Go.Proofs.Ytdpbfmookhgilaa
