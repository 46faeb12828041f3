import Derived.Test.YtdpbfmookhgilaaTab
import Derived.Deep.QuietTactic
import Derived.BigQuiet
/- made, may, Needs, grow, Set, Translate, All. -/
namespace Go.Proofs.Ytdpbfmookhgilaa
open Go.RowKit Go.BigFrame
set_option linter.unusedVariables false
set_option linter.unusedSimpArgs false
attribute [local go_sem] szIs_lit row_at row_past row_alloc nf_alloc row_set nf_set row_cell nf_cell row_drew nf_drew row_drewN nf_drewN cell_setRow frozen_setRow nlt1 nlt2 nlt3 nlt4 nne1 nne2 nne3 nen1 nen2 nen3
attribute [local go_sem] by_get by_set
theorem below_undrew {w u : World} (h : Below w.drew.heap.size w.drew u) : Below w.heap.size w u := ⟨h.os, h.tape, h.output, h.size, h.block⟩
section
variable {w w' : World} {g b F t root : Nat} {M : Nat → Int}
theorem made_ok (ht : Blk w t (tabS g root)) : Calls Try.prog 24 #[.pointer (some ⟨t, 0, none⟩)] w fun e w' => e = .returned (.bool true) ∧ w = w' := by
  have c0 : w.cell? ⟨t, 0, none⟩ = some (.pointer (some ⟨g, 0, none⟩)) := (ht.all.2.2.1 0).trans rfl
  clear ht
  go_enter Try.func24, Try.ntmps24
  go_wp2
  go_ret
  exact ⟨by first | rfl | simp, rfl⟩
theorem made_nil (w : World) : Calls Try.prog 24 #[.pointer none] w fun e w' => e = .returned (.bool false) ∧ w = w' := by
  go_enter Try.func24, Try.ntmps24
  go_wp2
  go_ret
  exact ⟨by first | rfl | simp, rfl⟩
/-- May an entry be? -/
def mayE (F : Nat) (e : Int) : Bool := if e % 256 = 1 ∨ e % 256 = 3 ∨ e % 256 = 5 then decide (e / 256 < (F : Int)) else decide (e = 0)
set_option maxHeartbeats 2000000 in
theorem may_frame (h : MP w g b F M) (ht : Blk w t (tabS g root)) (e : Int) (h0 : 0 ≤ e) (h1 : e ≤ 4294967295) (hf : e % 256 = 1 ∨ e % 256 = 3 ∨ e % 256 = 5) : Calls Try.prog 26 #[.pointer (some ⟨t, 0, none⟩), .int .u32 e] w fun r w' => r = .returned (.bool (decide (e / 256 < (F : Int)))) ∧ Below w.heap.size w w' := by
  have hk : ((e % 256 == 1) = true) ∨ ((e % 256 == 1) = false ∧ (e % 256 == 3) = true) ∨ ((e % 256 == 1) = false ∧ (e % 256 == 3) = false ∧ (e % 256 == 5) = true) := by
    rcases hf with q | q | q
    · exact .inl (by simp [q])
    · exact .inr (.inl ⟨by simp [q], by simp [q]⟩)
    · exact .inr (.inr ⟨by simp [q], by simp [q], by simp [q]⟩)
  obtain ⟨CC, hCC⟩ : ∃ CC : World → Prop, CC = fun u => MP u g b F M ∧ Blk u t (tabS g root) ∧ Below w.drew.heap.size w.drew u := ⟨_, rfl⟩
  have hcc : ∀ u, CC u → MP u g b F M ∧ Blk u t (tabS g root) ∧ Below w.drew.heap.size w.drew u := fun u h => by rw [hCC] at h; exact h
  have hcb : ∀ u u', CC u → Below u.heap.size u u' → CC u' := fun u u' h hb => by rw [hCC] at h ⊢; exact ⟨h.1.below hb, h.2.1.below hb h.2.1.lt, h.2.2.trans (Below.mono hb h.2.2.size)⟩
  have k0 : CC w.drew := by rw [hCC]; exact ⟨h.below (Below.refl _ _).drew, ht.below (Below.refl _ _).drew ht.lt, Below.refl _ _⟩
  have HCC := Lib.hid hcc
  have HCB := Lib.hid hcb
  clear hcc hcb hCC h ht hf
  generalize hfl : e % 256 = fl at *
  generalize hfr : e / 256 = fr at *
  have HFL := Lib.hid (And.intro hfl hfr)
  clear hfl hfr
  rcases hk with q1 | ⟨q1, q2⟩ | ⟨q1, q2, q3⟩
  · skip
    go_enter Try.func26, Try.ntmps26
    go_wp2_with fail
    refine (flags_ok e h0 h1 w).mono ?_
    rintro r w' ⟨rfl, rfl⟩
    rw [HFL.out.1]
    go_wp2_with fail
    refine wp_theta [1, 6] [1, 6] (fun i v => (i = 1 → v = .int .i64 fr) ∧ (i = 6 → v = .int .i64 (F : Int))) (fun ρ D u => CC u) (CC) ?_ ?_ ?_ ?_ ?_ ?_ ?_ ?_ ?_ ?_
    · kernel_rfl
    · kernel_rfl
    · kernel_rfl
    · kernel_rfl
    · kernel_rfl
    · kernel_rfl
    · intro i hi; simp at hi; rcases hi with rfl | rfl; exact ⟨.int .i64 fr, by simp⟩; exact ⟨.int .i64 (F : Int), by simp⟩
    · exact k0
    · exact fun ρ D u h => h
    · intro θ hθ
      simp only [SegsT, List.take_succ_cons, List.take_zero, List.drop_succ_cons, List.drop_zero, Nat.sub_zero, Nat.reduceSub, Nat.reduceAdd, List.drop_nil, List.take_nil]
      haveI i1 : Nonempty (Wd CC) := ⟨⟨_, k0⟩⟩
      have l0 : ∀ s : Wd CC, s.val.cell? ⟨t, 0, none⟩ = some (.pointer (some ⟨g, 0, none⟩)) := fun s => ((HCC.out _ s.prop).2.1.all.2.2.1 0).trans rfl
      have l1 : ∀ s : Wd CC, s.val.cell? ⟨t, 1, none⟩ = some (.int .i64 (root : Int)) := fun s => ((HCC.out _ s.prop).2.1.all.2.2.1 1).trans rfl
      clear k0
      have t1 := (hθ 1 (by decide)).1 rfl
      have t6 := (hθ 6 (by decide)).2 rfl
      repeat (go_big_quiet_step (fail))
      refine wpQuiet_nil ?_
      rw [if_pos (by decide)]
      refine ⟨thOK_call [] [] 37 _ _ (by kernel_rfl) rfl (by kernel_rfl) #[.int .u32 e] (by kernel_rfl) (by kernel_rfl) (fun ρ D u hq hK => ?_), ?_⟩
      · refine (frame_ok e h0 h1 u).mono ?_
        rintro r u' ⟨rfl, rfl⟩
        rw [HFL.out.2]
        exact ⟨_, rfl, by simp, hK⟩
      rw [t1]
      try go_frame
      repeat (go_big_quiet_step (fail))
      refine wpQuiet_nil ?_
      rw [if_pos (by decide)]
      refine ⟨thOK_call [] [] 38 _ _ (by kernel_rfl) rfl (by kernel_rfl) #[.pointer (some ⟨g, 0, none⟩)] (by kernel_rfl) (by kernel_rfl) (fun ρ D u hq hK => ?_), ?_⟩
      · refine (HCC.out u hK).1.frames.mono ?_
        rintro r u' ⟨rfl, rfl⟩
        exact ⟨_, rfl, by simp, hK⟩
      rw [t6]
      try go_frame
      repeat (go_big_quiet_step (fail))
      refine wpQuiet_nil ?_
      intro u hK
      have HB := Lib.hid (below_undrew (HCC.out u hK).2.2)
      clear hK t1 t6 l0 l1 i1 hθ HCC HCB
      go_wp2
      go_ret
      exact ⟨by first | rfl | simp, HB.out⟩
  · skip
    go_enter Try.func26, Try.ntmps26
    go_wp2_with fail
    refine (flags_ok e h0 h1 w).mono ?_
    rintro r w' ⟨rfl, rfl⟩
    rw [HFL.out.1]
    go_wp2_with fail
    refine wp_theta [1, 6] [1, 6] (fun i v => (i = 1 → v = .int .i64 fr) ∧ (i = 6 → v = .int .i64 (F : Int))) (fun ρ D u => CC u) (CC) ?_ ?_ ?_ ?_ ?_ ?_ ?_ ?_ ?_ ?_
    · kernel_rfl
    · kernel_rfl
    · kernel_rfl
    · kernel_rfl
    · kernel_rfl
    · kernel_rfl
    · intro i hi; simp at hi; rcases hi with rfl | rfl; exact ⟨.int .i64 fr, by simp⟩; exact ⟨.int .i64 (F : Int), by simp⟩
    · exact k0
    · exact fun ρ D u h => h
    · intro θ hθ
      simp only [SegsT, List.take_succ_cons, List.take_zero, List.drop_succ_cons, List.drop_zero, Nat.sub_zero, Nat.reduceSub, Nat.reduceAdd, List.drop_nil, List.take_nil]
      haveI i1 : Nonempty (Wd CC) := ⟨⟨_, k0⟩⟩
      have l0 : ∀ s : Wd CC, s.val.cell? ⟨t, 0, none⟩ = some (.pointer (some ⟨g, 0, none⟩)) := fun s => ((HCC.out _ s.prop).2.1.all.2.2.1 0).trans rfl
      have l1 : ∀ s : Wd CC, s.val.cell? ⟨t, 1, none⟩ = some (.int .i64 (root : Int)) := fun s => ((HCC.out _ s.prop).2.1.all.2.2.1 1).trans rfl
      clear k0
      have t1 := (hθ 1 (by decide)).1 rfl
      have t6 := (hθ 6 (by decide)).2 rfl
      repeat (go_big_quiet_step (fail))
      refine wpQuiet_nil ?_
      rw [if_pos (by decide)]
      refine ⟨thOK_call [] [] 37 _ _ (by kernel_rfl) rfl (by kernel_rfl) #[.int .u32 e] (by kernel_rfl) (by kernel_rfl) (fun ρ D u hq hK => ?_), ?_⟩
      · refine (frame_ok e h0 h1 u).mono ?_
        rintro r u' ⟨rfl, rfl⟩
        rw [HFL.out.2]
        exact ⟨_, rfl, by simp, hK⟩
      rw [t1]
      try go_frame
      repeat (go_big_quiet_step (fail))
      refine wpQuiet_nil ?_
      rw [if_pos (by decide)]
      refine ⟨thOK_call [] [] 38 _ _ (by kernel_rfl) rfl (by kernel_rfl) #[.pointer (some ⟨g, 0, none⟩)] (by kernel_rfl) (by kernel_rfl) (fun ρ D u hq hK => ?_), ?_⟩
      · refine (HCC.out u hK).1.frames.mono ?_
        rintro r u' ⟨rfl, rfl⟩
        exact ⟨_, rfl, by simp, hK⟩
      rw [t6]
      try go_frame
      repeat (go_big_quiet_step (fail))
      refine wpQuiet_nil ?_
      intro u hK
      have HB := Lib.hid (below_undrew (HCC.out u hK).2.2)
      clear hK t1 t6 l0 l1 i1 hθ HCC HCB
      go_wp2
      go_ret
      exact ⟨by first | rfl | simp, HB.out⟩
  · skip
    go_enter Try.func26, Try.ntmps26
    go_wp2_with fail
    refine (flags_ok e h0 h1 w).mono ?_
    rintro r w' ⟨rfl, rfl⟩
    rw [HFL.out.1]
    go_wp2_with fail
    refine wp_theta [1, 6] [1, 6] (fun i v => (i = 1 → v = .int .i64 fr) ∧ (i = 6 → v = .int .i64 (F : Int))) (fun ρ D u => CC u) (CC) ?_ ?_ ?_ ?_ ?_ ?_ ?_ ?_ ?_ ?_
    · kernel_rfl
    · kernel_rfl
    · kernel_rfl
    · kernel_rfl
    · kernel_rfl
    · kernel_rfl
    · intro i hi; simp at hi; rcases hi with rfl | rfl; exact ⟨.int .i64 fr, by simp⟩; exact ⟨.int .i64 (F : Int), by simp⟩
    · exact k0
    · exact fun ρ D u h => h
    · intro θ hθ
      simp only [SegsT, List.take_succ_cons, List.take_zero, List.drop_succ_cons, List.drop_zero, Nat.sub_zero, Nat.reduceSub, Nat.reduceAdd, List.drop_nil, List.take_nil]
      haveI i1 : Nonempty (Wd CC) := ⟨⟨_, k0⟩⟩
      have l0 : ∀ s : Wd CC, s.val.cell? ⟨t, 0, none⟩ = some (.pointer (some ⟨g, 0, none⟩)) := fun s => ((HCC.out _ s.prop).2.1.all.2.2.1 0).trans rfl
      have l1 : ∀ s : Wd CC, s.val.cell? ⟨t, 1, none⟩ = some (.int .i64 (root : Int)) := fun s => ((HCC.out _ s.prop).2.1.all.2.2.1 1).trans rfl
      clear k0
      have t1 := (hθ 1 (by decide)).1 rfl
      have t6 := (hθ 6 (by decide)).2 rfl
      repeat (go_big_quiet_step (fail))
      refine wpQuiet_nil ?_
      rw [if_pos (by decide)]
      refine ⟨thOK_call [] [] 37 _ _ (by kernel_rfl) rfl (by kernel_rfl) #[.int .u32 e] (by kernel_rfl) (by kernel_rfl) (fun ρ D u hq hK => ?_), ?_⟩
      · refine (frame_ok e h0 h1 u).mono ?_
        rintro r u' ⟨rfl, rfl⟩
        rw [HFL.out.2]
        exact ⟨_, rfl, by simp, hK⟩
      rw [t1]
      try go_frame
      repeat (go_big_quiet_step (fail))
      refine wpQuiet_nil ?_
      rw [if_pos (by decide)]
      refine ⟨thOK_call [] [] 38 _ _ (by kernel_rfl) rfl (by kernel_rfl) #[.pointer (some ⟨g, 0, none⟩)] (by kernel_rfl) (by kernel_rfl) (fun ρ D u hq hK => ?_), ?_⟩
      · refine (HCC.out u hK).1.frames.mono ?_
        rintro r u' ⟨rfl, rfl⟩
        exact ⟨_, rfl, by simp, hK⟩
      rw [t6]
      try go_frame
      repeat (go_big_quiet_step (fail))
      refine wpQuiet_nil ?_
      intro u hK
      have HB := Lib.hid (below_undrew (HCC.out u hK).2.2)
      clear hK t1 t6 l0 l1 i1 hθ HCC HCB
      go_wp2
      go_ret
      exact ⟨by first | rfl | simp, HB.out⟩
theorem may_zero (e : Int) (h0 : 0 ≤ e) (h1 : e ≤ 4294967295) (hf : ¬ (e % 256 = 1 ∨ e % 256 = 3 ∨ e % 256 = 5)) (v : Value) (w : World) : Calls Try.prog 26 #[v, .int .u32 e] w fun r w' => r = .returned (.bool (decide (e = 0))) ∧ w = w' := by
  have q1 : (e % 256 == 1) = false := by
    have : ¬ e % 256 = 1 := by omega
    simpa using this
  have q2 : (e % 256 == 3) = false := by
    have : ¬ e % 256 = 3 := by omega
    simpa using this
  have q3 : (e % 256 == 5) = false := by
    have : ¬ e % 256 = 5 := by omega
    simpa using this
  have hd : decide (e = 0) = (e == 0) := by by_cases h : e = 0 <;> simp [h]
  rw [hd]
  have HF := Lib.hid (flags_ok e h0 h1 w)
  clear hf h0 h1 hd
  go_enter Try.func26, Try.ntmps26
  go_wp2_with fail
  refine HF.out.mono ?_
  rintro r w' ⟨rfl, rfl⟩
  go_wp2
  go_ret
  exact ⟨by first | rfl | simp, rfl⟩
theorem may_ok (h : MP w g b F M) (ht : Blk w t (tabS g root)) (e : Int) (h0 : 0 ≤ e) (h1 : e ≤ 4294967295) : Calls Try.prog 26 #[.pointer (some ⟨t, 0, none⟩), .int .u32 e] w fun r w' => r = .returned (.bool (mayE F e)) ∧ Below w.heap.size w w' := by
  unfold mayE
  by_cases hf : e % 256 = 1 ∨ e % 256 = 3 ∨ e % 256 = 5
  · rw [if_pos hf]; exact may_frame h ht e h0 h1 hf
  · rw [if_neg hf]
    exact (may_zero e h0 h1 hf _ w).mono fun r w' ⟨q1, q2⟩ => ⟨q1, by subst q2; exact Below.refl _ _⟩
theorem needs_page (ht : Blk w t (tabS g root)) (p : Int) (hp : ¬ (0 ≤ p ∧ p < 256)) : Calls Try.prog 27 #[.pointer (some ⟨t, 0, none⟩), .int .i64 p] w fun r w' => r = .returned (.bool false) ∧ w = w' := by
  have HM := Lib.hid (made_ok ht)
  have HP := Lib.hid (page_no p hp w)
  clear ht hp
  go_enter Try.func27, Try.ntmps27
  go_wp2_with fail
  refine HM.out.mono ?_
  rintro r w' ⟨rfl, rfl⟩
  go_wp2_with fail
  refine HP.out.mono ?_
  rintro r w' ⟨rfl, rfl⟩
  go_wp2
  go_ret
  exact ⟨by first | rfl | simp, rfl⟩
set_option maxHeartbeats 2000000 in
theorem needs_ok (h : MP w g b F M) (ht : Blk w t (tabS g root)) (hr : root < F) (p : Nat) (hp : p < 256) : Calls Try.prog 27 #[.pointer (some ⟨t, 0, none⟩), .int .i64 (p : Int)] w fun r w' => r = .returned (.bool (!hasL M F root p)) ∧ Below w.heap.size w w' := by
  have HM := Lib.hid (made_ok ht)
  have HP := Lib.hid (page_yes (p : Int) (by omega) w)
  have HL := Lib.hid (fun (u : World) (h : MP u g b F M) => leaf_ok h root p hr hp)
  obtain ⟨CC, hCC⟩ : ∃ CC : World → Prop, CC = fun u => MP u g b F M ∧ Blk u t (tabS g root) ∧ Below w.drew.heap.size w.drew u := ⟨_, rfl⟩
  have hcc : ∀ u, CC u → MP u g b F M ∧ Blk u t (tabS g root) ∧ Below w.drew.heap.size w.drew u := fun u h => by rw [hCC] at h; exact h
  have hcb : ∀ u u', CC u → Below u.heap.size u u' → CC u' := fun u u' h hb => by rw [hCC] at h ⊢; exact ⟨h.1.below hb, h.2.1.below hb h.2.1.lt, h.2.2.trans (Below.mono hb h.2.2.size)⟩
  have k0 : CC w.drew := by rw [hCC]; exact ⟨h.below (Below.refl _ _).drew, ht.below (Below.refl _ _).drew ht.lt, Below.refl _ _⟩
  have HCC := Lib.hid hcc
  have HCB := Lib.hid hcb
  clear hcc hcb hCC h ht
  generalize hv : (if hasL M F root p then (leafF M root p : Int) else 0) = lv at *
  generalize hasL M F root p = hl at *
  go_enter Try.func27, Try.ntmps27
  go_wp2_with fail
  refine HM.out.mono ?_
  rintro r w' ⟨rfl, rfl⟩
  go_wp2_with fail
  refine HP.out.mono ?_
  rintro r w' ⟨rfl, rfl⟩
  go_wp2_with fail
  refine wp_theta [9] [9] (fun i v => i = 9 → v = .tuple #[.int .i64 lv, .bool hl]) (fun ρ D u => CC u) (CC) ?_ ?_ ?_ ?_ ?_ ?_ ?_ ?_ ?_ ?_
  · kernel_rfl
  · kernel_rfl
  · kernel_rfl
  · kernel_rfl
  · kernel_rfl
  · kernel_rfl
  · exact fun i hi => ⟨_, fun _ => rfl⟩
  · exact k0
  · exact fun ρ D u h => h
  · intro θ hθ
    simp only [SegsT, List.take_succ_cons, List.take_zero, List.drop_succ_cons, List.drop_zero, Nat.sub_zero, Nat.reduceSub, Nat.reduceAdd, List.drop_nil, List.take_nil]
    haveI i1 : Nonempty (Wd CC) := ⟨⟨_, k0⟩⟩
    have l0 : ∀ s : Wd CC, s.val.cell? ⟨t, 0, none⟩ = some (.pointer (some ⟨g, 0, none⟩)) := fun s => ((HCC.out _ s.prop).2.1.all.2.2.1 0).trans rfl
    have l1 : ∀ s : Wd CC, s.val.cell? ⟨t, 1, none⟩ = some (.int .i64 (root : Int)) := fun s => ((HCC.out _ s.prop).2.1.all.2.2.1 1).trans rfl
    clear k0
    have t9 := hθ 9 (by decide) rfl
    repeat (go_big_quiet_step (fail))
    refine wpQuiet_nil ?_
    rw [if_pos (by decide)]
    refine ⟨thOK_call [] [] 29 _ _ (by kernel_rfl) rfl (by kernel_rfl) #[.pointer (some ⟨g, 0, none⟩), .int .i64 (root : Int), .int .i64 (p : Int)] (by kernel_rfl) (by kernel_rfl) (fun ρ D u hq hK => ?_), ?_⟩
    · have := HL.out u (HCC.out u hK).1
      refine this.mono ?_
      rintro r u' ⟨rfl, hb⟩
      exact ⟨_, rfl, fun _ => rfl, HCB.out _ _ hK hb⟩
    rw [t9]
    try go_frame
    repeat (go_big_quiet_step (fail))
    refine wpQuiet_nil ?_
    intro u hK
    have HB := Lib.hid (below_undrew (HCC.out u hK).2.2)
    clear hK t9 l0 l1 i1 hθ HCC HCB HL hv
    go_wp2
    go_ret
    exact ⟨by first | rfl | simp, HB.out⟩
end
end Go.Proofs.Ytdpbfmookhgilaa
