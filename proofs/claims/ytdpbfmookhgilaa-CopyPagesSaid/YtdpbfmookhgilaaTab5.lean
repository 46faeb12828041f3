import Derived.Test.YtdpbfmookhgilaaSet3
import Derived.Deep.QuietTactic
import Derived.BigQuiet
/- Get, Translate, Root of a table. -/
namespace Go.Proofs.Ytdpbfmookhgilaa
open Go.RowKit Go.BigFrame
set_option linter.unusedVariables false
set_option linter.unusedSimpArgs false
attribute [local go_sem] szIs_lit row_at row_past row_alloc nf_alloc row_set nf_set row_cell nf_cell row_drew nf_drew row_drewN nf_drewN cell_setRow frozen_setRow nlt1 nlt2 nlt3 nlt4 nne1 nne2 nne3 nen1 nen2 nen3
attribute [local go_sem] by_get by_set
section
variable {w w' : World} {g b F t root : Nat} {L : Nat → Option Nat} {E : Nat → Int}
set_option maxHeartbeats 2000000 in
theorem TS.walk_far (h : TS w g b F t root L E) (p : Int) (hp : ¬ (0 ≤ p ∧ p < 256)) : Calls Try.prog 42 #[.pointer (some ⟨g, 0, none⟩), .int .i64 (root : Int), .int .i64 p] w fun e w' => e = .returned (.int .u32 0) ∧ Below w.heap.size w w' := by
  obtain ⟨M, h1, h2⟩ := h.ex
  exact (walk_page h1 root p h.hr hp).mono fun e w' ⟨q1, q2⟩ => ⟨q1, by subst q2; exact Below.refl _ _⟩
/-- What an address's page says. -/
def entA (E : Nat → Int) (a : Int) : Int := if a / 256 < 256 then E (a / 256).toNat else 0
theorem TS.walkA (h : TS w g b F t root L E) (a : Int) (ha : 0 ≤ a) : Calls Try.prog 42 #[.pointer (some ⟨g, 0, none⟩), .int .i64 (root : Int), .int .i64 (a / 256)] w fun e w' => e = .returned (.int .u32 (entA E a)) ∧ Below w.heap.size w w' := by
  unfold entA
  by_cases hp : a / 256 < 256
  · rw [if_pos hp]
    have := h.walk (a / 256).toNat (by omega)
    rwa [show (((a / 256).toNat : Nat) : Int) = a / 256 by omega] at this
  · rw [if_neg hp]
    exact h.walk_far _ (by omega)
set_option maxHeartbeats 2000000 in
theorem trans_zero (h : TS w g b F t root L E) (a : Int) (ha : 0 ≤ a ∧ a ≤ 4294967295) (c : Bool) (hz : entA E a = 0) : Calls Try.prog 33 #[.pointer (some ⟨t, 0, none⟩), .int .u32 a, .bool c] w fun r w' => r = .returned (.tuple #[.int .i64 0, .int .i64 51]) ∧ Below w.heap.size w w' := by
  have HM := Lib.hid (made_ok h.ht)
  have hand := and255 a ha.1 ha.2
  obtain ⟨ha0, ha1⟩ := ha
  obtain ⟨CC, hCC⟩ : ∃ CC : World → Prop, CC = fun u => TS u g b F t root L E ∧ Below w.drew.heap.size w.drew u := ⟨_, rfl⟩
  have hcc : ∀ u, CC u → TS u g b F t root L E ∧ Below w.drew.heap.size w.drew u := fun u h => by rw [hCC] at h; exact h
  have hcb : ∀ u u', CC u → Below u.heap.size u u' → CC u' := fun u u' h hb => by rw [hCC] at h ⊢; exact ⟨h.1.below hb, h.2.trans (Below.mono hb h.2.size)⟩
  have k0 : CC w.drew := by rw [hCC]; exact ⟨h.below (Below.refl _ _).drew, Below.refl _ _⟩
  have HCC := Lib.hid hcc
  have HCB := Lib.hid hcb
  clear hcc hcb hCC h
  generalize hx : entA E a = x at *
  have HX := Lib.hid hx
  have k1 : (x == 0) = true := by simp [hz]
  clear hz
  clear hx
  go_enter Try.func33, Try.ntmps33
  go_wp2_with fail
  refine HM.out.mono ?_
  rintro r w' ⟨rfl, rfl⟩
  go_wp2_with fail
  refine wp_theta [11] [11] (fun i v => i = 11 → v = .int .u32 x) (fun ρ D u => CC u) (CC) ?_ ?_ ?_ ?_ ?_ ?_ ?_ ?_ ?_ ?_
  · kernel_rfl
  · kernel_rfl
  · kernel_rfl
  · kernel_rfl
  · kernel_rfl
  · kernel_rfl
  · exact fun i hi => ⟨_, fun _ => rfl⟩
  · exact k0
  · exact fun ρ D u h => h
  · intro θ hθ
    simp only [SegsT, List.take_succ_cons, List.take_zero, List.drop_succ_cons, List.drop_zero, Nat.sub_zero, Nat.reduceSub, Nat.reduceAdd, List.drop_nil, List.take_nil]
    haveI i1 : Nonempty (Wd CC) := ⟨⟨_, k0⟩⟩
    have l0 : ∀ s : Wd CC, s.val.cell? ⟨t, 0, none⟩ = some (.pointer (some ⟨g, 0, none⟩)) := fun s => ((HCC.out _ s.prop).1.ht.all.2.2.1 0).trans rfl
    have l1 : ∀ s : Wd CC, s.val.cell? ⟨t, 1, none⟩ = some (.int .i64 (root : Int)) := fun s => ((HCC.out _ s.prop).1.ht.all.2.2.1 1).trans rfl
    clear k0
    have t11 := hθ 11 (by decide) rfl
    repeat (go_big_quiet_step (fail))
    refine wpQuiet_nil ?_
    rw [if_pos (by decide)]
    refine ⟨thOK_call [] [] 42 _ _ (by kernel_rfl) rfl (by kernel_rfl) #[.pointer (some ⟨g, 0, none⟩), .int .i64 (root : Int), .int .i64 (a / 256)] (by kernel_rfl) (by kernel_rfl) (fun ρ D u hq hK => ?_), ?_⟩
    · have := (HCC.out u hK).1.walkA a ha0
      rw [HX.out] at this
      refine this.mono ?_
      rintro r u' ⟨rfl, hb⟩
      exact ⟨_, rfl, fun _ => rfl, HCB.out _ _ hK hb⟩
    rw [t11]
    try go_frame
    repeat (go_big_quiet_step (fail))
    refine wpQuiet_nil ?_
    intro u hK
    have HB := Lib.hid (below_undrew (HCC.out u hK).2)
    clear hK t11 l0 l1 i1 hθ HCC HCB
    go_wp2_with fail
    go_wp2
    go_ret2
    exact ⟨by first | rfl | simp, HB.out⟩
set_option maxHeartbeats 2000000 in
theorem trans_read (h : TS w g b F t root L E) (a : Int) (ha : 0 ≤ a ∧ a ≤ 4294967295) (hb : 0 ≤ entA E a ∧ entA E a ≤ 4294967295) (hz : ¬ entA E a = 0) : Calls Try.prog 33 #[.pointer (some ⟨t, 0, none⟩), .int .u32 a, .bool false] w fun r w' => r = .returned (.tuple #[.int .i64 (entA E a / 256 * 256 + a % 256), .int .i64 0]) ∧ Below w.heap.size w w' := by
  have HM := Lib.hid (made_ok h.ht)
  have hand := and255 a ha.1 ha.2
  obtain ⟨ha0, ha1⟩ := ha
  obtain ⟨CC, hCC⟩ : ∃ CC : World → Prop, CC = fun u => TS u g b F t root L E ∧ Below w.drew.heap.size w.drew u := ⟨_, rfl⟩
  have hcc : ∀ u, CC u → TS u g b F t root L E ∧ Below w.drew.heap.size w.drew u := fun u h => by rw [hCC] at h; exact h
  have hcb : ∀ u u', CC u → Below u.heap.size u u' → CC u' := fun u u' h hb => by rw [hCC] at h ⊢; exact ⟨h.1.below hb, h.2.trans (Below.mono hb h.2.size)⟩
  have k0 : CC w.drew := by rw [hCC]; exact ⟨h.below (Below.refl _ _).drew, Below.refl _ _⟩
  have HCC := Lib.hid hcc
  have HCB := Lib.hid hcb
  clear hcc hcb hCC h
  generalize hx : entA E a = x at *
  have HX := Lib.hid hx
  have k1 : (x == 0) = false := by simpa using hz
  clear hz
  obtain ⟨x0, x1⟩ := hb
  clear hx
  go_enter Try.func33, Try.ntmps33
  go_wp2_with fail
  refine HM.out.mono ?_
  rintro r w' ⟨rfl, rfl⟩
  go_wp2_with fail
  refine wp_theta [11] [11] (fun i v => i = 11 → v = .int .u32 x) (fun ρ D u => CC u) (CC) ?_ ?_ ?_ ?_ ?_ ?_ ?_ ?_ ?_ ?_
  · kernel_rfl
  · kernel_rfl
  · kernel_rfl
  · kernel_rfl
  · kernel_rfl
  · kernel_rfl
  · exact fun i hi => ⟨_, fun _ => rfl⟩
  · exact k0
  · exact fun ρ D u h => h
  · intro θ hθ
    simp only [SegsT, List.take_succ_cons, List.take_zero, List.drop_succ_cons, List.drop_zero, Nat.sub_zero, Nat.reduceSub, Nat.reduceAdd, List.drop_nil, List.take_nil]
    haveI i1 : Nonempty (Wd CC) := ⟨⟨_, k0⟩⟩
    have l0 : ∀ s : Wd CC, s.val.cell? ⟨t, 0, none⟩ = some (.pointer (some ⟨g, 0, none⟩)) := fun s => ((HCC.out _ s.prop).1.ht.all.2.2.1 0).trans rfl
    have l1 : ∀ s : Wd CC, s.val.cell? ⟨t, 1, none⟩ = some (.int .i64 (root : Int)) := fun s => ((HCC.out _ s.prop).1.ht.all.2.2.1 1).trans rfl
    clear k0
    have t11 := hθ 11 (by decide) rfl
    repeat (go_big_quiet_step (fail))
    refine wpQuiet_nil ?_
    rw [if_pos (by decide)]
    refine ⟨thOK_call [] [] 42 _ _ (by kernel_rfl) rfl (by kernel_rfl) #[.pointer (some ⟨g, 0, none⟩), .int .i64 (root : Int), .int .i64 (a / 256)] (by kernel_rfl) (by kernel_rfl) (fun ρ D u hq hK => ?_), ?_⟩
    · have := (HCC.out u hK).1.walkA a ha0
      rw [HX.out] at this
      refine this.mono ?_
      rintro r u' ⟨rfl, hb⟩
      exact ⟨_, rfl, fun _ => rfl, HCB.out _ _ hK hb⟩
    rw [t11]
    try go_frame
    repeat (go_big_quiet_step (fail))
    refine wpQuiet_nil ?_
    intro u hK
    have HB := Lib.hid (below_undrew (HCC.out u hK).2)
    clear hK t11 l0 l1 i1 hθ HCC HCB
    go_wp2_with fail
    refine (frame_ok x x0 x1 u).mono ?_
    rintro r w' ⟨rfl, rfl⟩
    go_wp2
    go_ret2
    exact ⟨by first | rfl | simp, HB.out⟩
set_option maxHeartbeats 2000000 in
theorem trans_ro (h : TS w g b F t root L E) (a : Int) (ha : 0 ≤ a ∧ a ≤ 4294967295) (hb : 0 ≤ entA E a ∧ entA E a ≤ 4294967295) (hz : ¬ entA E a = 0) (hw : (bits .and .i64 (entA E a % 256) 2 == 0) = true) : Calls Try.prog 33 #[.pointer (some ⟨t, 0, none⟩), .int .u32 a, .bool true] w fun r w' => r = .returned (.tuple #[.int .i64 0, .int .i64 51]) ∧ Below w.heap.size w w' := by
  have HM := Lib.hid (made_ok h.ht)
  have hand := and255 a ha.1 ha.2
  obtain ⟨ha0, ha1⟩ := ha
  obtain ⟨CC, hCC⟩ : ∃ CC : World → Prop, CC = fun u => TS u g b F t root L E ∧ Below w.drew.heap.size w.drew u := ⟨_, rfl⟩
  have hcc : ∀ u, CC u → TS u g b F t root L E ∧ Below w.drew.heap.size w.drew u := fun u h => by rw [hCC] at h; exact h
  have hcb : ∀ u u', CC u → Below u.heap.size u u' → CC u' := fun u u' h hb => by rw [hCC] at h ⊢; exact ⟨h.1.below hb, h.2.trans (Below.mono hb h.2.size)⟩
  have k0 : CC w.drew := by rw [hCC]; exact ⟨h.below (Below.refl _ _).drew, Below.refl _ _⟩
  have HCC := Lib.hid hcc
  have HCB := Lib.hid hcb
  clear hcc hcb hCC h
  generalize hx : entA E a = x at *
  have HX := Lib.hid hx
  have k1 : (x == 0) = false := by simpa using hz
  clear hz
  obtain ⟨x0, x1⟩ := hb
  clear hx
  go_enter Try.func33, Try.ntmps33
  go_wp2_with fail
  refine HM.out.mono ?_
  rintro r w' ⟨rfl, rfl⟩
  go_wp2_with fail
  refine wp_theta [11] [11] (fun i v => i = 11 → v = .int .u32 x) (fun ρ D u => CC u) (CC) ?_ ?_ ?_ ?_ ?_ ?_ ?_ ?_ ?_ ?_
  · kernel_rfl
  · kernel_rfl
  · kernel_rfl
  · kernel_rfl
  · kernel_rfl
  · kernel_rfl
  · exact fun i hi => ⟨_, fun _ => rfl⟩
  · exact k0
  · exact fun ρ D u h => h
  · intro θ hθ
    simp only [SegsT, List.take_succ_cons, List.take_zero, List.drop_succ_cons, List.drop_zero, Nat.sub_zero, Nat.reduceSub, Nat.reduceAdd, List.drop_nil, List.take_nil]
    haveI i1 : Nonempty (Wd CC) := ⟨⟨_, k0⟩⟩
    have l0 : ∀ s : Wd CC, s.val.cell? ⟨t, 0, none⟩ = some (.pointer (some ⟨g, 0, none⟩)) := fun s => ((HCC.out _ s.prop).1.ht.all.2.2.1 0).trans rfl
    have l1 : ∀ s : Wd CC, s.val.cell? ⟨t, 1, none⟩ = some (.int .i64 (root : Int)) := fun s => ((HCC.out _ s.prop).1.ht.all.2.2.1 1).trans rfl
    clear k0
    have t11 := hθ 11 (by decide) rfl
    repeat (go_big_quiet_step (fail))
    refine wpQuiet_nil ?_
    rw [if_pos (by decide)]
    refine ⟨thOK_call [] [] 42 _ _ (by kernel_rfl) rfl (by kernel_rfl) #[.pointer (some ⟨g, 0, none⟩), .int .i64 (root : Int), .int .i64 (a / 256)] (by kernel_rfl) (by kernel_rfl) (fun ρ D u hq hK => ?_), ?_⟩
    · have := (HCC.out u hK).1.walkA a ha0
      rw [HX.out] at this
      refine this.mono ?_
      rintro r u' ⟨rfl, hb⟩
      exact ⟨_, rfl, fun _ => rfl, HCB.out _ _ hK hb⟩
    rw [t11]
    try go_frame
    repeat (go_big_quiet_step (fail))
    refine wpQuiet_nil ?_
    intro u hK
    have HB := Lib.hid (below_undrew (HCC.out u hK).2)
    clear hK t11 l0 l1 i1 hθ HCC HCB
    go_wp2_with fail
    refine (flags_ok x x0 x1 u).mono ?_
    rintro r w' ⟨rfl, rfl⟩
    go_wp2_with fail
    go_wp2
    go_ret2
    exact ⟨by first | rfl | simp, HB.out⟩
set_option maxHeartbeats 2000000 in
theorem trans_write (h : TS w g b F t root L E) (a : Int) (ha : 0 ≤ a ∧ a ≤ 4294967295) (hb : 0 ≤ entA E a ∧ entA E a ≤ 4294967295) (hz : ¬ entA E a = 0) (hw : (bits .and .i64 (entA E a % 256) 2 == 0) = false) : Calls Try.prog 33 #[.pointer (some ⟨t, 0, none⟩), .int .u32 a, .bool true] w fun r w' => r = .returned (.tuple #[.int .i64 (entA E a / 256 * 256 + a % 256), .int .i64 0]) ∧ Below w.heap.size w w' := by
  have HM := Lib.hid (made_ok h.ht)
  have hand := and255 a ha.1 ha.2
  obtain ⟨ha0, ha1⟩ := ha
  obtain ⟨CC, hCC⟩ : ∃ CC : World → Prop, CC = fun u => TS u g b F t root L E ∧ Below w.drew.heap.size w.drew u := ⟨_, rfl⟩
  have hcc : ∀ u, CC u → TS u g b F t root L E ∧ Below w.drew.heap.size w.drew u := fun u h => by rw [hCC] at h; exact h
  have hcb : ∀ u u', CC u → Below u.heap.size u u' → CC u' := fun u u' h hb => by rw [hCC] at h ⊢; exact ⟨h.1.below hb, h.2.trans (Below.mono hb h.2.size)⟩
  have k0 : CC w.drew := by rw [hCC]; exact ⟨h.below (Below.refl _ _).drew, Below.refl _ _⟩
  have HCC := Lib.hid hcc
  have HCB := Lib.hid hcb
  clear hcc hcb hCC h
  generalize hx : entA E a = x at *
  have HX := Lib.hid hx
  have k1 : (x == 0) = false := by simpa using hz
  clear hz
  obtain ⟨x0, x1⟩ := hb
  clear hx
  go_enter Try.func33, Try.ntmps33
  go_wp2_with fail
  refine HM.out.mono ?_
  rintro r w' ⟨rfl, rfl⟩
  go_wp2_with fail
  refine wp_theta [11] [11] (fun i v => i = 11 → v = .int .u32 x) (fun ρ D u => CC u) (CC) ?_ ?_ ?_ ?_ ?_ ?_ ?_ ?_ ?_ ?_
  · kernel_rfl
  · kernel_rfl
  · kernel_rfl
  · kernel_rfl
  · kernel_rfl
  · kernel_rfl
  · exact fun i hi => ⟨_, fun _ => rfl⟩
  · exact k0
  · exact fun ρ D u h => h
  · intro θ hθ
    simp only [SegsT, List.take_succ_cons, List.take_zero, List.drop_succ_cons, List.drop_zero, Nat.sub_zero, Nat.reduceSub, Nat.reduceAdd, List.drop_nil, List.take_nil]
    haveI i1 : Nonempty (Wd CC) := ⟨⟨_, k0⟩⟩
    have l0 : ∀ s : Wd CC, s.val.cell? ⟨t, 0, none⟩ = some (.pointer (some ⟨g, 0, none⟩)) := fun s => ((HCC.out _ s.prop).1.ht.all.2.2.1 0).trans rfl
    have l1 : ∀ s : Wd CC, s.val.cell? ⟨t, 1, none⟩ = some (.int .i64 (root : Int)) := fun s => ((HCC.out _ s.prop).1.ht.all.2.2.1 1).trans rfl
    clear k0
    have t11 := hθ 11 (by decide) rfl
    repeat (go_big_quiet_step (fail))
    refine wpQuiet_nil ?_
    rw [if_pos (by decide)]
    refine ⟨thOK_call [] [] 42 _ _ (by kernel_rfl) rfl (by kernel_rfl) #[.pointer (some ⟨g, 0, none⟩), .int .i64 (root : Int), .int .i64 (a / 256)] (by kernel_rfl) (by kernel_rfl) (fun ρ D u hq hK => ?_), ?_⟩
    · have := (HCC.out u hK).1.walkA a ha0
      rw [HX.out] at this
      refine this.mono ?_
      rintro r u' ⟨rfl, hb⟩
      exact ⟨_, rfl, fun _ => rfl, HCB.out _ _ hK hb⟩
    rw [t11]
    try go_frame
    repeat (go_big_quiet_step (fail))
    refine wpQuiet_nil ?_
    intro u hK
    have HB := Lib.hid (below_undrew (HCC.out u hK).2)
    clear hK t11 l0 l1 i1 hθ HCC HCB
    go_wp2_with fail
    refine (flags_ok x x0 x1 u).mono ?_
    rintro r w' ⟨rfl, rfl⟩
    go_wp2_with fail
    refine (frame_ok x x0 x1 u).mono ?_
    rintro r w' ⟨rfl, rfl⟩
    go_wp2
    go_ret2
    exact ⟨by first | rfl | simp, HB.out⟩
end
end Go.Proofs.Ytdpbfmookhgilaa
