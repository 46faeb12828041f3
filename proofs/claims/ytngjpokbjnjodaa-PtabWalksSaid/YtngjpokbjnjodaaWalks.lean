import Derived.Test.YtngjpokbjnjodaaRef2
import Derived.Test.YtngjpokbjnjodaaLives
import Derived.Test.YtngjpokbjnjodaaKit
import Derived.OpenShut
import Derived.Deep.QuietTactic
import Derived.BigQuiet
import Derived.Deep.LoopGhost
import Derived.Deep.Cut
import Derived.Deep.CutRange
import Derived.Deep.DeepMust
/- PtabWalks: what any memory says of any page. -/
namespace Go.Proofs.Ytngjpokbjnjodaa
open Go.RowKit Go.BigFrame
set_option linter.unusedVariables false
set_option linter.unusedSimpArgs false
attribute [local go_sem] szIs_lit row_at row_past row_alloc nf_alloc row_set nf_set row_cell nf_cell row_drew nf_drew row_drewN nf_drewN cell_setRow frozen_setRow nlt1 nlt2 nlt3 nlt4 nne1 nne2 nne3 nen1 nen2 nen3
attribute [local go_sem] by_get by_set
/-- Two memories: what they say. -/
structure WW (w0 u : World) (g b x y : Nat) (M M2 : Nat → Int) : Prop where
  a : MP u g b 5 M
  c : MP u x y 5 M2
  ne : x ≠ b ∧ y ≠ b ∧ g ≠ y ∧ b ≠ y
  lo : w0.heap.size ≤ b ∧ w0.heap.size ≤ y
  be : Below w0.heap.size w0 u
section
variable {w0 u u' w : World} {g b x y F : Nat} {M M2 : Nat → Int}
theorem MP.only (h : MP u x y F M) (hg : u.grownBy u' (some b)) (h1 : x ≠ b) (h2 : y ≠ b) : MP u' x y F M := ⟨h.hg.only hg h.hg.lt h1, h.hb.only hg h.hb.lt h2, h.f1, h.ne, h.by_⟩
theorem WW.below (h : WW w0 u g b x y M M2) (hb : Below u.heap.size u u') : WW w0 u' g b x y M M2 := ⟨h.a.below hb, h.c.below hb, h.ne, h.lo, h.be.trans (Below.mono hb h.be.size)⟩
theorem WW.storeA (h : WW w0 u g b x y M M2) {ad va : Int} (hv : 0 ≤ va ∧ va ≤ 4294967295) : Calls Try.prog 18 #[.pointer (some ⟨g, 0, none⟩), .int .i64 ad, .int .u32 va] u fun e w' => (∃ v, e = .returned v) ∧ WW w0 w' g b x y (stepM M (5 * 256) ad va) M2 :=
  (store_any h.a ad va hv).mono fun e w' ⟨q1, q2, q3⟩ => ⟨q1, q2, h.c.only q3 h.ne.1 h.ne.2.1, h.ne, h.lo, below_only h.be q3 h.lo.1 h.be.size⟩
theorem WW.storeX (h : WW w0 u g b x y M M2) {ad va : Int} (hv : 0 ≤ va ∧ va ≤ 4294967295) : Calls Try.prog 19 #[.pointer (some ⟨x, 0, none⟩), .int .i64 ad, .int .u32 va] u fun e w' => (∃ v, e = .returned v) ∧ WW w0 w' g b x y M (stepM M2 (5 * 256) ad va) :=
  (rstore_any h.c ad va hv).mono fun e w' ⟨q1, q2, q3⟩ => ⟨q1, h.a.only q3 h.ne.2.2.1 h.ne.2.2.2, q2, h.ne, h.lo, below_only h.be q3 h.lo.2 h.be.size⟩
def wAny (M : Nat → Int) (F : Nat) (root p : Int) : Int := if 0 ≤ root ∧ root < F ∧ 0 ≤ p ∧ p < 256 then wlk M F root.toNat p.toNat else 0
theorem walk_any (h : MP w g b F M) (root p : Int) : Calls Try.prog 20 #[.pointer (some ⟨g, 0, none⟩), .int .i64 root, .int .i64 p] w fun e w' => e = .returned (.int .u32 (wAny M F root p)) ∧ Below w.heap.size w w' := by
  unfold wAny
  by_cases hr : 0 ≤ root ∧ root < F
  · obtain ⟨r, rfl⟩ := Int.eq_ofNat_of_zero_le hr.1
    by_cases hp : 0 ≤ p ∧ p < 256
    · obtain ⟨q, rfl⟩ := Int.eq_ofNat_of_zero_le hp.1
      rw [if_pos ⟨hr.1, hr.2, hp.1, hp.2⟩]
      exact walk_ok h r q (by omega) (by omega)
    · rw [if_neg (fun q => hp q.2.2)]
      exact (walk_page h r p (by omega) hp).mono fun e w' ⟨q1, q2⟩ => ⟨q1, by subst q2; exact Below.refl _ _⟩
  · rw [if_neg (fun q => hr ⟨q.1, q.2.1⟩)]
    exact (walk_out h root p hr).mono fun e w' ⟨q1, q2⟩ => ⟨q1, by subst q2; exact Below.refl _ _⟩
theorem rwalk_any (h : MP w g b F M) (root p : Int) : Calls Try.prog 21 #[.pointer (some ⟨g, 0, none⟩), .int .i64 root, .int .i64 p] w fun e w' => e = .returned (.int .u32 (wAny M F root p)) ∧ w = w' := by
  unfold wAny
  by_cases hr : 0 ≤ root ∧ root < F
  · obtain ⟨r, rfl⟩ := Int.eq_ofNat_of_zero_le hr.1
    by_cases hp : 0 ≤ p ∧ p < 256
    · obtain ⟨q, rfl⟩ := Int.eq_ofNat_of_zero_le hp.1
      rw [if_pos ⟨hr.1, hr.2, hp.1, hp.2⟩]
      exact rwalk_ok h r q (by omega) (by omega)
    · rw [if_neg (fun q => hp q.2.2)]
      exact rwalk_page h r p (by omega) hp
  · rw [if_neg (fun q => hr ⟨q.1, q.2.1⟩)]
    exact rwalk_out h root p hr
end
set_option maxHeartbeats 4000000 in
set_option maxRecDepth 100000 in
theorem walks_walk (a : Option Addr) (len cap : Nat) (o : Nat → WordV) (root page : Int) (w : World) (h : AreWord w w.heap.size a len cap o) : Calls Try.prog 4 #[.slice a len cap, .int .i64 root, .int .i64 page] w fun r w' => r = .returned (.bool true) ∧ Below w.heap.size w w' := by
  have HN := Lib.hid (new_ok 5 (by omega) (by omega) w)
  have HA := Lib.hid h
  have hlen : len ≤ 35184372088832 := by
    have := h.2.2.1; unfold reachBytes at this; omega
  clear h
  go_enter Try.func4, Try.ntmps4
  go_wp2_with fail
  refine HN.out.mono ?_
  rintro r w1 ⟨g, b, rfl, q1, q2, q3, q4, q5, q6⟩
  have hm : MP w1 g b 5 (fun _ => 0) := ⟨q1, q2, by omega, q5, bytes_zero 0⟩
  have HM1 := Lib.hid hm
  have HB1 := Lib.hid q6
  have HQ1 := Lib.hid q4
  have HR := Lib.hid (rnew_ok 5 (by omega) (by omega) w1)
  clear q1 q2 q3 q4 q5 q6 hm HN
  go_wp2_with fail
  refine HR.out.mono ?_
  rintro r w2 ⟨x, y, rfl, q1, q2, q3, q4, q5, q6⟩
  have hb2 := HB1.out.trans (Below.mono q6 HB1.out.size)
  have hW : WW w w2 g b x y (fun _ => 0) (fun _ => 0) := ⟨HM1.out.below q6, ⟨q1, q2, by omega, q5, bytes_zero 0⟩, by
    have := HM1.out.hg.lt; have := HM1.out.hb.lt; refine ⟨?_, ?_, ?_, ?_⟩ <;> omega, ⟨HQ1.out, Nat.le_trans HB1.out.size q4⟩, hb2⟩
  have HW := Lib.hid hW
  have HL := Lib.hid (lives_ok w2)
  clear q1 q2 q3 q4 q5 q6 HR hb2 hW HM1 HB1 HQ1
  go_wp2_with fail
  refine HL.out.mono ?_
  rintro r w3 ⟨rfl, hb3⟩
  have HW3 := Lib.hid (HW.out.below hb3)
  clear hb3 HL HW
  go_wp2_with fail
  go_loopg [11] len (fun k i_ wr => ∃ (j : Nat) (M : Nat → Int), i_ = .int .i64 (j : Int) ∧ k = len - j ∧ j ≤ len ∧ WW w wr g b x y M M)
  case atStart => exact ⟨0, _, rfl, rfl, by omega, HW3.out⟩
  case round =>
    obtain ⟨j, M, rfl, hk, hj, hw⟩ := hrel
    have HK := Lib.hid hk
    have HW := Lib.hid hw
    clear hk hw
    by_cases hlt : j < len
    · obtain ⟨ab, off, rfl, hab, hat⟩ := HA.out.2.2.2 (by omega)
      have hi := hat j hlt
      obtain ⟨AD, hAD⟩ : ∃ z, (o j).x0 = z := ⟨_, rfl⟩
      obtain ⟨VA, hVA⟩ : ∃ z, (o j).x1 = z := ⟨_, rfl⟩
      unfold IsWord at hi
      rw [hAD, hVA] at hi
      have HV := Lib.hid (Go.bounds_u32 hi.2.2.2)
      obtain ⟨TT, hTT⟩ : ∃ TT : World → Prop, TT = fun u => u.cell? ⟨ab, off + j * 2, none⟩ = some (.int .i64 AD) ∧ u.cell? ⟨ab, off + j * 2 + 1, none⟩ = some (.int .u32 VA) := ⟨_, rfl⟩
      have HTT := Lib.hid (show ∀ u, TT u → u.cell? ⟨ab, off + j * 2, none⟩ = some (.int .i64 AD) ∧ u.cell? ⟨ab, off + j * 2 + 1, none⟩ = some (.int .u32 VA) from fun u h => by rw [hTT] at h; exact h)
      have HTB := Lib.hid (show ∀ u, Below w.heap.size w u → TT u from fun u h => by rw [hTT]; exact ⟨(h.cell hab).trans hi.1, (h.cell hab).trans hi.2.2.1⟩)
      obtain ⟨MN, hMN⟩ : ∃ MN, stepM M (5 * 256) AD VA = MN := ⟨_, rfl⟩
      have hSA := fun (u : World) (h : WW w u g b x y M M) => h.storeA (ad := AD) HV.out
      have hSX := fun (u : World) (h : WW w u g b x y MN M) => h.storeX (ad := AD) HV.out
      rw [hMN] at hSA hSX
      have HSA := Lib.hid hSA
      have HSX := Lib.hid hSX
      have k0 : TT wr.drew := HTB.out _ (HW.out.below (Below.refl _ _).drew).be
      have KA := Lib.hid (HW.out.below (Below.refl _ _).drew)
      clear hi hat hab hAD hVA hTT hMN hSA hSX
      go_wp2_with fail
      refine wp_theta [11] [11] (fun i v => True) (fun ρ D u => TT u ∧ (D 11 = true → WW w u g b x y MN M) ∧ (D 11 = false → WW w u g b x y M M)) (TT) ?_ ?_ ?_ ?_ ?_ ?_ ?_ ?_ ?_ ?_
      · kernel_rfl
      · kernel_rfl
      · kernel_rfl
      · kernel_rfl
      · kernel_rfl
      · kernel_rfl
      · exact fun i hi => ⟨undef, trivial⟩
      · exact ⟨k0, by simp, fun _ => KA.out⟩
      · exact fun ρ D u h => h.1
      · intro θ hθ
        simp only [SegsT, List.take_succ_cons, List.take_zero, List.drop_succ_cons, List.drop_zero, Nat.sub_zero, Nat.reduceSub, Nat.reduceAdd, List.drop_nil, List.take_nil]
        haveI i1 : Nonempty (Wd TT) := ⟨⟨_, k0⟩⟩
        have l0 : ∀ s : Wd TT, s.val.cell? ⟨ab, off + j * 2, none⟩ = some (.int .i64 AD) := fun s => (HTT.out _ s.prop).1
        have l1 : ∀ s : Wd TT, s.val.cell? ⟨ab, off + j * 2 + 1, none⟩ = some (.int .u32 VA) := fun s => (HTT.out _ s.prop).2
        clear k0
        repeat (go_big_quiet_step (fail))
        refine wpQuiet_nil ?_
        rw [if_pos (by decide)]
        refine ⟨thOK_call [] [] 18 _ _ (by kernel_rfl) rfl (by kernel_rfl) #[.pointer (some ⟨g, 0, none⟩), .int .i64 AD, .int .u32 VA] (by kernel_rfl) (by kernel_rfl) (fun ρ D u hq hK => ?_), ?_⟩
        · have h11 := hq.now
          refine (HSA.out _ (hK.2.2 h11)).mono ?_
          rintro r u' ⟨⟨v, rfl⟩, hs⟩
          exact ⟨_, rfl, trivial, HTB.out _ hs.be, fun _ => hs, by simp [upd]⟩
        try go_frame
        repeat (go_big_quiet_step (fail))
        refine wpQuiet_nil ?_
        intro u hK
        have HSC := Lib.hid (hK.2.1 rfl)
        clear hK l0 l1 i1 hθ KA
        have KA := Lib.hid (HSC.out.below (Below.refl _ _).drew)
        have k0 : TT u.drew := HTB.out _ (HSC.out.below (Below.refl _ _).drew).be
        clear HSC
        go_wp2_with fail
        refine wp_theta [11] [11] (fun i v => True) (fun ρ D u => TT u ∧ (D 11 = true → WW w u g b x y MN MN) ∧ (D 11 = false → WW w u g b x y MN M)) (TT) ?_ ?_ ?_ ?_ ?_ ?_ ?_ ?_ ?_ ?_
        · kernel_rfl
        · kernel_rfl
        · kernel_rfl
        · kernel_rfl
        · kernel_rfl
        · kernel_rfl
        · exact fun i hi => ⟨undef, trivial⟩
        · exact ⟨k0, by simp, fun _ => KA.out⟩
        · exact fun ρ D u h => h.1
        · intro θ hθ
          simp only [SegsT, List.take_succ_cons, List.take_zero, List.drop_succ_cons, List.drop_zero, Nat.sub_zero, Nat.reduceSub, Nat.reduceAdd, List.drop_nil, List.take_nil]
          haveI i1 : Nonempty (Wd TT) := ⟨⟨_, k0⟩⟩
          have l0 : ∀ s : Wd TT, s.val.cell? ⟨ab, off + j * 2, none⟩ = some (.int .i64 AD) := fun s => (HTT.out _ s.prop).1
          have l1 : ∀ s : Wd TT, s.val.cell? ⟨ab, off + j * 2 + 1, none⟩ = some (.int .u32 VA) := fun s => (HTT.out _ s.prop).2
          clear k0
          repeat (go_big_quiet_step (fail))
          refine wpQuiet_nil ?_
          rw [if_pos (by decide)]
          refine ⟨thOK_call [] [] 19 _ _ (by kernel_rfl) rfl (by kernel_rfl) #[.pointer (some ⟨x, 0, none⟩), .int .i64 AD, .int .u32 VA] (by kernel_rfl) (by kernel_rfl) (fun ρ D u hq hK => ?_), ?_⟩
          · have h11 := hq.now
            refine (HSX.out _ (hK.2.2 h11)).mono ?_
            rintro r u' ⟨⟨v, rfl⟩, hs⟩
            exact ⟨_, rfl, trivial, HTB.out _ hs.be, fun _ => hs, by simp [upd]⟩
          try go_frame
          repeat (go_big_quiet_step (fail))
          refine wpQuiet_nil ?_
          intro u hK
          have HSC := Lib.hid (hK.2.1 rfl)
          clear hK l0 l1 i1 hθ KA
          have HF := Lib.hid (show ∃ MN, WW w u g b x y MN MN from ⟨_, HSC.out⟩)
          clear HSC HSA HSX HTT HTB HV
          go_wp2_with fail
          go_roundg (len - (j + 1))
          case measure => have := HK.out; omega
          case rel => obtain ⟨M2, h2⟩ := HF.out; exact ⟨j + 1, M2, by go_num, rfl, by omega, h2⟩
    · obtain rfl : len = j := by omega
      have HWA := Lib.hid (walk_any HW.out.a root page)
      generalize hz : wAny M 5 root page = z at *
      have HZ := Lib.hid hz
      clear hz
      go_wp2_with fail
      refine HWA.out.mono ?_
      rintro r w4 ⟨rfl, hb4⟩
      have HW4 := Lib.hid (HW.out.below hb4)
      have hx := rwalk_any HW4.out.c root page
      rw [HZ.out] at hx
      have HX := Lib.hid hx
      clear hb4 hx
      go_wp2_with fail
      refine HX.out.mono ?_
      rintro r w' ⟨rfl, rfl⟩
      go_wp2_with fail
      refine (walk_nil root page w4).mono ?_
      rintro r w' ⟨rfl, rfl⟩
      go_wp2
      go_ret
      exact ⟨by first | rfl | simp, HW4.out.be⟩
end Go.Proofs.Ytngjpokbjnjodaa
