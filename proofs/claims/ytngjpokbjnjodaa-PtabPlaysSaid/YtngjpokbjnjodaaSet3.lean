import Derived.Test.YtngjpokbjnjodaaSet2
import Derived.Test.YtngjpokbjnjodaaNobody
import Derived.Deep.QuietTactic
import Derived.BigQuiet
import Derived.Deep.LoopGhost
import Derived.Deep.Cut
import Derived.Deep.CutRange
import Derived.Deep.DeepMust
/- A table in memory; Set, whatever comes; All of a table without entries. -/
namespace Go.Proofs.Ytngjpokbjnjodaa
open Go.RowKit Go.BigFrame
set_option linter.unusedVariables false
set_option linter.unusedSimpArgs false
attribute [local go_sem] szIs_lit row_at row_past row_alloc nf_alloc row_set nf_set row_cell nf_cell row_drew nf_drew row_drewN nf_drewN cell_setRow frozen_setRow nlt1 nlt2 nlt3 nlt4 nne1 nne2 nne3 nen1 nen2 nen3
attribute [local go_sem] by_get by_set
open Go.Shelf
structure TS (w : World) (g b F t root : Nat) (L : Nat → Option Nat) (E : Nat → Int) : Prop where
  ex : ∃ M, MP w g b F M ∧ TB M F root L E
  ht : Blk w t (tabS g root)
  ne : t ≠ b
  hr : root < F
/-- What Set does. -/
def SetR (F : Nat) (p e spare : Int) (L : Nat → Option Nat) (E : Nat → Int) (u : Bool) (v : Int) (L' : Nat → Option Nat) (E' : Nat → Int) : Prop :=
  (¬ (0 ≤ p ∧ p < 256) ∧ u = false ∧ v = 1 ∧ L' = L ∧ E' = E) ∨
  ∃ q : Nat, p = q ∧ q < 256 ∧
    ((mayE F e = false ∧ u = false ∧ v = 50 ∧ L' = L ∧ E' = E) ∨
     (mayE F e = true ∧ (L (q / 64)).isSome = true ∧ u = false ∧ v = 0 ∧ L' = L ∧ E' = updE E q e) ∨
     (mayE F e = true ∧ L (q / 64) = none ∧ e = 0 ∧ u = false ∧ v = 0 ∧ L' = L ∧ E' = E) ∨
     (mayE F e = true ∧ L (q / 64) = none ∧ e ≠ 0 ∧ spare < 0 ∧ u = false ∧ v = 2 ∧ L' = L ∧ E' = E) ∨
     (mayE F e = true ∧ L (q / 64) = none ∧ e ≠ 0 ∧ (F : Int) ≤ spare ∧ u = false ∧ v = 10 ∧ L' = L ∧ E' = E) ∨
     (mayE F e = true ∧ L (q / 64) = none ∧ e ≠ 0 ∧ ∃ s : Nat, spare = s ∧ s < F ∧ u = true ∧ v = 0 ∧ L' = updL L (q / 64) s ∧ E' = updE E q e))
section
variable {w w' : World} {g b F t root : Nat} {L : Nat → Option Nat} {E : Nat → Int}
theorem TS.below (h : TS w g b F t root L E) (hb : Below w.heap.size w w') : TS w' g b F t root L E := by
  obtain ⟨M, h1, h2⟩ := h.ex
  exact ⟨⟨M, h1.below hb, h2⟩, h.ht.below hb h.ht.lt, h.ne, h.hr⟩
theorem grown_none (hb : Below w.heap.size w w') : w.grownBy w' none := ⟨hb.os, hb.tape, hb.output, hb.size, fun k hk _ => hb.block k hk⟩
theorem grown_some (hb : Below w.heap.size w w') (b : Nat) : w.grownBy w' (some b) := ⟨hb.os, hb.tape, hb.output, hb.size, fun k hk _ => hb.block k hk⟩
theorem set_all (h : TS w g b F t root L E) (p e spare : Int) (he : 0 ≤ e ∧ e ≤ 4294967295) (hsp : ∀ s : Nat, spare = s → s ≠ root ∧ ∀ k, k < 4 → L k ≠ some s) :
    Calls Try.prog 23 #[.pointer (some ⟨t, 0, none⟩), .int .i64 p, .int .u32 e, .int .i64 spare] w fun r w' => ∃ u v L' E', r = .returned (.tuple #[.bool u, .int .i64 v]) ∧ TS w' g b F t root L' E' ∧ w.grownBy w' (some b) ∧ SetR F p e spare L E u v L' E' := by
  obtain ⟨M, h1, h2⟩ := h.ex
  by_cases hp : 0 ≤ p ∧ p < 256
  · obtain ⟨q, rfl⟩ := Int.eq_ofNat_of_zero_le hp.1
    have hq : q < 256 := by omega
    cases hm : mayE F e with
    | false => exact (set_may h1 h.ht q e spare hq he.1 he.2 hm).mono fun r w' ⟨r1, r2⟩ => ⟨_, _, L, E, r1, h.below r2, grown_some r2 b, .inr ⟨q, rfl, hq, .inl ⟨hm, rfl, rfl, rfl, rfl⟩⟩⟩
    | true =>
      have hh := h2.has q hq
      cases hl : L (q / 64) with
      | some f =>
        rw [hl] at hh
        exact (set_put h1 h.ht h.ne h.hr q e spare hq he.1 he.2 hm hh).mono fun r w' ⟨r1, r2, r3, r4⟩ => ⟨_, _, L, _, r1, ⟨⟨_, r2, h2.put q hq hl e he⟩, r3, h.ne, h.hr⟩, r4, .inr ⟨q, rfl, hq, .inr (.inl ⟨hm, by rw [hl]; rfl, rfl, rfl, rfl, rfl⟩)⟩⟩
      | none =>
        rw [hl] at hh
        by_cases hz : e = 0
        · exact (set_none h1 h.ht h.ne h.hr q e spare hq he.1 he.2 hm hh hz).mono fun r w' ⟨r1, r2⟩ => ⟨_, _, L, E, r1, h.below r2, grown_some r2 b, .inr ⟨q, rfl, hq, .inr (.inr (.inl ⟨hm, hl, hz, rfl, rfl, rfl, rfl⟩))⟩⟩
        · by_cases hs : spare < 0
          · exact (set_neg h1 h.ht h.ne h.hr q e spare hq he.1 he.2 hm hh hz hs).mono fun r w' ⟨r1, r2⟩ => ⟨_, _, L, E, r1, h.below r2, grown_some r2 b, .inr ⟨q, rfl, hq, .inr (.inr (.inr (.inl ⟨hm, hl, hz, hs, rfl, rfl, rfl, rfl⟩)))⟩⟩
          · by_cases hs2 : (F : Int) ≤ spare
            · exact (set_far h1 h.ht h.ne h.hr q e spare hq he.1 he.2 hm hh hz hs2).mono fun r w' ⟨r1, r2⟩ => ⟨_, _, L, E, r1, h.below r2, grown_some r2 b, .inr ⟨q, rfl, hq, .inr (.inr (.inr (.inr (.inl ⟨hm, hl, hz, hs2, rfl, rfl, rfl, rfl⟩))))⟩⟩
            · obtain ⟨s, rfl⟩ := Int.eq_ofNat_of_zero_le (show 0 ≤ spare by omega)
              obtain ⟨n1, n2⟩ := hsp s rfl
              have hg := h2.grow q s hq hl (by omega) h1.f1.2 n1 n2
              have hh2 := hg.has q hq
              have hl2 : updL L (q / 64) s (q / 64) = some s := by unfold updL; rw [if_pos rfl]
              rw [hl2] at hh2
              exact (set_grow h1 h.ht h.ne h.hr q s e hq (by omega) he.2 hm hh (by omega) hh2).mono fun r w' ⟨r1, r2, r3, r4⟩ => ⟨_, _, _, _, r1, ⟨⟨_, r2, hg.put q hq hl2 e he⟩, r3, h.ne, h.hr⟩, r4, .inr ⟨q, rfl, hq, .inr (.inr (.inr (.inr (.inr ⟨hm, hl, hz, s, rfl, by omega, rfl, rfl, rfl, rfl⟩))))⟩⟩
  · exact (set_page h.ht p e spare hp).mono fun r w' ⟨r1, r2⟩ => ⟨_, _, L, E, r1, by subst r2; exact h, by subst r2; exact only_refl _ _, .inl ⟨hp, rfl, rfl, rfl, rfl⟩⟩
theorem TS.walk (h : TS w g b F t root L E) (p : Nat) (hp : p < 256) : Calls Try.prog 20 #[.pointer (some ⟨g, 0, none⟩), .int .i64 (root : Int), .int .i64 (p : Int)] w fun e w' => e = .returned (.int .u32 (E p)) ∧ Below w.heap.size w w' := by
  obtain ⟨M, h1, h2⟩ := h.ex
  have := walk_ok h1 root p h.hr hp
  rwa [h2.wlk p hp] at this
set_option maxHeartbeats 2000000 in
set_option maxRecDepth 20000 in
theorem all_zero_stops (n x : Nat) (Kp : World → World → Prop) (w0 : World) (hT : TS w0 g b F t root L E) (hE : ∀ p, p < 256 → E p = 0) (hx : Blk w0 x #[.pointer (some ⟨t, 0, none⟩)]) : SeqStopsK Fence.wide n Try.prog 48 #[.pointer (some ⟨x, 0, none⟩)] ecs Kp (fun xs => xs = []) (fun _ => False) 0 w0 := fun l J Jx W hW hJ hJx hY h0 => by
  refine callsIn_wide.2 ?_
  have hX := hx.below hW hx.lt
  have HX := Lib.hid hX
  have hc : W.cell? ⟨x, 0, none⟩ = some (.pointer (some ⟨t, 0, none⟩)) := (hX.all.2.2.1 0).trans rfl
  have HT := Lib.hid (hT.below hW)
  have HM := Lib.hid (made_ok (hT.below hW).ht)
  have HJ := Lib.hid (show ∀ W', Below W.heap.size W W' → J [] W' from fun W' hb => hJ [] W W' none h0 (grown_none hb) (fun r e => by cases e))
  have HE := Lib.hid hE
  clear hY h0 hJ hJx hW hx hX hT hE
  simp only [List.append_toArray, List.cons_append, List.nil_append]
  go_enter Try.func48, Try.ntmps48
  go_wp2_with fail
  refine HM.out.mono ?_
  rintro r w' ⟨rfl, rfl⟩
  go_wp2_with fail
  go_loopg [8] 256 (fun k i_ wr => ∃ (j : Nat), i_ = .int .i64 (j : Int) ∧ k = 256 - j ∧ j ≤ 256 ∧ Below W.heap.size W wr)
  case atStart => exact ⟨0, rfl, rfl, by omega, Below.refl _ _⟩
  case round =>
    obtain ⟨j, rfl, hk, hj, hb⟩ := hrel
    have HK := Lib.hid hk
    have HB := Lib.hid hb
    clear hk hb hc
    by_cases hlt : j < 256
    · obtain ⟨TT, hTT⟩ : ∃ TT : World → Prop, TT = fun u => Below W.heap.size W u := ⟨_, rfl⟩
      have HTT := Lib.hid (show ∀ u, TT u → TS u g b F t root L E ∧ Blk u x #[.pointer (some ⟨t, 0, none⟩)] ∧ Below W.heap.size W u from fun u h => by rw [hTT] at h; exact ⟨HT.out.below h, HX.out.below h HX.out.lt, h⟩)
      have HTB := Lib.hid (show ∀ u, Below W.heap.size W u → TT u from fun u h => by rw [hTT]; exact h)
      have k0 : TT wr.drew := HTB.out _ (HB.out.trans (Below.mono (Below.refl _ _).drew HB.out.size))
      have hE0 := HE.out j hlt
      have HE0 := Lib.hid hE0
      clear hTT hE0
      go_wp2_with fail
      refine wp_theta [9] [9] (fun i v => i = 9 → v = .int .u32 0) (fun ρ D u => TT u) (TT) ?_ ?_ ?_ ?_ ?_ ?_ ?_ ?_ ?_ ?_
      · kernel_rfl
      · kernel_rfl
      · kernel_rfl
      · kernel_rfl
      · kernel_rfl
      · kernel_rfl
      · exact fun i hi => ⟨_, fun _ => rfl⟩
      · exact k0
      · exact fun ρ D u h => h
      · intro θ hθ
        simp only [SegsT, List.take_succ_cons, List.take_zero, List.drop_succ_cons, List.drop_zero, Nat.sub_zero, Nat.reduceSub, Nat.reduceAdd, List.drop_nil, List.take_nil]
        haveI i1 : Nonempty (Wd TT) := ⟨⟨_, k0⟩⟩
        have l2 : ∀ s : Wd TT, s.val.cell? ⟨x, 0, none⟩ = some (.pointer (some ⟨t, 0, none⟩)) := fun s => ((HTT.out _ s.prop).2.1.all.2.2.1 0).trans rfl
        have l0 : ∀ s : Wd TT, s.val.cell? ⟨t, 0, none⟩ = some (.pointer (some ⟨g, 0, none⟩)) := fun s => ((HTT.out _ s.prop).1.ht.all.2.2.1 0).trans rfl
        have l1 : ∀ s : Wd TT, s.val.cell? ⟨t, 1, none⟩ = some (.int .i64 (root : Int)) := fun s => ((HTT.out _ s.prop).1.ht.all.2.2.1 1).trans rfl
        clear k0
        have t9 := hθ 9 (by decide) rfl
        repeat (go_big_quiet_step (fail))
        refine wpQuiet_nil ?_
        rw [if_pos (by decide)]
        refine ⟨thOK_call [] [] 20 _ _ (by kernel_rfl) rfl (by kernel_rfl) #[.pointer (some ⟨g, 0, none⟩), .int .i64 (root : Int), .int .i64 (j : Int)] (by kernel_rfl) (by kernel_rfl) (fun ρ D u hq hK => ?_), ?_⟩
        · obtain ⟨g1, g2, g3⟩ := HTT.out u hK
          have hwk := g1.walk j hlt
          rw [HE0.out] at hwk
          refine hwk.mono ?_
          rintro r u' ⟨rfl, hb⟩
          exact ⟨_, rfl, fun _ => rfl, HTB.out _ (g3.trans (Below.mono hb g3.size))⟩
        rw [t9]
        try go_frame
        repeat (go_big_quiet_step (fail))
        refine wpQuiet_nil ?_
        intro u hK
        have HBU := Lib.hid (HTT.out u hK).2.2
        clear hK t9 l0 l1 l2 i1 hθ HTT HTB HE0
        go_wp2_with fail
        go_roundg (256 - (j + 1))
        case measure => have := HK.out; omega
        case rel => exact ⟨j + 1, by go_num, rfl, by omega, HBU.out⟩
    · obtain rfl : j = 256 := by omega
      go_wp2
      refine bodyPost_end (results_none rfl _ _ _) rfl ?_
      exact ⟨⟨_, rfl⟩, .inl ⟨[], rfl, HJ.out _ HB.out⟩⟩
end
end Go.Proofs.Ytngjpokbjnjodaa
