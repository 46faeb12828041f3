import Derived.Test.YtjmdikabikgjhaaRunP
import Derived.Deep.LoopGhost
import Derived.OpenShut
import Derived.Outline
import Derived.Maps.RangeWalk
/- The walk of InsnRuns. -/
namespace Go.Proofs.Ytjmdikabikgjhaa
open Go.RowKit Go.BigFrame
set_option linter.unusedVariables false
set_option linter.unusedSimpArgs false
attribute [local go_sem] cpu_get cpu_get16 cpu_set cpu_set16 szIs_cpu szIs_lit row_at row_past row_alloc nf_alloc row_set nf_set row_cell nf_cell row_drew nf_drew row_drewN nf_drewN cell_setRow frozen_setRow nlt1 nlt2 nlt3 nlt4 nne1 nne2 nne3 nen1 nen2 nen3
attribute [local go_sem high] eql_cpu neq_cpu
attribute [local go_sem ↓] to_ld35 to_st35 to_ld38 to_st38
attribute [local go_sem] run_ld35 run_st35 run_ld38 run_st38
attribute [local go_sem high] neq_act
theorem add_of_plain (b o i : Nat) : (⟨b, o, none⟩ : Addr).add i = ⟨b, o + i, none⟩ := by cases i <;> rfl
theorem nums_plain {k : IntKind} {w : World} {B len cap : Nat} {a : Option Addr} {Y : Nat → Int} (h : Nums k w B a len cap Y) (hn : 0 < len) : ∃ b off, a = some ⟨b, off, none⟩ ∧ b < B ∧ ∀ i, i < len → w.cell? ⟨b, off + i, none⟩ = some (.int k (Y i)) := by
  obtain ⟨ad, rfl, h1, h2⟩ := h.2.2.2 hn
  have hsp : ad.spot = none := by
    have hv := h2 0 hn
    have e : ad.add 0 = ad := rfl
    rw [e] at hv
    cases hs : ad.spot with
    | none => rfl
    | some _ => unfold World.cell? at hv; simp [hs] at hv; split at hv <;> cases hv
  obtain ⟨b, off, sp⟩ := ad
  subst hsp
  refine ⟨b, off, rfl, h1, fun i hi => ?_⟩
  have := h2 i hi
  rwa [add_of_plain] at this
theorem KA.fin {R u : World} {x y : Array Value} {ρ : Nat → Value} {D : Nat → Bool} (h : KA R x y ρ D u) (d9 : D 9 = true) (d10 : D 10 = true) (d11 : D 11 = true) (d12 : D 12 = true) {g9 g10 : Nat} (e9 : ρ 9 = .pointer (some ⟨g9, 0, none⟩)) (e10 : ρ 10 = .pointer (some ⟨g10, 0, none⟩)) :
    Below R.heap.size R u ∧ R.heap.size ≤ g9 ∧ R.heap.size ≤ g10 ∧ Blk u g9 x ∧ Blk u g10 y := by
  obtain ⟨a, a1, a2, a3⟩ := h.h9 d9
  obtain ⟨c, c1, c2, c3⟩ := h.h10 d10
  obtain rfl : a = g9 := by rw [a1] at e9; injection e9 with e; injection e with e; injection e
  obtain rfl : c = g10 := by rw [c1] at e10; injection e10 with e; injection e with e; injection e
  rw [d11] at a3; rw [d12] at c3
  exact ⟨h.bl, a2, c2, a3, c3⟩
structure RI (W u : World) (b2 b5 : Nat) (c : Array Value) : Prop where
  bl : Below W.heap.size W u
  h2 : Blk u b2 c
  h5 : Blk u b5 c
  ne : b2 ≠ b5
  w2 : W.heap.size ≤ b2
  w5 : W.heap.size ≤ b5
theorem RI.next {W u u' : World} {b2 b5 : Nat} {c : Array Value} (h : RI W u b2 b5 c) (hb : Below u.heap.size u u') : RI W u' b2 b5 c := ⟨h.bl.trans (Below.mono hb h.bl.size), h.h2.below hb h.h2.lt, h.h5.below hb h.h5.lt, h.ne, h.w2, h.w5⟩
theorem RI.drew {W u : World} {b2 b5 : Nat} {c : Array Value} (h : RI W u b2 b5 c) : RI W u.drew b2 b5 c := h.next (Below.refl _ _).drew
set_option maxHeartbeats 4000000 in
set_option maxRecDepth 100000 in
theorem runs_walk (r0 : Nat → Int) (pc0 : Int) (A : Option Addr) (len cap : Nat) (zs : Nat → Int) (hr0 : ∀ i, word (r0 i)) (hpc0 : word pc0) (w : World) (hN : Nums .u32 w w.heap.size A len cap zs) (hz : len * 4 ≤ reachBytes) :
    Calls Try.prog 9 #[.agg (cpu r0 pc0), .slice A len cap] w fun e w' => e = .returned (.bool true) ∧ Below w.heap.size w w' := by
  have hlen : len ≤ 70368744177664 := by unfold reachBytes at hz; omega
  have HA := Lib.hid hN
  have Hli := Lib.hid lives_true
  have Hr0 := Lib.hid hr0
  have Hpc0 := Lib.hid hpc0
  clear hN hz hr0 hpc0
  go_enter Try.func9, Try.ntmps9
  go_wp2_with fail
  refine (Hli.out _).mono ?_; rintro e w1 ⟨rfl, hb1⟩
  have hz1 := hb1.size
  simp at hz1
  have q0 : Blk (w.alloc (.cells (cpu r0 pc0) 35)) w.heap.size (cpu r0 pc0) := Blk.new
  have q1 : Blk w1 w.heap.size (cpu r0 pc0) := q0.below hb1 q0.lt
  obtain ⟨p1, p2⟩ := q1
  have ne1 : w.heap.size ≠ w1.heap.size := by omega
  go_wp2_with fail
  go_loopg [6] len (fun m i_ wr => ∃ (k : Nat) (r : Nat → Int) (pc : Int), i_ = .int .i64 (k : Int) ∧ m = len - k ∧ k ≤ len ∧ (∀ i, word (r i)) ∧ word pc ∧ RI w wr w.heap.size w1.heap.size (cpu r pc))
  case atStart =>
    refine ⟨0, r0, pc0, rfl, rfl, by omega, Hr0.out, Hpc0.out, ⟨?_, ⟨by first | (go_simp; done) | (go_simp; intro hq; exfalso; omega) | (go_simp; omega) | (go_simp; rfl), by first | (go_simp; done) | (go_simp; intro hq; exfalso; omega) | (go_simp; omega) | (go_simp; rfl)⟩, ⟨by first | (go_simp; done) | (go_simp; intro hq; exfalso; omega) | (go_simp; omega) | (go_simp; rfl), by first | (go_simp; done) | (go_simp; intro hq; exfalso; omega) | (go_simp; omega) | (go_simp; rfl)⟩, ne1, Nat.le_refl _, by omega⟩⟩
    repeat (first | (with_reducible exact Below.refl _ _) | (with_reducible refine Below.alloc ?_ ?h _; (case h => (first | omega | (simp; done) | (simp; omega)))) | (with_reducible refine Below.drew ?_) | (with_reducible refine below_drewN ?_ _) | (with_reducible refine Below.setCell ?_ ?h _; (case h => (first | omega | (simp; done) | (simp; omega)))) | (with_reducible refine below_row ?_ ?h _; (case h => (first | omega | (simp; done) | (simp; omega)))) | (with_reducible refine Below.trans ?_ (Below.mono hb1 ?h); (case h => (first | omega | (simp; done) | (simp; omega)))))
  case round =>
    obtain ⟨k, r, pc, rfl, hm, hk, hr, hpc, hri⟩ := hrel
    have HK := Lib.hid hm
    have HRI := Lib.hid hri
    clear hm hri p1 p2 q0 hb1
    by_cases hlt : k < len
    · obtain ⟨ab, off, rfl, hab, hat⟩ := nums_plain HA.out (by omega)
      have d0 : wr.drew.cell? ⟨ab, off + k, none⟩ = some (.int .u32 (zs k)) := ((HRI.out.bl.drew).cell (p := ⟨ab, off + k, none⟩) hab).trans (hat k hlt)
      have hzw : word (zs k) := by
        have := HA.out.2.2.1 k
        exact Go.bounds_u32 this
      obtain ⟨r', pc', K, addr, size, reg, value, old, hr', hpc', hf, ⟨sp, sr⟩, few⟩ := step_both r pc (zs k) hr hpc hzw
      obtain ⟨r2, pc2, hr2, hpc2, ⟨fp, fr⟩, -⟩ := fin_both r' pc' K addr size reg value old ((k : Int) % 4294967296) hr' hpc' ⟨by omega, by omega⟩ hf
      have ea : actV K addr size reg value old = .agg (actC K addr size reg value old) := rfl
      rw [ea] at sp sr fp fr
      have Hcall := Lib.hid sp
      have Hsr := Lib.hid sr
      have Hfp := Lib.hid fp
      have Hfr := Lib.hid fr
      have HR2 := Lib.hid (And.intro hr2 hpc2)
      have HAT := Lib.hid (And.intro hab (hat k hlt))
      clear sp sr fp fr few hr' hpc' hf hr hpc hzw hr2 hpc2 hat hab ea
      have HV := Lib.hid (show RI w wr.drew w.heap.size w1.heap.size (cpu r pc) from HRI.out.drew)
      go_wp2_with fail
      generalize wr = v at *
      refine wp_theta [5, 9, 10] [5, 9, 10, 11, 12] (fun i v => (i = 5 → v = .tuple #[.agg (cpu r' pc'), .agg (actC K addr size reg value old)]) ∧ (i = 9 → ∃ g, v = .pointer (some ⟨g, 0, none⟩)) ∧ (i = 10 → ∃ g, v = .pointer (some ⟨g, 0, none⟩))) (KA v.drew (cpu r' pc') (actC K addr size reg value old)) (CW v.drew) ?_ ?_ ?_ ?_ ?_ ?_ ?_ ?_ ?_ ?_
      · kernel_rfl
      · kernel_rfl
      · kernel_rfl
      · kernel_rfl
      · kernel_rfl
      · kernel_rfl
      · intro i hi; simp at hi; rcases hi with rfl | rfl | rfl; exact ⟨.tuple #[.agg (cpu r' pc'), .agg (actC K addr size reg value old)], by simp⟩; exact ⟨.pointer (some ⟨0, 0, none⟩), by simp⟩; exact ⟨.pointer (some ⟨0, 0, none⟩), by simp⟩
      · exact KA.start _ _ _
      · exact fun ρ D u h => h.bl
      · intro θ hθ
        simp only [SegsT, List.take_succ_cons, List.take_zero, List.drop_succ_cons, List.drop_zero, Nat.sub_zero, Nat.reduceSub, Nat.reduceAdd, List.drop_nil, List.take_nil]
        haveI i1 : Nonempty (Wd (CW v.drew)) := ⟨⟨v.drew, Below.refl _ _⟩⟩
        have b0 : ∀ s : Wd (CW v.drew), (ld35 (.pointer (some ⟨w.heap.size, 0, none⟩))).run Try.prog s.val = .ok (.agg (cpu r pc)) s.val := fun s => (HV.out.h2.below s.prop HV.out.h2.lt).ld35
        have b1 : ∀ s : Wd (CW v.drew), s.val.cell? ⟨ab, off + k, none⟩ = some (.int .u32 (zs k)) := fun s => ((show Below v.drew.heap.size v.drew s.val from s.prop).cell (p := ⟨ab, off + k, none⟩) (by exact cell_lt d0)).trans d0
        obtain ⟨t5, ⟨g9, t9⟩, ⟨g10, t10⟩⟩ : θ 5 = .tuple #[.agg (cpu r' pc'), .agg (actC K addr size reg value old)] ∧ (∃ g, θ 9 = .pointer (some ⟨g, 0, none⟩)) ∧ (∃ g, θ 10 = .pointer (some ⟨g, 0, none⟩)) := ⟨(hθ 5 (by decide)).1 rfl, (hθ 9 (by decide)).2.1 rfl, (hθ 10 (by decide)).2.2 rfl⟩
        repeat (go_big_quiet_step (fail))
        refine wpQuiet_nil ?_
        rw [if_pos (by decide)]
        refine ⟨thOK_call [] [] 15 _ _ (by kernel_rfl) rfl (by kernel_rfl) #[.agg (cpu r pc), .int .u32 (zs k)] (by kernel_rfl) (by kernel_rfl) (fun ρ D u hq hK => ?_), ?_⟩
        · refine (Hcall.out _).mono ?_
          rintro e u' ⟨rfl, hb⟩
          exact ⟨_, rfl, ⟨fun _ => rfl, by simp, by simp⟩, hK.call hb _⟩
        rw [t5]
        try go_frame
        repeat (go_big_quiet_step (fail))
        refine wpQuiet_nil ?_
        rw [if_pos (by decide)]
        refine ⟨thOK_run [] [11] (by kernel_rfl) (by kernel_rfl) (fun ρ D u hq hK => ?_), ?_⟩
        · exact ⟨_, _, run_box_any (s := Instr.alloc 35 true (.tuple #[])) (by kernel_rfl) (al35 u), ⟨by simp, fun _ => ⟨_, rfl⟩, by simp⟩, hK.al9 (hq.not 11 (by simp))⟩
        rw [t9]
        try go_frame
        repeat (go_big_quiet_step (fail))
        refine wpQuiet_nil ?_
        rw [if_pos (by decide)]
        refine ⟨thOK_run [] [12] (by kernel_rfl) (by kernel_rfl) (fun ρ D u hq hK => ?_), ?_⟩
        · exact ⟨_, _, run_box_any (s := Instr.alloc 38 true (.tuple #[])) (by kernel_rfl) (al38 u), ⟨by simp, by simp, fun _ => ⟨_, rfl⟩⟩, hK.al10 (hq.not 12 (by simp))⟩
        rw [t10]
        try go_frame
        repeat (go_big_quiet_step (fail))
        refine wpQuiet_nil ?_
        rw [if_neg (by decide)]
        refine ⟨undef, detOK_skip [9] [] (by kernel_rfl) (by kernel_rfl) (fun ρ D u hq hK => ?_), ?_⟩
        · have e9 := (hq.gave 9 (by simp) (by decide)).trans t9
          have h9 := hq.did 9 (by simp)
          have hst := hK.st11 h9 e9
          obtain ⟨g, q1, q2, q3⟩ := hK.h9 h9
          obtain rfl : g = g9 := by rw [q1] at e9; injection e9 with e; injection e with e; injection e
          rw [if_neg (by rw [hq.now]; exact Bool.false_ne_true)] at q3
          exact ⟨_, run_skip_any (s := st35 (.pointer (some ⟨g, 0, none⟩)) (.agg (cpu r' pc'))) (by kernel_rfl) q3.st35, hst⟩
        try go_frame
        repeat (go_big_quiet_step (fail))
        refine wpQuiet_nil ?_
        rw [if_neg (by decide)]
        refine ⟨undef, detOK_skip [10] [] (by kernel_rfl) (by kernel_rfl) (fun ρ D u hq hK => ?_), ?_⟩
        · have e9 := (hq.gave 10 (by simp) (by decide)).trans t10
          have h9 := hq.did 10 (by simp)
          have hst := hK.st12 h9 e9
          obtain ⟨g, q1, q2, q3⟩ := hK.h10 h9
          obtain rfl : g = g10 := by rw [q1] at e9; injection e9 with e; injection e with e; injection e
          rw [if_neg (by rw [hq.now]; exact Bool.false_ne_true)] at q3
          exact ⟨_, run_skip_any (s := st38 (.pointer (some ⟨g, 0, none⟩)) (.agg (actC K addr size reg value old))) (by kernel_rfl) (q3.st38 rfl rfl (by simp [actC, Value.oneCell'])), hst⟩
        try go_frame
        repeat (go_big_quiet_step (fail))
        refine wpQuiet_nil ?_
        intro u hK
        have e9 : res [5, 9, 10] θ (fun j => decide (j < 13)) 9 = θ 9 := rfl
        have e10 : res [5, 9, 10] θ (fun j => decide (j < 13)) 10 = θ 10 := rfl
        have hfin := KA.fin hK rfl rfl rfl rfl (e9.trans t9) (e10.trans t10)
        obtain ⟨m1, m2, m3, m4, m5⟩ := hfin
        clear hK e9 e10 t5 t9 t10 b0 b1 i1 hθ
        have HV2 := Lib.hid (HV.out.next m1)
        have HM := Lib.hid (And.intro m4 m5)
        have HG := Lib.hid (And.intro m2 m3)
        have HV0 := Lib.hid HV.out
        have d1 : u.cell? ⟨ab, off + k, none⟩ = some (.int .u32 (zs k)) := (m1.cell (p := ⟨ab, off + k, none⟩) (cell_lt d0)).trans d0
        clear m1 m2 m3 m4 m5 d0 HV Hcall HRI
        have Hcall := Hsr
        clear Hsr
        have d0 : u.drew.cell? ⟨ab, off + k, none⟩ = some (.int .u32 (zs k)) := by rw [World.cell?_drew]; exact d1
        clear d1
        have HV := Lib.hid (show RI w u.drew w.heap.size w1.heap.size (cpu r pc) from HV2.out.drew)
        have HNg := Lib.hid (show (g9 ≠ w.heap.size ∧ g9 ≠ w1.heap.size) ∧ (g10 ≠ w.heap.size ∧ g10 ≠ w1.heap.size) by
          have l1 := HV0.out.h2.lt
          have l2 := HV0.out.h5.lt
          obtain ⟨x1, x2⟩ := HG.out
          exact ⟨⟨by omega, by omega⟩, ⟨by omega, by omega⟩⟩)
        clear HG HV0
        have HM' := Lib.hid (show Blk u.drew g9 (cpu r' pc') ∧ Blk u.drew g10 (actC K addr size reg value old) from ⟨HM.out.1.below (Below.refl _ _).drew HM.out.1.lt, HM.out.2.below (Below.refl _ _).drew HM.out.2.lt⟩)
        clear HM HV2
        generalize u = v at *
        generalize g9 = g7 at *
        generalize g10 = g8 at *
        go_wp2_with fail
        refine wp_theta [5, 9, 10] [5, 9, 10, 11, 12] (fun i v => (i = 5 → v = .tuple #[.agg (cpu r' pc'), .agg (actC K addr size reg value old)]) ∧ (i = 9 → ∃ g, v = .pointer (some ⟨g, 0, none⟩)) ∧ (i = 10 → ∃ g, v = .pointer (some ⟨g, 0, none⟩))) (KA v.drew (cpu r' pc') (actC K addr size reg value old)) (CW v.drew) ?_ ?_ ?_ ?_ ?_ ?_ ?_ ?_ ?_ ?_
        · kernel_rfl
        · kernel_rfl
        · kernel_rfl
        · kernel_rfl
        · kernel_rfl
        · kernel_rfl
        · intro i hi; simp at hi; rcases hi with rfl | rfl | rfl; exact ⟨.tuple #[.agg (cpu r' pc'), .agg (actC K addr size reg value old)], by simp⟩; exact ⟨.pointer (some ⟨0, 0, none⟩), by simp⟩; exact ⟨.pointer (some ⟨0, 0, none⟩), by simp⟩
        · exact KA.start _ _ _
        · exact fun ρ D u h => h.bl
        · intro θ hθ
          simp only [SegsT, List.take_succ_cons, List.take_zero, List.drop_succ_cons, List.drop_zero, Nat.sub_zero, Nat.reduceSub, Nat.reduceAdd, List.drop_nil, List.take_nil]
          haveI i1 : Nonempty (Wd (CW v.drew)) := ⟨⟨v.drew, Below.refl _ _⟩⟩
          have b0 : ∀ s : Wd (CW v.drew), (ld35 (.pointer (some ⟨w1.heap.size, 0, none⟩))).run Try.prog s.val = .ok (.agg (cpu r pc)) s.val := fun s => (HV.out.h5.below s.prop HV.out.h5.lt).ld35
          have b1 : ∀ s : Wd (CW v.drew), s.val.cell? ⟨ab, off + k, none⟩ = some (.int .u32 (zs k)) := fun s => ((show Below v.drew.heap.size v.drew s.val from s.prop).cell (p := ⟨ab, off + k, none⟩) (by exact cell_lt d0)).trans d0
          obtain ⟨t5, ⟨g9, t9⟩, ⟨g10, t10⟩⟩ : θ 5 = .tuple #[.agg (cpu r' pc'), .agg (actC K addr size reg value old)] ∧ (∃ g, θ 9 = .pointer (some ⟨g, 0, none⟩)) ∧ (∃ g, θ 10 = .pointer (some ⟨g, 0, none⟩)) := ⟨(hθ 5 (by decide)).1 rfl, (hθ 9 (by decide)).2.1 rfl, (hθ 10 (by decide)).2.2 rfl⟩
          repeat (go_big_quiet_step (fail))
          refine wpQuiet_nil ?_
          rw [if_pos (by decide)]
          refine ⟨thOK_call [] [] 16 _ _ (by kernel_rfl) rfl (by kernel_rfl) #[.agg (cpu r pc), .int .u32 (zs k)] (by kernel_rfl) (by kernel_rfl) (fun ρ D u hq hK => ?_), ?_⟩
          · refine (Hcall.out _).mono ?_
            rintro e u' ⟨rfl, hb⟩
            exact ⟨_, rfl, ⟨fun _ => rfl, by simp, by simp⟩, hK.call hb _⟩
          rw [t5]
          try go_frame
          repeat (go_big_quiet_step (fail))
          refine wpQuiet_nil ?_
          rw [if_pos (by decide)]
          refine ⟨thOK_run [] [11] (by kernel_rfl) (by kernel_rfl) (fun ρ D u hq hK => ?_), ?_⟩
          · exact ⟨_, _, run_box_any (s := Instr.alloc 35 true (.tuple #[])) (by kernel_rfl) (al35 u), ⟨by simp, fun _ => ⟨_, rfl⟩, by simp⟩, hK.al9 (hq.not 11 (by simp))⟩
          rw [t9]
          try go_frame
          repeat (go_big_quiet_step (fail))
          refine wpQuiet_nil ?_
          rw [if_pos (by decide)]
          refine ⟨thOK_run [] [12] (by kernel_rfl) (by kernel_rfl) (fun ρ D u hq hK => ?_), ?_⟩
          · exact ⟨_, _, run_box_any (s := Instr.alloc 38 true (.tuple #[])) (by kernel_rfl) (al38 u), ⟨by simp, by simp, fun _ => ⟨_, rfl⟩⟩, hK.al10 (hq.not 12 (by simp))⟩
          rw [t10]
          try go_frame
          repeat (go_big_quiet_step (fail))
          refine wpQuiet_nil ?_
          rw [if_neg (by decide)]
          refine ⟨undef, detOK_skip [9] [] (by kernel_rfl) (by kernel_rfl) (fun ρ D u hq hK => ?_), ?_⟩
          · have e9 := (hq.gave 9 (by simp) (by decide)).trans t9
            have h9 := hq.did 9 (by simp)
            have hst := hK.st11 h9 e9
            obtain ⟨g, q1, q2, q3⟩ := hK.h9 h9
            obtain rfl : g = g9 := by rw [q1] at e9; injection e9 with e; injection e with e; injection e
            rw [if_neg (by rw [hq.now]; exact Bool.false_ne_true)] at q3
            exact ⟨_, run_skip_any (s := st35 (.pointer (some ⟨g, 0, none⟩)) (.agg (cpu r' pc'))) (by kernel_rfl) q3.st35, hst⟩
          try go_frame
          repeat (go_big_quiet_step (fail))
          refine wpQuiet_nil ?_
          rw [if_neg (by decide)]
          refine ⟨undef, detOK_skip [10] [] (by kernel_rfl) (by kernel_rfl) (fun ρ D u hq hK => ?_), ?_⟩
          · have e9 := (hq.gave 10 (by simp) (by decide)).trans t10
            have h9 := hq.did 10 (by simp)
            have hst := hK.st12 h9 e9
            obtain ⟨g, q1, q2, q3⟩ := hK.h10 h9
            obtain rfl : g = g10 := by rw [q1] at e9; injection e9 with e; injection e with e; injection e
            rw [if_neg (by rw [hq.now]; exact Bool.false_ne_true)] at q3
            exact ⟨_, run_skip_any (s := st38 (.pointer (some ⟨g, 0, none⟩)) (.agg (actC K addr size reg value old))) (by kernel_rfl) (q3.st38 rfl rfl (by simp [actC, Value.oneCell'])), hst⟩
          try go_frame
          repeat (go_big_quiet_step (fail))
          refine wpQuiet_nil ?_
          intro u hK
          have e9 : res [5, 9, 10] θ (fun j => decide (j < 13)) 9 = θ 9 := rfl
          have e10 : res [5, 9, 10] θ (fun j => decide (j < 13)) 10 = θ 10 := rfl
          have hfin := KA.fin hK rfl rfl rfl rfl (e9.trans t9) (e10.trans t10)
          obtain ⟨m1, m2, m3, m4, m5⟩ := hfin
          clear hK e9 e10 t5 t9 t10 b0 b1 i1 hθ
          have HV2 := Lib.hid (HV.out.next m1)
          have HMa := Lib.hid (show Blk u g7 (cpu r' pc') ∧ Blk u g8 (actC K addr size reg value old) from ⟨HM'.out.1.below m1 HM'.out.1.lt, HM'.out.2.below m1 HM'.out.2.lt⟩)
          have HMb := Lib.hid (show Blk u g9 (cpu r' pc') ∧ Blk u g10 (actC K addr size reg value old) from ⟨m4, m5⟩)
          have HNE := Lib.hid (show (g7 ≠ w.heap.size ∧ g7 ≠ w1.heap.size) ∧ (g8 ≠ w.heap.size ∧ g8 ≠ w1.heap.size) ∧ (g9 ≠ w.heap.size ∧ g9 ≠ w1.heap.size) ∧ (g10 ≠ w.heap.size ∧ g10 ≠ w1.heap.size) by
            have l1 := HV.out.h2.lt
            have l2 := HV.out.h5.lt
            obtain ⟨x1, x2⟩ := HNg.out
            exact ⟨x1, x2, ⟨by omega, by omega⟩, ⟨by omega, by omega⟩⟩)
          clear m1 m2 m3 m4 m5 d0 HV Hcall HM' HNg
          generalize u = v at *
          obtain ⟨r7, n7⟩ := HMa.out.1
          obtain ⟨r8, n8⟩ := HMa.out.2
          obtain ⟨r9, n9⟩ := HMb.out.1
          obtain ⟨r10, n10⟩ := HMb.out.2
          have s8 : szIs (actC K addr size reg value old) 6 = true := rfl
          go_wp2_with fail
          refine wp_theta [4, 9] [4, 9, 10, 11] (fun i v => (i = 4 → v = .agg (cpu r2 pc2)) ∧ (i = 9 → v = .agg (cpu r2 pc2))) (fun ρ D u => KB w v.drew w.heap.size w1.heap.size (cpu r pc) (cpu r2 pc2) D u) (CQ w1.heap.size w.heap.size v.drew) ?_ ?_ ?_ ?_ ?_ ?_ ?_ ?_ ?_ ?_
          · kernel_rfl
          · kernel_rfl
          · kernel_rfl
          · kernel_rfl
          · kernel_rfl
          · kernel_rfl
          · exact fun i hi => ⟨.agg (cpu r2 pc2), fun _ => rfl, fun _ => rfl⟩
          · exact ⟨HV2.out.drew.bl, Nat.le_refl _, fun _ _ _ _ => rfl, HV2.out.drew.h2, HV2.out.drew.h5⟩
          · exact fun ρ D u h => h.same
          · intro θ hθ
            simp only [SegsT, List.take_succ_cons, List.take_zero, List.drop_succ_cons, List.drop_zero, Nat.sub_zero, Nat.reduceSub, Nat.reduceAdd, List.drop_nil, List.take_nil]
            haveI i1 : Nonempty (Wd (CQ w1.heap.size w.heap.size v.drew)) := ⟨⟨v.drew, fun _ _ _ _ => rfl⟩⟩
            have b7 : ∀ s : Wd (CQ w1.heap.size w.heap.size v.drew), (ld35 (.pointer (some ⟨g7, 0, none⟩))).run Try.prog s.val = .ok (.agg (cpu r' pc')) s.val := fun s => (HMa.out.1.heap (s.prop g7 HMa.out.1.lt HNE.out.1.1 HNE.out.1.2)).ld35
            have b9 : ∀ s : Wd (CQ w1.heap.size w.heap.size v.drew), (ld35 (.pointer (some ⟨g9, 0, none⟩))).run Try.prog s.val = .ok (.agg (cpu r' pc')) s.val := fun s => (HMb.out.1.heap (s.prop g9 HMb.out.1.lt HNE.out.2.2.1.1 HNE.out.2.2.1.2)).ld35
            have b8 : ∀ s : Wd (CQ w1.heap.size w.heap.size v.drew), (ld38 (.pointer (some ⟨g8, 0, none⟩))).run Try.prog s.val = .ok (.agg (actC K addr size reg value old)) s.val := fun s => (HMa.out.2.heap (s.prop g8 HMa.out.2.lt HNE.out.2.1.1 HNE.out.2.1.2)).ld38 rfl
            have b10 : ∀ s : Wd (CQ w1.heap.size w.heap.size v.drew), (ld38 (.pointer (some ⟨g10, 0, none⟩))).run Try.prog s.val = .ok (.agg (actC K addr size reg value old)) s.val := fun s => (HMb.out.2.heap (s.prop g10 HMb.out.2.lt HNE.out.2.2.2.1 HNE.out.2.2.2.2)).ld38 rfl
            obtain ⟨t4, t9⟩ : θ 4 = .agg (cpu r2 pc2) ∧ θ 9 = .agg (cpu r2 pc2) := ⟨(hθ 4 (by decide)).1 rfl, (hθ 9 (by decide)).2 rfl⟩
            clear r7 r8 r9 r10 n7 n8 n9 n10
            repeat (go_big_quiet_step (fail))
            refine wpQuiet_nil ?_
            rw [if_pos (by decide)]
            refine ⟨thOK_call [] [] 17 _ _ (by kernel_rfl) rfl (by kernel_rfl) #[.agg (cpu r' pc'), .agg (actC K addr size reg value old), .int .u32 ((k : Int) % 4294967296)] (by kernel_rfl) (by kernel_rfl) (fun ρ D u hq hK => ?_), ?_⟩
            · refine (Hfp.out _).mono ?_
              rintro e u' ⟨rfl, hb⟩
              exact ⟨_, rfl, ⟨fun _ => rfl, by simp⟩, hK.call hb 4 (by decide) (by decide)⟩
            rw [t4]
            try go_frame
            repeat (go_big_quiet_step (fail))
            refine wpQuiet_nil ?_
            rw [if_pos (by decide)]
            refine ⟨thOK_call [] [] 18 _ _ (by kernel_rfl) rfl (by kernel_rfl) #[.agg (cpu r' pc'), .agg (actC K addr size reg value old), .int .u32 ((k : Int) % 4294967296)] (by kernel_rfl) (by kernel_rfl) (fun ρ D u hq hK => ?_), ?_⟩
            · refine (Hfr.out _).mono ?_
              rintro e u' ⟨rfl, hb⟩
              exact ⟨_, rfl, ⟨by simp, fun _ => rfl⟩, hK.call hb 9 (by decide) (by decide)⟩
            rw [t9]
            try go_frame
            repeat (go_big_quiet_step (fail))
            refine wpQuiet_nil ?_
            rw [if_neg (by decide)]
            refine ⟨undef, detOK_skip [] [] (by kernel_rfl) (by kernel_rfl) (fun ρ D u hq hK => ?_), ?_⟩
            · have hst := hK.st10 HV2.out.ne HV2.out.w2
              have q3 := hK.h2
              rw [if_neg (by rw [hq.now]; exact Bool.false_ne_true)] at q3
              exact ⟨_, run_skip_any (s := st35 (.pointer (some ⟨w.heap.size, 0, none⟩)) (.agg (cpu r2 pc2))) (by kernel_rfl) q3.st35, hst⟩
            try go_frame
            repeat (go_big_quiet_step (fail))
            refine wpQuiet_nil ?_
            rw [if_neg (by decide)]
            refine ⟨undef, detOK_skip [] [] (by kernel_rfl) (by kernel_rfl) (fun ρ D u hq hK => ?_), ?_⟩
            · have hst := hK.st11 HV2.out.ne HV2.out.w5
              have q3 := hK.h5
              rw [if_neg (by rw [hq.now]; exact Bool.false_ne_true)] at q3
              exact ⟨_, run_skip_any (s := st35 (.pointer (some ⟨w1.heap.size, 0, none⟩)) (.agg (cpu r2 pc2))) (by kernel_rfl) q3.st35, hst⟩
            try go_frame
            repeat (go_big_quiet_step (fail))
            refine wpQuiet_nil ?_
            intro u hK
            have hF := Lib.hid (show RI w u w.heap.size w1.heap.size (cpu r2 pc2) from ⟨hK.bl, hK.h2, hK.h5, HV2.out.ne, HV2.out.w2, HV2.out.w5⟩)
            clear hK t4 t9 b7 b8 b9 b10 i1 hθ HV2 HMa HMb HNE
            go_wp2_with fail
            go_roundg (len - (k + 1))
            case measure => have := HK.out; omega
            case rel => exact ⟨k + 1, r2, pc2, by go_num, rfl, by omega, HR2.out.1, HR2.out.2, hF.out⟩
    · obtain rfl : k = len := by omega
      obtain ⟨p1, p2⟩ := HRI.out.h2
      obtain ⟨p3, p4⟩ := HRI.out.h5
      go_wp2
      go_ret
      exact ⟨by first | rfl | simp, HRI.out.bl⟩
end Go.Proofs.Ytjmdikabikgjhaa
