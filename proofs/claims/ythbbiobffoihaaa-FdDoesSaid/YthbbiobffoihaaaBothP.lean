import Derived.Test.YthbbiobffoihaaaLooks
/- A call of the program's, then the reference's: they tell the same. -/
namespace Go.Proofs.Ythbbiobffoihaaa
open Go.RowKit Go.BigFrame
set_option linter.unusedVariables false
set_option linter.unusedSimpArgs false
def RB (L : PL Fl) (B : Int) : Prop := ∀ x q, PL.get L x = some q → 1 ≤ q.2.rf ∧ q.2.rf ≤ B
/-- What the walk reads between the calls: the struct's cells, the call's copy. -/
structure CF (ob oc g r : Nat) (x0 x1 x2 x3 x4 : Int) (u : World) : Prop where
  c0 : u.cell? ⟨ob, 0, none⟩ = some (.pointer (some ⟨g, 0, none⟩))
  c2 : u.cell? ⟨ob, 2, none⟩ = some (.pointer (some ⟨r, 0, none⟩))
  op : Blk u oc #[.int .i64 x0, .int .i64 x1, .int .i64 x2, .int .i64 x3, .int .i64 x4]
theorem CF.ch {ob oc g r : Nat} {x0 x1 x2 x3 x4 : Int} {u u' : World} {F : Nat → Prop} (h : CF ob oc g r x0 x1 x2 x3 x4 u) (hc : Ch F u u') (h1 : ¬ F ob) (h2 : ¬ F oc) : CF ob oc g r x0 x1 x2 x3 x4 u' :=
  ⟨(World.cell?_of_block (a := ⟨ob, 0, none⟩) (hc.block ob (cell_lt h.c0) h1)).trans h.c0, (World.cell?_of_block (a := ⟨ob, 2, none⟩) (hc.block ob (cell_lt h.c2) h1)).trans h.c2, h.op.ch hc h2⟩
/-- What all of it stands on. -/
structure BH (w0 wA : World) (ob g m a c r y cy oc : Nat) (ts : TS) (xs : List Nat) (L : PL Fl) (x0 x1 x2 x3 x4 : Int) : Prop where
  w2 : W2 w0 wA ob g m a c r y cy ts xs L
  op : Blk wA oc #[.int .i64 x0, .int .i64 x1, .int .i64 x2, .int .i64 x3, .int .i64 x4]
  no : ¬ Own2 ob g m a r y ts xs L oc
  oge : w0.heap.size ≤ oc
section
variable {w0 wA u u' : World} {ob g m a c r y cy oc : Nat} {ts : TS} {xs : List Nat} {L LF LR L' : PL Fl} {x0 x1 x2 x3 x4 : Int}
/-- The files of both, where the program's say LF, the reference's LR. -/
structure ST (wA : World) (ob g m r oc : Nat) (L : PL Fl) (x0 x1 x2 x3 x4 : Int) (LF LR : PL Fl) (u : World) : Prop where
  fr : FR u g m LF
  rf : RF u r LR
  cf : CF ob oc g r x0 x1 x2 x3 x4 u
  ch : Ch (fun k => PL.foot m L k ∨ k = r) wA u
theorem BH.cf (h : BH w0 wA ob g m a c r y cy oc ts xs L x0 x1 x2 x3 x4) : CF ob oc g r x0 x1 x2 x3 x4 wA := ⟨h.w2.lp.own.cells.1, h.w2.lp.own.cells.2.2.1, h.op⟩
theorem BH.st (h : BH w0 wA ob g m a c r y cy oc ts xs L x0 x1 x2 x3 x4) : ST wA ob g m r oc L x0 x1 x2 x3 x4 L L wA := ⟨h.w2.lp.own.fr, h.w2.rx.rf, h.cf, Ch.refl _ _⟩
theorem BH.rnf (h : BH w0 wA ob g m a c r y cy oc ts xs L x0 x1 x2 x3 x4) : ¬ FR.all g m L r := fun q => (h.w2.sep r (.inr (.inr (.inl q)))).1 rfl
theorem BH.onf (h : BH w0 wA ob g m a c r y cy oc ts xs L x0 x1 x2 x3 x4) : ¬ PL.foot m L ob ∧ ob ≠ r ∧ ¬ PL.foot m L oc ∧ oc ≠ r :=
  ⟨fun q => h.w2.lp.own.of (.inr q), (h.w2.sep ob (.inl rfl)).1, fun q => h.no (.inl (.inr (.inr (.inl (.inr q))))), fun e => h.no (.inr (.inl e))⟩
/-- The program's call. -/
theorem ST.prog (hB : BH w0 wA ob g m a c r y cy oc ts xs L x0 x1 x2 x3 x4) (h : ST wA ob g m r oc L x0 x1 x2 x3 x4 L LR u) (hF : FR u' g m L') (hC : Ch (PL.foot m L) u u') : ST wA ob g m r oc L x0 x1 x2 x3 x4 L' LR u' :=
  ⟨hF, h.rf.ch hC (fun q => hB.rnf (.inr q)), h.cf.ch hC hB.onf.1 hB.onf.2.2.1, h.ch.trans hC (fun k _ q => .inl q)⟩
/-- The reference's. -/
theorem ST.ref (hB : BH w0 wA ob g m a c r y cy oc ts xs L x0 x1 x2 x3 x4) (h : ST wA ob g m r oc L x0 x1 x2 x3 x4 LF LR u) (hr : ¬ FR.all g m LF r) (hR : RF u' r L') (hC : Ch (· = r) u u') : ST wA ob g m r oc L x0 x1 x2 x3 x4 LF L' u' :=
  ⟨h.fr.ch hC (fun k q e => hr (by rw [← e]; exact q)), hR, h.cf.ch hC hB.onf.2.1 hB.onf.2.2.2, h.ch.trans hC (fun k _ q => .inr q)⟩
/-- Newer blocks may change. -/
theorem ST.firm (hB : BH w0 wA ob g m a c r y cy oc ts xs L x0 x1 x2 x3 x4) (hlt : ∀ k, FR.all g m LF k → k < wA.heap.size) : Firm wA.heap.size (ST wA ob g m r oc L x0 x1 x2 x3 x4 LF LR) := by
  intro u u' h hc
  have h1 := hB.w2.rx.rfoot.1
  have h2 := hB.w2.lp.own.lt (k := ob) (.inl rfl)
  have h3 := hB.op.lt
  exact ⟨h.fr.ch hc (fun k q e => by have := hlt k q; omega), h.rf.ch hc (by omega), h.cf.ch hc (by omega) (by omega), h.ch.trans (Ch.mono (F2 := fun k => wA.heap.size ≤ k ) hc fun k _ q => q) (fun k hk q => by omega)⟩
/-- Both have done it. -/
theorem ST.done (hB : BH w0 wA ob g m a c r y cy oc ts xs L x0 x1 x2 x3 x4) (h : ST wA ob g m r oc L x0 x1 x2 x3 x4 L' L' u) (hL : ∀ k, FR.all g m L' k → FR.all g m L k ∨ wA.heap.size ≤ k) : W2 w0 u ob g m a c r y cy ts xs L' := by
  have hw := hB.w2
  obtain ⟨b1, b2, b3⟩ := hw.rx.rfoot
  have hall : ∀ k, WR.all ob g m a ts L' k → WR.all ob g m a ts L k ∨ wA.heap.size ≤ k := by
    intro k hk
    rcases hk with q | q | q | q
    · exact .inl (.inl q)
    · exact .inl (.inr (.inl q))
    · rcases hL k q with q | q
      · exact .inl (.inr (.inr (.inl q)))
      · exact .inr q
    · exact .inl (.inr (.inr (.inr q)))
  have nf : ∀ k, WR.all ob g m a ts L k → ¬ FR.all g m L k → ¬ (PL.foot m L k ∨ k = r) := fun k hk hn q => q.elim (fun q => hn (.inr q)) (fun q => (hw.sep k hk).1 q)
  have nfr : ∀ k, (k = y ∨ k ∈ xs) → ¬ (PL.foot m L k ∨ k = r) := by
    intro k hk q
    rcases q with q | q
    · have := hw.sep k (.inr (.inr (.inl (.inr q))))
      rcases hk with e | e
      · exact this.2.1 e
      · exact this.2.2 e
    · subst q
      rcases hk with e | e
      · exact hw.rx.ap.1 e
      · exact hw.rx.ap.2.1 e
  have hnew : ∀ k, ¬ FR.all g m L k → k < wA.heap.size → ¬ FR.all g m L' k := fun k h1 h2 q => (hL k q).elim h1 fun q => by omega
  have how := hw.lp.own
  refine ⟨⟨⟨how.blk.ch h.ch (nf ob (.inl rfl) how.of), how.row.ch h.ch (fun k e => by injection e with e; subst e; exact nf a (.inr (.inl rfl)) how.af), fun p hp => (how.tabs p hp).ch h.ch (nf p.1 (.inr (.inr (.inr (List.mem_map_of_mem hp)))) (how.tf p hp)), h.fr, how.oa, hnew _ how.of (how.lt (.inl rfl)), how.ot, hnew _ how.af (how.lt (.inr (.inl rfl))), how.at_, fun p hp => hnew _ (how.tf p hp) (how.lt (.inr (.inr (.inr (List.mem_map_of_mem hp))))), how.tn⟩, hw.lp.n1, hw.lp.n2, hw.lp.bel.trans (h.ch.below (B := w0.heap.size) (fun k hk q => ?_) hw.lp.bel.size), fun k hk => ?_⟩, ⟨h.rf, hw.rx.ry.ch h.ch (fun k e => by injection e with e; subst e; exact nfr y (.inl rfl)), hw.rx.xl, fun j x t D h1 h2 => (hw.rx.xr j x t D h1 h2).ch h.ch (nfr x (.inr (List.mem_of_getElem? h1))), hw.rx.ap⟩, fun k hk => ?_, hw.new⟩
  · rcases q with q | q
    · have := hw.lp.new k (.inr (.inr (.inl (.inr q)))); omega
    · have := hw.new.1; omega
  · rcases hall k hk with q | q
    · exact hw.lp.new k q
    · have := hw.lp.bel.size; omega
  · rcases hall k hk with q | q
    · exact hw.sep k q
    · exact ⟨by omega, by omega, fun e => by have := b3 k e; omega⟩
/-! Open -/
theorem least_free (h : ∃ i : Nat, i < 64 ∧ PL.get L (i : Int) = none) : ∃ i : Nat, i < 64 ∧ PL.get L (i : Int) = none ∧ ∀ j : Nat, j < i → PL.get L (j : Int) ≠ none := by
  obtain ⟨i, hi, hg⟩ := h
  induction i using Nat.strongRecOn with
  | _ i ih =>
    by_cases hex : ∃ j : Nat, j < i ∧ PL.get L (j : Int) = none
    · obtain ⟨j, hj, hgj⟩ := hex
      exact ih j hj (by omega) hgj
    · exact ⟨i, hi, hg, fun j hj e => hex ⟨j, hj, e⟩⟩
theorem all_app {k : Nat} {x : Int} {b : Nat} {f : Fl} (hk : FR.all g m (L ++ [(x, b, f)]) k) : FR.all g m L k ∨ k = b := by
  rcases hk with q | q | q
  · exact .inl (.inl q)
  · exact .inl (.inr (.inl q))
  · simp only [PL.bs, List.map_append, List.map_cons, List.map_nil, List.mem_append, List.mem_singleton] at q
    rcases q with q | q
    · exact .inl (.inr (.inr q))
    · exact .inr q
/-- Nothing that lay there before is new in it. -/
def NewB (wA : World) (g m : Nat) (L L' : PL Fl) : Prop := ∀ k, FR.all g m L' k → FR.all g m L k ∨ wA.heap.size ≤ k
theorem RB.mono {B B' : Int} (h : RB L B) (hb : B ≤ B') : RB L B' := fun x q hq => ⟨(h x q hq).1, by have := (h x q hq).2; omega⟩
theorem RB.set {B : Int} (h : RB L B) {x : Int} {f : Fl} (hf : 1 ≤ f.rf ∧ f.rf ≤ B) : RB (PL.set L x f) B := by
  intro y q hq
  rw [PL.get_set] at hq
  split at hq
  · cases hg : PL.get L x with
    | none => rw [hg] at hq; cases hq
    | some z => rw [hg] at hq; simp only [Option.map_some, Option.some.injEq] at hq; subst hq; exact hf
  · exact h y q hq
theorem RB.del {B : Int} (h : RB L B) (x : Int) : RB (PL.del L x) B := by
  intro y q hq
  rw [PL.get_del] at hq
  split at hq
  · cases hq
  · exact h y q hq
theorem RB.app {B : Int} (h : RB L B) {x : Int} {b : Nat} {f : Fl} (hg : PL.get L x = none) (hf : 1 ≤ f.rf ∧ f.rf ≤ B) : RB (L ++ [(x, b, f)]) B := by
  intro y q hq
  rw [PL.get_app L x b f hg] at hq
  split at hq
  · injection hq with hq; subst hq; exact hf
  · exact h y q hq
theorem RB.bumps {B : Int} (h : RB L B) (D : List Int) (hD : D.length = 16) : RB (bumps L D) (B + 16) := by
  intro y q hq
  rw [bumps_get] at hq
  cases hg : PL.get L y with
  | none => rw [hg] at hq; cases hq
  | some z =>
    rw [hg] at hq
    simp only [Option.map_some, Option.some.injEq] at hq
    subst hq
    have h1 := h y z hg
    have h2 := List.count_le_length (a := y) (l := D)
    simp only
    omega
theorem open_both (hB : BH w0 wA ob g m a c r y cy oc ts xs L x0 x1 x2 x3 x4) {B : Int} (hR : RB L B) (hB1 : 1 ≤ B) : ∃ v er : Int, ∀ u, ST wA ob g m r oc L x0 x1 x2 x3 x4 L L u →
    Calls Try.prog 8 #[.pointer (some ⟨g, 0, none⟩), .int .i64 x3, .int .i64 x4, .int .i64 x2] u fun e u' => e = .returned (.tuple #[.int .i64 v, .int .i64 er]) ∧ ∃ L', ST wA ob g m r oc L x0 x1 x2 x3 x4 L' L u' ∧ NewB wA g m L L' ∧ RB L' (B + 16) ∧
      ∀ u2, ST wA ob g m r oc L x0 x1 x2 x3 x4 L' L u2 → Calls Try.prog 45 #[.pointer (some ⟨r, 0, none⟩), .int .i64 x3, .int .i64 x4, .int .i64 x2] u2 fun e u3 => e = .returned (.tuple #[.int .i64 v, .int .i64 er]) ∧ ST wA ob g m r oc L x0 x1 x2 x3 x4 L' L' u3 := by
  by_cases hk : x3 < 1 ∨ 4 < x3
  · refine ⟨0, 1, fun u hu => (open_arg hu.fr x3 x4 x2 hk).mono ?_⟩
    rintro e u' ⟨rfl, rfl⟩
    refine ⟨rfl, L, hu, fun k q => .inl q, hR.mono (by omega), fun u2 h2 => (ropen_arg h2.rf x3 x4 x2 hk).mono ?_⟩
    rintro e u3 ⟨rfl, rfl⟩
    exact ⟨rfl, h2⟩
  · by_cases hl : 64 ≤ L.length
    · have hall : ∀ j : Nat, j < 64 → PL.get L (j : Int) ≠ none := by
        intro j hj hn
        have h1 := hB.w2.lp.own.fr.len
        have h2 := (PL.get_none.1 hn)
        have h3 : ((j : Int) :: PL.ks L).length ≤ ((List.range 64).map fun i : Nat => (i : Int)).length := by
          refine List.Nodup.length_le_of_subset (List.nodup_cons.2 ⟨h2, hB.w2.lp.own.fr.pm.knd⟩) fun x hx => ?_
          rcases List.mem_cons.1 hx with rfl | hx
          · exact List.mem_map.2 ⟨j, List.mem_range.2 hj, rfl⟩
          · have := hB.w2.lp.own.fr.ids x hx
            exact List.mem_map.2 ⟨x.toNat, List.mem_range.2 (by omega), by omega⟩
        simp [PL.ks] at h3
        omega
      refine ⟨0, 2, fun u hu => (open_full hu.fr x3 x4 x2 (by omega) (by omega) hl).mono ?_⟩
      rintro e u' ⟨rfl, rfl⟩
      refine ⟨rfl, L, hu, fun k q => .inl q, hR.mono (by omega), fun u2 h2 => (ropen_any h2.rf x3 x4 x2 (by omega) (by omega) 64 (Nat.le_refl _) (fun q => by omega) hall 0).mono ?_⟩
      rintro e u3 (⟨_, rfl, hb⟩ | ⟨hq, _⟩)
      · exact ⟨rfl, h2.ref hB hB.rnf (h2.rf.below hb) (Ch.of_below hb)⟩
      · omega
    · obtain ⟨i, hi, hg, hmin⟩ := least_free (hB.w2.lp.own.fr.has_free (by omega))
      refine ⟨(i : Int), 0, fun u hu => (open_yes hu.fr x3 x4 x2 (by omega) (by omega) (by omega)).mono ?_⟩
      rintro e u' ⟨i2, hi2, hg2, hmin2, rfl, hF, hC⟩
      have hii : i2 = i := by
        rcases Nat.lt_trichotomy i2 i with h | h | h
        · exact absurd hg2 (hmin i2 h)
        · exact h
        · exact absurd hg (hmin2 i h)
      subst hii
      have hsz := hu.ch.size
      refine ⟨rfl, _, hu.prog hB hF (hC.mono fun k _ q => .inl q), fun k q => ?_, (hR.mono (by omega)).app hg (by simp; omega), fun u2 h2 => (ropen_any h2.rf x3 x4 x2 (by omega) (by omega) i2 (by omega) (fun _ => hg) hmin u.heap.size).mono ?_⟩
      · rcases all_app q with q | q
        · exact .inl q
        · exact .inr (by omega)
      · rintro e u3 (⟨hq, _⟩ | ⟨_, rfl, hR3, hC3⟩)
        · omega
        · refine ⟨rfl, h2.ref hB (fun q => ?_) hR3 hC3⟩
          rcases all_app q with q | q
          · exact hB.rnf q
          · have := hB.w2.rx.rfoot.1; omega
/-- Move: in whatever order. -/
theorem move_both (hB : BH w0 wA ob g m a c r y cy oc ts xs L x0 x1 x2 x3 x4) {B : Int} (hR : RB L B) (hB1 : 1 ≤ B) : ∃ (er : Int) (L' : PL Fl), (∀ k, FR.all g m L' k → FR.all g m L k) ∧ RB L' (B + 16) ∧
    (∀ LR u, ST wA ob g m r oc L x0 x1 x2 x3 x4 L LR u → Calls Try.prog 14 #[.pointer (some ⟨g, 0, none⟩), .int .i64 x2, .int .i64 x4] u fun e u' => e = .returned (.int .i64 er) ∧ ST wA ob g m r oc L x0 x1 x2 x3 x4 L' LR u') ∧
    (∀ LF u, (LF = L ∨ LF = L') → ST wA ob g m r oc L x0 x1 x2 x3 x4 LF L u → Calls Try.prog 46 #[.pointer (some ⟨r, 0, none⟩), .int .i64 x2, .int .i64 x4] u fun e u' => e = .returned (.int .i64 er) ∧ ST wA ob g m r oc L x0 x1 x2 x3 x4 LF L' u') := by
  cases hg : PL.get L x2 with
  | none =>
    refine ⟨221, L, fun k q => q, hR.mono (by omega), fun LR u hu => (move_no hu.fr hg x4).mono ?_, fun LF u hLF hu => (rmove_no hu.rf hg x4).mono ?_⟩
    · rintro e u' ⟨rfl, rfl⟩; exact ⟨rfl, hu⟩
    · rintro e u' ⟨rfl, rfl⟩; exact ⟨rfl, hu⟩
  | some q =>
    obtain ⟨b, f⟩ := q
    obtain ⟨i, hi, hi64⟩ := hB.w2.rx.rf.isIn hg
    subst hi
    by_cases hn : x4 < 0
    · refine ⟨1, L, fun k q => q, hR.mono (by omega), fun LR u hu => (move_neg hu.fr hg x4 hn).mono ?_, fun LF u hLF hu => (rmove_neg hu.rf hi64 hg x4 hn).mono ?_⟩
      · rintro e u' ⟨rfl, rfl⟩; exact ⟨rfl, hu⟩
      · rintro e u' ⟨rfl, rfl⟩; exact ⟨rfl, hu⟩
    · refine ⟨0, PL.set L (i : Int) { f with at_ := x4 }, fun k q => FR.all_set q, ((hR.mono (by omega)).set ⟨(hR _ _ hg).1, by have := (hR _ _ hg).2; simp only at this ⊢; omega⟩), fun LR u hu => (move_yes hu.fr hg x4 (by omega)).mono ?_, fun LF u hLF hu => (rmove_yes hu.rf hi64 hg x4 (by omega)).mono ?_⟩
      · rintro e u' ⟨rfl, hF, hC⟩; exact ⟨rfl, hu.prog hB hF hC⟩
      · rintro e u' ⟨rfl, hF, hC⟩
        refine ⟨rfl, hu.ref hB ?_ hF hC⟩
        rcases hLF with rfl | rfl
        · exact hB.rnf
        · exact fun q => hB.rnf (FR.all_set q)
theorem drop_both (hB : BH w0 wA ob g m a c r y cy oc ts xs L x0 x1 x2 x3 x4) {B : Int} (hR : RB L B) (hB1 : 1 ≤ B) (hB2 : B ≤ 1152921504606846976) : ∃ (v0 v1 v2 v3 v4 er : Int) (bb : Bool) (L' : PL Fl), (∀ k, FR.all g m L' k → FR.all g m L k) ∧ RB L' (B + 16) ∧
    (∀ u, ST wA ob g m r oc L x0 x1 x2 x3 x4 L L u → Calls Try.prog 20 #[.pointer (some ⟨g, 0, none⟩), .int .i64 x2] u fun e u' => e = .returned (.tuple #[.agg #[.int .i64 v0, .int .i64 v1, .int .i64 v2, .int .i64 v3, .int .i64 v4], .bool bb, .int .i64 er]) ∧ ST wA ob g m r oc L x0 x1 x2 x3 x4 L' L u' ∧ Ch (PL.foot m L) u u') ∧
    (∀ u, ST wA ob g m r oc L x0 x1 x2 x3 x4 L' L u → Calls Try.prog 44 #[.pointer (some ⟨r, 0, none⟩), .int .i64 x2] u fun e u' => e = .returned (.tuple #[.agg #[.int .i64 v0, .int .i64 v1, .int .i64 v2, .int .i64 v3, .int .i64 v4], .bool bb, .int .i64 er]) ∧ ST wA ob g m r oc L x0 x1 x2 x3 x4 L' L' u' ∧ Ch (· = r) u u') := by
  cases hg : PL.get L x2 with
  | none =>
    refine ⟨0, 0, 0, 0, 0, 221, false, L, fun k q => q, hR.mono (by omega), fun u hu => (drop_no hu.fr hg).mono ?_, fun u hu => (rdrop_no hu.rf hg).mono ?_⟩
    · rintro e u' ⟨rfl, hb⟩; exact ⟨rfl, hu.prog hB (hu.fr.below hb) (Ch.of_below hb), Ch.of_below hb⟩
    · rintro e u' ⟨rfl, hb⟩; exact ⟨rfl, hu.ref hB hB.rnf (hu.rf.below hb) (Ch.of_below hb), Ch.of_below hb⟩
  | some q =>
    obtain ⟨b, kd, wh, at_, fg, rf⟩ := q
    obtain ⟨i, hi, hi64⟩ := hB.w2.rx.rf.isIn hg
    subst hi
    have hrf := hR _ _ hg
    simp only at hrf
    by_cases h1 : rf = 1
    · subst h1
      refine ⟨kd, wh, at_, fg, 0, 0, true, PL.del L (i : Int), fun k q => FR.all_del q, ((hR.mono (by omega)).del _), fun u hu => (drop_last hu.fr kd wh at_ fg hg).mono ?_, fun u hu => (rdrop_last hu.rf hi64 kd wh at_ fg hg).mono ?_⟩
      · rintro e u' ⟨rfl, hF, hC⟩; exact ⟨rfl, hu.prog hB hF hC, hC⟩
      · rintro e u' ⟨rfl, hF, hC⟩; exact ⟨rfl, hu.ref hB (fun q => hB.rnf (FR.all_del q)) hF hC, hC⟩
    · refine ⟨kd, wh, at_, fg, rf - 1, 0, false, PL.set L (i : Int) ⟨kd, wh, at_, fg, rf - 1⟩, fun k q => FR.all_set q, ((hR.mono (by omega)).set (by simp; omega)), fun u hu => (drop_more hu.fr kd wh at_ fg rf (by omega) (by omega) hg).mono ?_, fun u hu => (rdrop_more hu.rf hi64 kd wh at_ fg rf (by omega) hg).mono ?_⟩
      · rintro e u' ⟨rfl, hF, hC⟩; exact ⟨rfl, hu.prog hB hF hC, hC⟩
      · rintro e u' ⟨rfl, hF, hC⟩; exact ⟨rfl, hu.ref hB (fun q => hB.rnf (FR.all_set q)) hF hC, hC⟩
end
end Go.Proofs.Ythbbiobffoihaaa
