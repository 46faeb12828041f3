import Derived.Test.YtajhpfmfoolcjaaTwo
/- A disk whose power went is, behind the crash, as one to which just what was done came. -/
namespace Go.Proofs.Ytajhpfmfoolcjaa
open Go.RowKit Go.BigFrame
set_option linter.unusedVariables false
set_option linter.unusedSimpArgs false
attribute [local go_sem] szIs_lit row_at row_past row_alloc nf_alloc row_set nf_set row_cell nf_cell row_drew nf_drew row_drewN nf_drewN cell_setRow frozen_setRow nlt1 nlt2 nlt3 nlt4 nne1 nne2 nne3 nen1 nen2 nen3
/-- Two disks, and slices that tell their pending sectors (I) or their platters (B). -/
structure KL (w0 : World) (a : DA) (S : DS) (b : DA) (T : DS) (L m : Nat) (l q : List Int) (I B : List Nat) (ρ : Nat → Value) (D : Nat → Bool) (u : World) : Prop where
  tw : TW w0 u a S b T
  is : ∀ i, i ∈ I → D i = true → ∀ A c, ρ i = .slice A L c → Rw u 3 1 A L c (iv l)
  bs : ∀ i, i ∈ B → D i = true → ∀ A c, ρ i = .slice A m c → Rw u 5 1 A m c (bv q)
section
variable {w0 : World} {a : DA} {S : DS} {b : DA} {T : DS} {L m : Nat} {l q : List Int} {I B : List Nat} {ρ : Nat → Value} {D : Nat → Bool} {u u' : World}
theorem KL.below (h : KL w0 a S b T L m l q I B ρ D u) (hb : Below u.heap.size u u') : KL w0 a S b T L m l q I B ρ D u' :=
  ⟨h.tw.below hb, fun i hi hd A c e => (h.is i hi hd A c e).below hb, fun i hi hd A c e => (h.bs i hi hd A c e).below hb⟩
theorem KL.keep {j : Nat} {v : Value} (h : KL w0 a S b T L m l q I B ρ D u) (h1 : j ∉ I) (h2 : j ∉ B) : KL w0 a S b T L m l q I B (setV ρ j v) (upd D j) u :=
  ⟨h.tw, fun i hi hd A c e => by
    have hne : ¬ i = j := fun e => h1 (e ▸ hi)
    unfold setV at e; rw [if_neg hne] at e
    exact h.is i hi (by simpa [upd, hne] using hd) A c e, fun i hi hd A c e => by
    have hne : ¬ i = j := fun e => h2 (e ▸ hi)
    unfold setV at e; rw [if_neg hne] at e
    exact h.bs i hi (by simpa [upd, hne] using hd) A c e⟩
theorem KL.same {D' : Nat → Bool} (h : KL w0 a S b T L m l q I B ρ D u) (hD : ∀ i, i ∈ I ∨ i ∈ B → D' i = true → D i = true) : KL w0 a S b T L m l q I B ρ D' u :=
  ⟨h.tw, fun i hi hd => h.is i hi (hD i (.inl hi) hd), fun i hi hd => h.bs i hi (hD i (.inr hi) hd)⟩
theorem KL.done {j : Nat} (h : KL w0 a S b T L m l q I B ρ D u) (h1 : j ∉ I) (h2 : j ∉ B) : KL w0 a S b T L m l q I B ρ (upd D j) u :=
  h.same fun i hi hd => by
    have hne : ¬ i = j := fun e => hi.elim (fun q => h1 (e ▸ q)) (fun q => h2 (e ▸ q))
    simpa [upd, hne] using hd
theorem KL.put_i {j : Nat} {A : Option Addr} {c : Nat} (h : KL w0 a S b T L m l q I B ρ D u) (hr : Rw u' 3 1 A L c (iv l)) (hb : Below u.heap.size u u') (h2 : j ∉ B) : KL w0 a S b T L m l q I B (setV ρ j (.slice A L c)) (upd D j) u' :=
  ⟨h.tw.below hb, fun i hi hd A' c' e => by
    by_cases hne : i = j
    · unfold setV at e; rw [if_pos hne] at e; injection e with e1 _ e3; subst e1 e3; exact hr
    · unfold setV at e; rw [if_neg hne] at e; exact (h.is i hi (by simpa [upd, hne] using hd) A' c' e).below hb, fun i hi hd A' c' e => by
    have hne : ¬ i = j := fun e => h2 (e ▸ hi)
    unfold setV at e; rw [if_neg hne] at e
    exact (h.bs i hi (by simpa [upd, hne] using hd) A' c' e).below hb⟩
theorem KL.put_b {j : Nat} {A : Option Addr} {c : Nat} (h : KL w0 a S b T L m l q I B ρ D u) (hr : Rw u' 5 1 A m c (bv q)) (hb : Below u.heap.size u u') (h2 : j ∉ I) : KL w0 a S b T L m l q I B (setV ρ j (.slice A m c)) (upd D j) u' :=
  ⟨h.tw.below hb, fun i hi hd A' c' e => by
    have hne : ¬ i = j := fun e => h2 (e ▸ hi)
    unfold setV at e; rw [if_neg hne] at e
    exact (h.is i hi (by simpa [upd, hne] using hd) A' c' e).below hb, fun i hi hd A' c' e => by
    by_cases hne : i = j
    · unfold setV at e; rw [if_pos hne] at e; injection e with e1 _ e3; subst e1 e3; exact hr
    · unfold setV at e; rw [if_neg hne] at e; exact (h.bs i hi (by simpa [upd, hne] using hd) A' c' e).below hb⟩
end
theorem crash_any {w : World} {a : DA} {S : DS} (H : DR w a S) (A : Option Addr) (len c : Nat) (o : Nat → TornV) (ht : Tn w A len o) (hA : 0 < len → ∀ k, blkOf A = some k → ¬ a.foot k) (hc : len ≤ 2 ^ 43) (hlen : S.pend.length ≤ 2 ^ 42) (EV : Int) (P : List Int) (hE : ((∀ i, i < len → okT S.pend.length o i) ∧ EV = 0 ∧ P = (S.crash len o).plat) ∨ ((¬ ∀ i, i < len → okT S.pend.length o i) ∧ EV = 1 ∧ P = S.plat)) :
    Calls Try.prog 13 #[.pointer (some ⟨a.g, 0, none⟩), .slice A len c] w fun e w' => e = .returned (.int .i64 EV) ∧ ∃ a' S', DR w' a' S' ∧ Mv w a S w' a' S' ∧ S'.plat = P ∧ S'.cnt = S.cnt := by
  refine (crash_ok H A len c o ht hA hc hlen).mono ?_
  rintro e w' (⟨rfl, h1, h2⟩ | ⟨rfl, h1, a', h2, h3⟩)
  · rcases hE with ⟨q, _⟩ | ⟨_, rfl, rfl⟩
    · exact absurd q h1
    · exact ⟨rfl, a, S, H.below h2, Mv.of_below _ _ h2, rfl, rfl⟩
  · rcases hE with ⟨_, rfl, rfl⟩ | ⟨q, _⟩
    · exact ⟨rfl, a', _, h2, h3, rfl, rfl⟩
    · exact absurd h1 q
/-- Two disks, each crashed or not yet; slices that tell their platters. -/
structure KC (w0 : World) (ga gb cnt m : Nat) (S T : DS) (P : List Int) (ρ : Nat → Value) (D : Nat → Bool) (u : World) : Prop where
  ex : ∃ a' S' b' T', TW w0 u a' S' b' T' ∧ a'.g = ga ∧ b'.g = gb ∧ S'.cnt = cnt ∧ T'.cnt = cnt ∧ (D 2 = false → S' = S) ∧ (D 2 = true → S'.plat = P) ∧ (D 5 = false → T' = T) ∧ (D 5 = true → T'.plat = P)
  bs : ∀ i, i = 9 ∨ i = 12 → D i = true → ∀ A c, ρ i = .slice A m c → Rw u 5 1 A m c (bv P)
section
variable {w0 : World} {ga gb cnt m : Nat} {S T : DS} {P : List Int} {ρ : Nat → Value} {D : Nat → Bool} {u u' : World}
theorem KC.put {j : Nat} {A : Option Addr} {c : Nat} (h : KC w0 ga gb cnt m S T P ρ D u) (hr : Rw u' 5 1 A m c (bv P)) (hb : Below u.heap.size u u') (h2 : j ≠ 2 ∧ j ≠ 5) : KC w0 ga gb cnt m S T P (setV ρ j (.slice A m c)) (upd D j) u' := by
  obtain ⟨a', S', b', T', g1, g2, g3, g4, g5, g6, g7, g8, g9⟩ := h.ex
  have e2 : upd D j 2 = D 2 := by unfold upd; simp [show ¬ 2 = j from fun e => h2.1 e.symm]
  have e5 : upd D j 5 = D 5 := by unfold upd; simp [show ¬ 5 = j from fun e => h2.2 e.symm]
  refine ⟨⟨a', S', b', T', g1.below hb, g2, g3, g4, g5, by rw [e2]; exact g6, by rw [e2]; exact g7, by rw [e5]; exact g8, by rw [e5]; exact g9⟩, fun i hi hd A' c' e => ?_⟩
  by_cases hne : i = j
  · unfold setV at e; rw [if_pos hne] at e; injection e with e1 _ e3; subst e1 e3; exact hr
  · unfold setV at e; rw [if_neg hne] at e; exact (h.bs i hi (by simpa [upd, hne] using hd) A' c' e).below hb
theorem KC.done {j : Nat} (h : KC w0 ga gb cnt m S T P ρ D u) (h2 : j ≠ 2 ∧ j ≠ 5 ∧ j ≠ 9 ∧ j ≠ 12) : KC w0 ga gb cnt m S T P ρ (upd D j) u := by
  have e : ∀ i, i ≠ j → upd D j i = D i := fun i hi => by unfold upd; simp [hi]
  have hex := h.ex
  refine ⟨by rw [e 2 (Ne.symm h2.1), e 5 (Ne.symm h2.2.1)]; exact hex, fun i hi hd A c hr => h.bs i hi ?_ A c hr⟩
  rwa [e i (by omega)] at hd
end
/-- The two disks behind j operations. -/
structure LP (w0 wr : World) (ga gb : Nat) (cnt : Nat) (stop lf : Int) (j : Nat) (a : DA) (S : DS) (b : DA) (T : DS) : Prop where
  tw : TW w0 wr a S b T
  same : Same S T
  ga : a.g = ga
  gb : b.g = gb
  cnt : S.cnt = cnt
  tl : T.lim = false
  st : (0 ≤ stop ∧ S.lim = true ∧ S.left = lf ∧ 0 ≤ lf) ∨ (stop < 0 ∧ S.lim = false)
  len : S.pend.length ≤ j
section
variable {w0 wr w' : World} {ga gb cnt j : Nat} {stop lf : Int} {a b : DA} {S T : DS}
theorem LP.below (h : LP w0 wr ga gb cnt stop lf j a S b T) (hb : Below wr.heap.size wr w') : LP w0 w' ga gb cnt stop lf j a S b T := ⟨h.tw.below hb, h.same, h.ga, h.gb, h.cnt, h.tl, h.st, h.len⟩
theorem LP.next (h : LP w0 wr ga gb cnt stop lf j a S b T) : LP w0 wr ga gb cnt stop lf (j + 1) a S b T := ⟨h.tw, h.same, h.ga, h.gb, h.cnt, h.tl, h.st, by have := h.len; omega⟩
end
/-- What is left, behind one thing more. -/
def lft (stop lf : Int) : Int := wrap64 (lf - 1)
theorem st_next {stop lf : Int} {S S' : DS} (h : (0 ≤ stop ∧ S.lim = true ∧ S.left = lf ∧ 0 ≤ lf) ∨ (stop < 0 ∧ S.lim = false)) (ho : S.off = false) (hb : S.left ≤ 9223372036854775807) (h1 : S'.lim = S.dec.lim) (h2 : S'.left = S.dec.left) : (0 ≤ stop ∧ S'.lim = true ∧ S'.left = lft stop lf ∧ 0 ≤ lft stop lf) ∨ (stop < 0 ∧ S'.lim = false) := by
  rcases h with ⟨q1, q2, q3, q4⟩ | ⟨q1, q2⟩
  · have hne : ¬ lf = 0 := fun e => by unfold DS.off at ho; rw [q2, q3, e] at ho; simp at ho
    have hd : S.dec = { S with left := S.left - 1 } := by unfold DS.dec; rw [if_pos q2]
    rw [hd] at h1 h2
    have hl : lft stop lf = lf - 1 := (IntWalk.i64_left _).symm.trans (IntWalk.i64_in _ (by omega))
    rw [hl]
    exact .inl ⟨q1, h1.trans q2, by rw [h2, ← q3], by omega⟩
  · rw [dec_lim] at h1
    exact .inr ⟨q1, h1.trans q2⟩
section
variable {w0 wr : World} {ga gb cnt j : Nat} {stop lf : Int} {a b : DA} {S T : DS}
/-- A write that is done, to both. -/
theorem LP.write (h : LP w0 wr ga gb cnt stop lf j a S b T) (n : Nat) (hn : n < cnt) (ho : S.off = false) (hj : j ≤ 4398046511100) (x cx : Nat) (l : List Int) (hx : Rw wr 5 1 (some ⟨x, 0, none⟩) 512 cx (bv l)) (hxf : ¬ a.all S x ∧ ¬ b.all T x) :
    Calls Try.prog 10 #[.pointer (some ⟨ga, 0, none⟩), .int .i64 (n : Int), .slice (some ⟨x, 0, none⟩) 512 cx] wr fun e w' => e = .returned (.int .i64 0) ∧ (∀ k, k < wr.heap.size → ¬ a.foot k → w'.heap[k]? = wr.heap[k]?) ∧ Calls Try.prog 10 #[.pointer (some ⟨gb, 0, none⟩), .int .i64 (n : Int), .slice (some ⟨x, 0, none⟩) 512 cx] w' fun e w'' => e = .returned (.int .i64 0) ∧ ∃ a' S' b' T', LP w0 w'' ga gb cnt stop (lft stop lf) (j + 1) a' S' b' T' := by
  have hl := h.len
  have hw := h.tw.oa.write n x cx l (by rw [h.cnt]; exact hn) ho hx (fun q => hxf.1 (.inl q)) (by omega)
  rw [h.ga] at hw
  refine hw.mono ?_
  rintro e w' ⟨rfl, a', p, p1, p2, p3, p4, p5⟩
  refine ⟨rfl, fun k hk hf => p5.ch.block k hk hf, ?_⟩
  have htw := h.tw.mvA p3.dr p5
  have hx2 := hx.ch p5.ch (fun k e q => by injection e with e; simp only at e; rw [← e] at q; exact hxf.1 (.inl q))
  have hto := off0 h.tl
  have hw2 := htw.ob.write n x cx l (by rw [← h.same.cnt, h.cnt]; exact hn) hto hx2 (fun q => hxf.2 (.inl q)) (by rw [← core_len h.same.pend]; omega)
  rw [h.gb] at hw2
  refine hw2.mono ?_
  rintro e w'' ⟨rfl, b', q, q1, q2, q3, q4, q5⟩
  refine ⟨rfl, a', _, b', _, htw.mvB q3.dr q5, h.same.dec.push p q (p1.trans q1.symm) (p2.trans q2.symm), p4, q4, (dec_cnt S).trans h.cnt, (dec_lim T).trans h.tl, st_next h.st ho h.tw.oa.dr.lft.2 rfl rfl, ?_⟩
  show (S.dec.pend ++ [p]).length ≤ j + 1
  rw [dec_pend, List.length_append]
  simp; omega
/-- A flush that is done, to both. -/
theorem LP.flush (h : LP w0 wr ga gb cnt stop lf j a S b T) (ho : S.off = false) (hj : j ≤ 4398046511100) : Calls Try.prog 12 #[.pointer (some ⟨ga, 0, none⟩)] wr fun e w' => (∃ v, e = .returned v) ∧ Calls Try.prog 12 #[.pointer (some ⟨gb, 0, none⟩)] w' fun e w'' => (∃ v, e = .returned v) ∧ ∃ a' S' b' T', LP w0 w'' ga gb cnt stop (lft stop lf) (j + 1) a' S' b' T' := by
  have hl := h.len
  have hw := flush_on h.tw.oa.dr ho (by omega)
  rw [h.ga] at hw
  refine hw.mono ?_
  rintro e w' ⟨a', rfl, p1, p2⟩
  refine ⟨⟨_, rfl⟩, ?_⟩
  have htw := h.tw.mvA p1 p2
  have hw2 := flush_on htw.ob.dr (off0 h.tl) (by rw [← core_len h.same.pend]; omega)
  rw [h.gb] at hw2
  refine hw2.mono ?_
  rintro e w'' ⟨b', rfl, q1, q2⟩
  exact ⟨⟨_, rfl⟩, a', _, b', _, htw.mvB q1 q2, h.same.dec.flush, p2.g.trans h.ga, q2.g.trans h.gb, (dec_cnt S).trans h.cnt, (dec_lim T).trans h.tl, st_next h.st ho h.tw.oa.dr.lft.2 rfl rfl, by simp [DS.flush]⟩
end
set_option maxRecDepth 100000 in
set_option maxHeartbeats 20000000 in
theorem stops_walk (n : Int) (hn64 : -9223372036854775808 ≤ n ∧ n ≤ 9223372036854775807) (A : Option Addr) (len cap : Nat) (o : Nat → OpV) (stop : Int) (hs64 : -9223372036854775808 ≤ stop ∧ stop ≤ 9223372036854775807) (A3 : Option Addr) (len3 cap3 : Nat) (o3 : Nat → TornV) (w : World) (h1 : AreOp w w.heap.size A len cap o) (h3 : AreTorn w w.heap.size A3 len3 cap3 o3) : Calls Try.prog 5 #[.int .i64 n, .slice A len cap, .int .i64 stop, .slice A3 len3 cap3] w fun e w' => e = .returned (.bool true) ∧ Below w.heap.size w w' := by
  have HA := Lib.hid (awake_ok w)
  by_cases hn : 1 ≤ n ∧ n ≤ 4096
  · obtain ⟨cnt, rfl⟩ : ∃ cnt : Nat, n = (cnt : Int) := ⟨n.toNat, by omega⟩
    have hc1 : 1 ≤ cnt := by omega
    have hc2 : cnt ≤ 4096 := by omega
    have hlen : len ≤ 4398046511100 := by have := h1.2.2.1; unfold reachBytes at this; omega
    have hlen3 : len3 ≤ 2 ^ 43 := by have := h3.2.2.1; unfold reachBytes at this; omega
    have HOPS := Lib.hid h1
    have HKEEP := Lib.hid h3
    clear hn hn64 h1 h3
    go_enter Try.func5, Try.ntmps5
    go_wp2_with fail
    refine HA.out.mono ?_
    rintro e w1 ⟨rfl, hb1⟩
    have HB1 := Lib.hid hb1
    clear hb1
    go_wp2_with fail
    refine (new_ok cnt w1 hc1 hc2).mono ?_
    rintro e w2 ⟨a, rfl, g1, g2, g3, g4⟩
    have HG := Lib.hid (And.intro g1 (And.intro g2 g3))
    clear g1 g2 g3 g4
    go_wp2_with fail
    refine (new_ok cnt w2 hc1 hc2).mono ?_
    rintro e w3 ⟨b, rfl, g1, g2, g3, g4⟩
    have htw : TW w w3 a (S0 cnt (List.replicate (cnt * 512) 0)) b (S0 cnt (List.replicate (cnt * 512) 0)) := by
      have hb2 : Below w.heap.size w w2 := HB1.out.trans (Below.mono HG.out.2.1 HB1.out.size)
      have hb3 : Below w.heap.size w w3 := hb2.trans (Below.mono g2 hb2.size)
      exact ⟨⟨HG.out.1.below g2, hb3, fun k q => Nat.le_trans HB1.out.size (HG.out.2.2 k q)⟩, ⟨g1, hb3, fun k q => Nat.le_trans hb2.size (g3 k q)⟩, fun k q q2 => by have := HG.out.1.foot_lt q; have := g3 k q2; omega⟩
    have HST := Lib.hid (stop_ok htw.oa.dr stop hs64.2)
    have HTW := Lib.hid htw
    obtain ⟨ga, hga⟩ : ∃ ga, a.g = ga := ⟨_, rfl⟩
    obtain ⟨gb, hgb⟩ : ∃ gb, b.g = gb := ⟨_, rfl⟩
    rw [hga] at HST ⊢
    rw [hgb]
    have HGA := Lib.hid (And.intro hga hgb)
    clear g1 g2 g3 g4 htw HG HB1 hga hgb
    go_wp2_with fail
    refine HST.out.mono ?_
    rintro e w4 ⟨rfl, g1, g2⟩
    have hlp : LP w w4 ga gb cnt stop stop 0 a ((S0 cnt (List.replicate (cnt * 512) 0)).stop stop) b (S0 cnt (List.replicate (cnt * 512) 0)) := by
      refine ⟨HTW.out.mvA g1 g2, ⟨rfl, rfl, rfl⟩, HGA.out.1, HGA.out.2, rfl, rfl, ?_, by simp [DS.stop, S0]⟩
      by_cases h0 : 0 ≤ stop
      · exact .inl ⟨h0, by simp [DS.stop, h0], by simp [DS.stop, h0], h0⟩
      · exact .inr ⟨by omega, by simp [DS.stop, h0]⟩
    have HLP0 := Lib.hid hlp
    clear g1 g2 hlp HST HTW HGA
    go_wp2_with fail
    go_loopg [13, 61] len (fun k l_ i_ wr => ∃ (j : Nat) (lf : Int) (a : DA) (S : DS) (b : DA) (T : DS), i_ = .int .i64 (j : Int) ∧ l_ = .int .i64 lf ∧ k = len - j ∧ j ≤ len ∧ LP w wr ga gb cnt stop lf j a S b T)
    case atStart => exact ⟨0, stop, _, _, _, _, rfl, rfl, rfl, by omega, HLP0.out⟩
    case round =>
      clear HLP0
      obtain ⟨j, lf, a, S, b, T, rfl, rfl, hk, hj, hlp⟩ := hrel
      have HK := Lib.hid hk
      have HLPR := Lib.hid hlp
      by_cases hlt : j < len
      · obtain ⟨bo, off, rfl, hbo, d0, d1, d2, d3, d4, d5⟩ := op_read HOPS.out hlp.tw.oa.bl hlt
        have hst := hlp.st
        have LP3 := hlp.below ((Below.refl _ _).alloc (Nat.le_refl _) (.cells #[.int .i64 (o j).x0, .int .i64 (o j).x1, .int .u8 (o j).x2, .int .i64 (o j).x3, .slice (o j).a4 (o j).l4 (o j).k4] 31))
        have e1 : (wr.alloc (.cells #[.int .i64 (o j).x0, .int .i64 (o j).x1, .int .u8 (o j).x2, .int .i64 (o j).x3, .slice (o j).a4 (o j).l4 (o j).k4] 31)).cell? ⟨wr.heap.size, 1, none⟩ = some (.int .i64 (o j).x1) := by simp [go_sem]
        clear hk hlp d5
        by_cases hk0 : (o j).x0 = 0
        · by_cases hrng : ¬ (0 ≤ (o j).x1 ∧ (o j).x1 < cnt)
          · skip
            rcases hst with ⟨hs0, hl1, hl2, hl3⟩ | ⟨hs0, hl1⟩
            · by_cases hz : lf = 0
              · skip
                have hoff : S.off = true := by unfold DS.off; rw [hl1, hl2, hz]; rfl
                have k0 : (lf == 0) = true := by simp [hz]
                have HOFF := off_ok LP3.tw.oa.dr
                rw [hoff, LP3.ga] at HOFF
                have HOFF := Lib.hid HOFF
                have HO := Lib.hid hoff
                have HL3 := Lib.hid LP3
                have kk : ((o j).x0 == 0) = true := by simp [hk0]
                have hr := Lib.hid hrng
                clear hoff hl1 hl2 hl3 hz hk0 hrng LP3
                go_wp2_with fail
                refine HOFF.out.mono ?_
                rintro e w' ⟨rfl, rfl⟩
                go_wp2_with fail
                refine (filled_ok 512 (by omega) (o j).x2 _).mono ?_
                rintro e w4 ⟨x, rfl, q1, q2, q3⟩
                have LP4 := HL3.out.below q2
                have e1 := (q2.cell (p := ⟨wr.heap.size, 1, none⟩) (by simp)).trans e1
                have HW := write_no LP4.tw.oa.dr (o j).x1 (.slice (some ⟨x, 0, none⟩) 512 512) (by rw [LP4.cnt]; exact hr.out)
                rw [LP4.ga] at HW
                have HW := Lib.hid HW
                have HL4 := Lib.hid LP4
                clear q1 q2 q3 LP4
                go_wp2_with fail
                refine HW.out.mono ?_
                rintro e w' ⟨rfl, rfl⟩
                go_wp2_with fail
                go_roundg (len - (j + 1))
                case measure => have := HK.out; omega
                case rel => exact ⟨j + 1, lf, _, _, _, _, by go_num, rfl, rfl, by omega, HL4.out.next⟩
              · skip
                have hoff : S.off = false := by unfold DS.off; rw [hl1, hl2]; simp [hz]
                have k0 : (lf == 0) = false := by simp [hz]
                have hlft : lft stop lf = wrap64 (lf - 1) := rfl
                have HOFF := off_ok LP3.tw.oa.dr
                rw [hoff, LP3.ga] at HOFF
                have HOFF := Lib.hid HOFF
                have HO := Lib.hid hoff
                have HL3 := Lib.hid LP3
                have HLF := Lib.hid hlft
                have kk : ((o j).x0 == 0) = true := by simp [hk0]
                have hr := Lib.hid hrng
                clear hoff hl1 hl2 hl3 hz hlft hk0 hrng LP3
                go_wp2_with fail
                refine HOFF.out.mono ?_
                rintro e w' ⟨rfl, rfl⟩
                go_wp2_with fail
                refine (filled_ok 512 (by omega) (o j).x2 _).mono ?_
                rintro e w4 ⟨x, rfl, q1, q2, q3⟩
                have LP4 := HL3.out.below q2
                have e1 := (q2.cell (p := ⟨wr.heap.size, 1, none⟩) (by simp)).trans e1
                have HW := write_no LP4.tw.oa.dr (o j).x1 (.slice (some ⟨x, 0, none⟩) 512 512) (by rw [LP4.cnt]; exact hr.out)
                rw [LP4.ga] at HW
                have HW := Lib.hid HW
                have HL4 := Lib.hid LP4
                clear q1 q2 q3 LP4
                go_wp2_with fail
                refine HW.out.mono ?_
                rintro e w' ⟨rfl, rfl⟩
                go_wp2_with fail
                go_roundg (len - (j + 1))
                case measure => have := HK.out; omega
                case rel => exact ⟨j + 1, lf, _, _, _, _, by go_num, rfl, rfl, by omega, HL4.out.next⟩
            · skip
              have hoff : S.off = false := by unfold DS.off; rw [hl1]; rfl
              have hlft : lft stop lf = wrap64 (lf - 1) := rfl
              have HOFF := off_ok LP3.tw.oa.dr
              rw [hoff, LP3.ga] at HOFF
              have HOFF := Lib.hid HOFF
              have HO := Lib.hid hoff
              have HL3 := Lib.hid LP3
              have HLF := Lib.hid hlft
              have kk : ((o j).x0 == 0) = true := by simp [hk0]
              have hr := Lib.hid hrng
              clear hoff hl1 hlft hk0 hrng LP3
              go_wp2_with fail
              refine HOFF.out.mono ?_
              rintro e w' ⟨rfl, rfl⟩
              go_wp2_with fail
              refine (filled_ok 512 (by omega) (o j).x2 _).mono ?_
              rintro e w4 ⟨x, rfl, q1, q2, q3⟩
              have LP4 := HL3.out.below q2
              have e1 := (q2.cell (p := ⟨wr.heap.size, 1, none⟩) (by simp)).trans e1
              have HW := write_no LP4.tw.oa.dr (o j).x1 (.slice (some ⟨x, 0, none⟩) 512 512) (by rw [LP4.cnt]; exact hr.out)
              rw [LP4.ga] at HW
              have HW := Lib.hid HW
              have HL4 := Lib.hid LP4
              clear q1 q2 q3 LP4
              go_wp2_with fail
              refine HW.out.mono ?_
              rintro e w' ⟨rfl, rfl⟩
              go_wp2_with fail
              go_roundg (len - (j + 1))
              case measure => have := HK.out; omega
              case rel => exact ⟨j + 1, lf, _, _, _, _, by go_num, rfl, rfl, by omega, HL4.out.next⟩
          · have hrng := Decidable.not_not.1 hrng
            rcases hst with ⟨hs0, hl1, hl2, hl3⟩ | ⟨hs0, hl1⟩
            · by_cases hz : lf = 0
              · skip
                have hoff : S.off = true := by unfold DS.off; rw [hl1, hl2, hz]; rfl
                have k0 : (lf == 0) = true := by simp [hz]
                have HOFF := off_ok LP3.tw.oa.dr
                rw [hoff, LP3.ga] at HOFF
                have HOFF := Lib.hid HOFF
                have HO := Lib.hid hoff
                have HL3 := Lib.hid LP3
                have kk : ((o j).x0 == 0) = true := by simp [hk0]
                obtain ⟨nn, hnn⟩ : ∃ nn : Nat, (o j).x1 = (nn : Int) := ⟨(o j).x1.toNat, by omega⟩
                have hncnt : nn < cnt := by omega
                have HNN := Lib.hid hnn
                have HNC := Lib.hid hncnt
                clear hoff hl1 hl2 hl3 hz hk0 hrng hnn hncnt LP3
                go_wp2_with fail
                refine HOFF.out.mono ?_
                rintro e w' ⟨rfl, rfl⟩
                go_wp2_with fail
                refine (filled_ok 512 (by omega) (o j).x2 _).mono ?_
                rintro e w4 ⟨x, rfl, q1, q2, q3⟩
                have LP4 := HL3.out.below q2
                have e1 := (q2.cell (p := ⟨wr.heap.size, 1, none⟩) (by simp)).trans e1
                rw [HNN.out] at e1
                have HW := write_off LP4.tw.oa.dr nn (some ⟨x, 0, none⟩) 512 (by rw [LP4.cnt]; exact HNC.out) HO.out
                rw [LP4.ga] at HW
                have HW := Lib.hid HW
                have HL4 := Lib.hid LP4
                clear q1 q2 q3 LP4
                go_wp2_with fail
                refine HW.out.mono ?_
                rintro e w' ⟨rfl, rfl⟩
                go_wp2_with fail
                go_roundg (len - (j + 1))
                case measure => have := HK.out; omega
                case rel => exact ⟨j + 1, lf, _, _, _, _, by go_num, rfl, rfl, by omega, HL4.out.next⟩
              · skip
                have hoff : S.off = false := by unfold DS.off; rw [hl1, hl2]; simp [hz]
                have k0 : (lf == 0) = false := by simp [hz]
                have hlft : lft stop lf = wrap64 (lf - 1) := rfl
                have HOFF := off_ok LP3.tw.oa.dr
                rw [hoff, LP3.ga] at HOFF
                have HOFF := Lib.hid HOFF
                have HO := Lib.hid hoff
                have HL3 := Lib.hid LP3
                have HLF := Lib.hid hlft
                have kk : ((o j).x0 == 0) = true := by simp [hk0]
                obtain ⟨nn, hnn⟩ : ∃ nn : Nat, (o j).x1 = (nn : Int) := ⟨(o j).x1.toNat, by omega⟩
                have hncnt : nn < cnt := by omega
                have HNN := Lib.hid hnn
                have HNC := Lib.hid hncnt
                clear hoff hl1 hl2 hl3 hz hlft hk0 hrng hnn hncnt LP3
                go_wp2_with fail
                refine HOFF.out.mono ?_
                rintro e w' ⟨rfl, rfl⟩
                go_wp2_with fail
                refine (filled_ok 512 (by omega) (o j).x2 _).mono ?_
                rintro e w4 ⟨x, rfl, q1, q2, q3⟩
                have LP4 := HL3.out.below q2
                have e1 := (q2.cell (p := ⟨wr.heap.size, 1, none⟩) (by simp)).trans e1
                rw [HNN.out] at e1
                have hxf : ¬ a.all S x ∧ ¬ b.all T x := ⟨fun q => by have := HL3.out.tw.oa.dr.foot_lt q; omega, fun q => by have := HL3.out.tw.ob.dr.foot_lt q; omega⟩
                have HW := Lib.hid (LP4.write nn HNC.out HO.out (by omega) x 512 _ q1 hxf)
                have hof : ¬ a.foot wr.heap.size := fun q => by have := HLPR.out.tw.oa.dr.foot_lt (.inl q); omega
                have hob4 : wr.heap.size < w4.heap.size := cell_lt e1
                clear q1 q2 q3 LP4 hxf
                go_wp2_with fail
                refine HW.out.mono ?_
                rintro e w5 ⟨rfl, g1, g2⟩
                have e1 := (World.cell?_of_block (a := ⟨wr.heap.size, 1, none⟩) (g1 wr.heap.size hob4 hof)).trans e1
                have HG2 := Lib.hid g2
                clear g1 g2 hof hob4
                go_wp2_with fail
                refine HG2.out.mono ?_
                rintro e w6 ⟨rfl, a', S', b', T', hlp⟩
                rw [HLF.out] at hlp
                have HLP := Lib.hid hlp
                clear hlp
                go_wp2_with fail
                go_roundg (len - (j + 1))
                case measure => have := HK.out; omega
                case rel => exact ⟨j + 1, _, a', S', b', T', by go_num, rfl, rfl, by omega, HLP.out⟩
            · skip
              have hoff : S.off = false := by unfold DS.off; rw [hl1]; rfl
              have hlft : lft stop lf = wrap64 (lf - 1) := rfl
              have HOFF := off_ok LP3.tw.oa.dr
              rw [hoff, LP3.ga] at HOFF
              have HOFF := Lib.hid HOFF
              have HO := Lib.hid hoff
              have HL3 := Lib.hid LP3
              have HLF := Lib.hid hlft
              have kk : ((o j).x0 == 0) = true := by simp [hk0]
              obtain ⟨nn, hnn⟩ : ∃ nn : Nat, (o j).x1 = (nn : Int) := ⟨(o j).x1.toNat, by omega⟩
              have hncnt : nn < cnt := by omega
              have HNN := Lib.hid hnn
              have HNC := Lib.hid hncnt
              clear hoff hl1 hlft hk0 hrng hnn hncnt LP3
              go_wp2_with fail
              refine HOFF.out.mono ?_
              rintro e w' ⟨rfl, rfl⟩
              go_wp2_with fail
              refine (filled_ok 512 (by omega) (o j).x2 _).mono ?_
              rintro e w4 ⟨x, rfl, q1, q2, q3⟩
              have LP4 := HL3.out.below q2
              have e1 := (q2.cell (p := ⟨wr.heap.size, 1, none⟩) (by simp)).trans e1
              rw [HNN.out] at e1
              have hxf : ¬ a.all S x ∧ ¬ b.all T x := ⟨fun q => by have := HL3.out.tw.oa.dr.foot_lt q; omega, fun q => by have := HL3.out.tw.ob.dr.foot_lt q; omega⟩
              have HW := Lib.hid (LP4.write nn HNC.out HO.out (by omega) x 512 _ q1 hxf)
              have hof : ¬ a.foot wr.heap.size := fun q => by have := HLPR.out.tw.oa.dr.foot_lt (.inl q); omega
              have hob4 : wr.heap.size < w4.heap.size := cell_lt e1
              clear q1 q2 q3 LP4 hxf
              go_wp2_with fail
              refine HW.out.mono ?_
              rintro e w5 ⟨rfl, g1, g2⟩
              have e1 := (World.cell?_of_block (a := ⟨wr.heap.size, 1, none⟩) (g1 wr.heap.size hob4 hof)).trans e1
              have HG2 := Lib.hid g2
              clear g1 g2 hof hob4
              go_wp2_with fail
              refine HG2.out.mono ?_
              rintro e w6 ⟨rfl, a', S', b', T', hlp⟩
              rw [HLF.out] at hlp
              have HLP := Lib.hid hlp
              clear hlp
              go_wp2_with fail
              go_roundg (len - (j + 1))
              case measure => have := HK.out; omega
              case rel => exact ⟨j + 1, _, a', S', b', T', by go_num, rfl, rfl, by omega, HLP.out⟩
        · by_cases hk2 : (o j).x0 = 2
          · skip
            rcases hst with ⟨hs0, hl1, hl2, hl3⟩ | ⟨hs0, hl1⟩
            · by_cases hz : lf = 0
              · skip
                have hoff : S.off = true := by unfold DS.off; rw [hl1, hl2, hz]; rfl
                have k0 : (lf == 0) = true := by simp [hz]
                have HOFF := off_ok LP3.tw.oa.dr
                rw [hoff, LP3.ga] at HOFF
                have HOFF := Lib.hid HOFF
                have HO := Lib.hid hoff
                have HL3 := Lib.hid LP3
                have kk : ((o j).x0 == 0) = false := by rw [hk2]; rfl
                have kk2 : ((o j).x0 == 2) = true := by simp [hk2]
                clear hoff hl1 hl2 hl3 hz hk0 hk2 LP3
                go_wp2_with fail
                refine HOFF.out.mono ?_
                rintro e w' ⟨rfl, rfl⟩
                go_wp2_with fail
                have HF := flush_off HL3.out.tw.oa.dr HO.out
                rw [HL3.out.ga] at HF
                have HF := Lib.hid HF
                refine HF.out.mono ?_
                rintro e w' ⟨rfl, rfl⟩
                go_wp2_with fail
                go_roundg (len - (j + 1))
                case measure => have := HK.out; omega
                case rel => exact ⟨j + 1, lf, _, _, _, _, by go_num, rfl, rfl, by omega, HL3.out.next⟩
              · skip
                have hoff : S.off = false := by unfold DS.off; rw [hl1, hl2]; simp [hz]
                have k0 : (lf == 0) = false := by simp [hz]
                have hlft : lft stop lf = wrap64 (lf - 1) := rfl
                have HOFF := off_ok LP3.tw.oa.dr
                rw [hoff, LP3.ga] at HOFF
                have HOFF := Lib.hid HOFF
                have HO := Lib.hid hoff
                have HL3 := Lib.hid LP3
                have HLF := Lib.hid hlft
                have kk : ((o j).x0 == 0) = false := by rw [hk2]; rfl
                have kk2 : ((o j).x0 == 2) = true := by simp [hk2]
                clear hoff hl1 hl2 hl3 hz hlft hk0 hk2 LP3
                go_wp2_with fail
                refine HOFF.out.mono ?_
                rintro e w' ⟨rfl, rfl⟩
                go_wp2_with fail
                have HF := Lib.hid (HL3.out.flush HO.out (by omega))
                refine HF.out.mono ?_
                rintro e w5 ⟨⟨v, rfl⟩, g2⟩
                have HG2 := Lib.hid g2
                clear g2
                go_wp2_with fail
                refine HG2.out.mono ?_
                rintro e w6 ⟨⟨v2, rfl⟩, a', S', b', T', hlp⟩
                rw [HLF.out] at hlp
                have HLP := Lib.hid hlp
                clear hlp
                go_wp2_with fail
                go_roundg (len - (j + 1))
                case measure => have := HK.out; omega
                case rel => exact ⟨j + 1, _, a', S', b', T', by go_num, rfl, rfl, by omega, HLP.out⟩
            · skip
              have hoff : S.off = false := by unfold DS.off; rw [hl1]; rfl
              have hlft : lft stop lf = wrap64 (lf - 1) := rfl
              have HOFF := off_ok LP3.tw.oa.dr
              rw [hoff, LP3.ga] at HOFF
              have HOFF := Lib.hid HOFF
              have HO := Lib.hid hoff
              have HL3 := Lib.hid LP3
              have HLF := Lib.hid hlft
              have kk : ((o j).x0 == 0) = false := by rw [hk2]; rfl
              have kk2 : ((o j).x0 == 2) = true := by simp [hk2]
              clear hoff hl1 hlft hk0 hk2 LP3
              go_wp2_with fail
              refine HOFF.out.mono ?_
              rintro e w' ⟨rfl, rfl⟩
              go_wp2_with fail
              have HF := Lib.hid (HL3.out.flush HO.out (by omega))
              refine HF.out.mono ?_
              rintro e w5 ⟨⟨v, rfl⟩, g2⟩
              have HG2 := Lib.hid g2
              clear g2
              go_wp2_with fail
              refine HG2.out.mono ?_
              rintro e w6 ⟨⟨v2, rfl⟩, a', S', b', T', hlp⟩
              rw [HLF.out] at hlp
              have HLP := Lib.hid hlp
              clear hlp
              go_wp2_with fail
              go_roundg (len - (j + 1))
              case measure => have := HK.out; omega
              case rel => exact ⟨j + 1, _, a', S', b', T', by go_num, rfl, rfl, by omega, HLP.out⟩
          · skip
            rcases hst with ⟨hs0, hl1, hl2, hl3⟩ | ⟨hs0, hl1⟩
            · by_cases hz : lf = 0
              · skip
                have hoff : S.off = true := by unfold DS.off; rw [hl1, hl2, hz]; rfl
                have k0 : (lf == 0) = true := by simp [hz]
                have HOFF := off_ok LP3.tw.oa.dr
                rw [hoff, LP3.ga] at HOFF
                have HOFF := Lib.hid HOFF
                have HO := Lib.hid hoff
                have HL3 := Lib.hid LP3
                have kk : ((o j).x0 == 0) = false := by simpa using hk0
                have kk2 : ((o j).x0 == 2) = false := by simpa using hk2
                clear hoff hl1 hl2 hl3 hz hk0 hk2 LP3
                go_wp2_with fail
                refine HOFF.out.mono ?_
                rintro e w' ⟨rfl, rfl⟩
                go_wp2_with fail
                go_roundg (len - (j + 1))
                case measure => have := HK.out; omega
                case rel => exact ⟨j + 1, lf, _, _, _, _, by go_num, rfl, rfl, by omega, HL3.out.next⟩
              · skip
                have hoff : S.off = false := by unfold DS.off; rw [hl1, hl2]; simp [hz]
                have k0 : (lf == 0) = false := by simp [hz]
                have hlft : lft stop lf = wrap64 (lf - 1) := rfl
                have HOFF := off_ok LP3.tw.oa.dr
                rw [hoff, LP3.ga] at HOFF
                have HOFF := Lib.hid HOFF
                have HO := Lib.hid hoff
                have HL3 := Lib.hid LP3
                have HLF := Lib.hid hlft
                have kk : ((o j).x0 == 0) = false := by simpa using hk0
                have kk2 : ((o j).x0 == 2) = false := by simpa using hk2
                clear hoff hl1 hl2 hl3 hz hlft hk0 hk2 LP3
                go_wp2_with fail
                refine HOFF.out.mono ?_
                rintro e w' ⟨rfl, rfl⟩
                go_wp2_with fail
                go_roundg (len - (j + 1))
                case measure => have := HK.out; omega
                case rel => exact ⟨j + 1, lf, _, _, _, _, by go_num, rfl, rfl, by omega, HL3.out.next⟩
            · skip
              have hoff : S.off = false := by unfold DS.off; rw [hl1]; rfl
              have hlft : lft stop lf = wrap64 (lf - 1) := rfl
              have HOFF := off_ok LP3.tw.oa.dr
              rw [hoff, LP3.ga] at HOFF
              have HOFF := Lib.hid HOFF
              have HO := Lib.hid hoff
              have HL3 := Lib.hid LP3
              have HLF := Lib.hid hlft
              have kk : ((o j).x0 == 0) = false := by simpa using hk0
              have kk2 : ((o j).x0 == 2) = false := by simpa using hk2
              clear hoff hl1 hlft hk0 hk2 LP3
              go_wp2_with fail
              refine HOFF.out.mono ?_
              rintro e w' ⟨rfl, rfl⟩
              go_wp2_with fail
              go_roundg (len - (j + 1))
              case measure => have := HK.out; omega
              case rel => exact ⟨j + 1, lf, _, _, _, _, by go_num, rfl, rfl, by omega, HL3.out.next⟩
      · obtain rfl : j = len := by omega
        obtain ⟨L, hL⟩ : ∃ L, S.pend.length = L := ⟨_, rfl⟩
        have hL2 : T.pend.length = L := (core_len hlp.same.pend).symm.trans hL
        have hLj : L ≤ j := hL ▸ hlp.len
        obtain ⟨l, hl⟩ : ∃ l, l = S.pend.map PW.ni := ⟨_, rfl⟩
        have hl2 : T.pend.map PW.ni = l := by rw [hl]; exact (core_ni hlp.same.pend).symm
        obtain ⟨m, hm⟩ : ∃ m, m = cnt * 512 := ⟨_, rfl⟩
        have hTc : T.cnt = cnt := hlp.same.cnt.symm.trans hlp.cnt
        have HPA := Lib.hid (fun (u : World) (h : TW w u a S b T) => show Calls Try.prog 15 #[.pointer (some ⟨ga, 0, none⟩)] u fun e w' => ∃ A c, e = .returned (.slice A L c) ∧ Rw w' 3 1 A L c (iv l) ∧ Below u.heap.size u w' ∧ (∀ k, blkOf A = some k → u.heap.size ≤ k) by
          have := pending_ok h.oa.dr (by omega)
          rw [hL, hlp.ga, ← hl] at this; exact this)
        have HPB := Lib.hid (fun (u : World) (h : TW w u a S b T) => show Calls Try.prog 15 #[.pointer (some ⟨gb, 0, none⟩)] u fun e w' => ∃ A c, e = .returned (.slice A L c) ∧ Rw w' 3 1 A L c (iv l) ∧ Below u.heap.size u w' ∧ (∀ k, blkOf A = some k → u.heap.size ≤ k) by
          have := pending_ok h.ob.dr (by omega)
          rw [hL2, hlp.gb, hl2] at this; exact this)
        have HIA := Lib.hid (fun (u : World) (h : TW w u a S b T) => show Calls Try.prog 16 #[.pointer (some ⟨ga, 0, none⟩)] u fun e w' => ∃ A c, e = .returned (.slice A m c) ∧ Rw w' 5 1 A m c (bv S.plat) ∧ Below u.heap.size u w' ∧ (∀ k, blkOf A = some k → u.heap.size ≤ k) by
          have := image_ok h.oa.dr
          rw [hlp.cnt, hlp.ga, ← hm] at this; exact this)
        have HIB := Lib.hid (fun (u : World) (h : TW w u a S b T) => show Calls Try.prog 16 #[.pointer (some ⟨gb, 0, none⟩)] u fun e w' => ∃ A c, e = .returned (.slice A m c) ∧ Rw w' 5 1 A m c (bv S.plat) ∧ Below u.heap.size u w' ∧ (∀ k, blkOf A = some k → u.heap.size ≤ k) by
          have := image_ok h.ob.dr
          rw [hTc, hlp.gb, ← hm, ← hlp.same.plat] at this; exact this)
        have HLPE := Lib.hid (And.intro hlp (And.intro hL hL2))
        have HTWR := Lib.hid (show TW w wr.drew a S b T from hlp.tw.below (Below.refl _ _).drew)
        obtain ⟨q, hq⟩ : ∃ q, q = S.plat := ⟨_, rfl⟩
        rw [← hq] at HIA HIB
        have HQ := Lib.hid hq
        have HM := Lib.hid hm
        clear hk hlp hl hl2 hL hL2 hm hTc hq HLPR
        go_wp2_with fail
        refine wp_theta [1, 3, 4, 8, 11] [1, 3, 4, 8, 9, 11, 12] (fun i v => ((i = 1 ∨ i = 3) → ∃ A c, v = .slice A L c) ∧ (i = 4 → v = .bool true) ∧ ((i = 8 ∨ i = 11) → ∃ A c, v = .slice A m c)) (fun ρ D u => KL w a S b T L m l q [1, 3] [8, 11] ρ D u) (fun _ => True) ?_ ?_ ?_ ?_ ?_ ?_ ?_ ?_ ?_ ?_
        · kernel_rfl
        · kernel_rfl
        · kernel_rfl
        · kernel_rfl
        · kernel_rfl
        · kernel_rfl
        · intro i hi; simp at hi; rcases hi with rfl | rfl | rfl | rfl | rfl; exact ⟨.slice none L 0, by simp⟩; exact ⟨.slice none L 0, by simp⟩; exact ⟨.bool true, by simp⟩; exact ⟨.slice none m 0, by simp⟩; exact ⟨.slice none m 0, by simp⟩
        · exact ⟨HTWR.out, by simp, by simp⟩
        · exact fun _ _ _ _ => trivial
        · intro θ hθ
          simp only [SegsT, List.take_succ_cons, List.take_zero, List.drop_succ_cons, List.drop_zero, Nat.sub_zero, Nat.reduceSub, Nat.reduceAdd, List.drop_nil, List.take_nil]
          haveI i1 : Nonempty (Wd fun _ => True) := ⟨⟨wr.drew, trivial⟩⟩
          obtain ⟨A1, c1, t1⟩ := (hθ 1 (by decide)).1 (by simp)
          obtain ⟨A3', c3, t3⟩ := (hθ 3 (by decide)).1 (by simp)
          have t4 := (hθ 4 (by decide)).2.1 rfl
          obtain ⟨A8, c8, t8⟩ := (hθ 8 (by decide)).2.2 (by simp)
          obtain ⟨A11, c11, t11⟩ := (hθ 11 (by decide)).2.2 (by simp)
          repeat (go_big_quiet_step (fail))
          refine wpQuiet_nil ?_
          rw [if_pos (by decide)]
          refine ⟨thOK_call [] [] 15 _ _ (by kernel_rfl) rfl (by kernel_rfl) #[.pointer (some ⟨ga, 0, none⟩)] (by kernel_rfl) (by kernel_rfl) (fun ρ D u hq hK => ?_), ?_⟩
          · refine (HPA.out u hK.tw).mono ?_
            rintro e u' ⟨A2, c2, rfl, r1, r2, r3⟩
            exact ⟨_, rfl, ⟨fun _ => ⟨A2, c2, rfl⟩, by simp, by simp⟩, hK.put_i (j := 1) r1 r2 (by decide)⟩
          rw [t1]
          try go_frame
          repeat (go_big_quiet_step (fail))
          refine wpQuiet_nil ?_
          rw [if_pos (by decide)]
          refine ⟨thOK_call [] [] 15 _ _ (by kernel_rfl) rfl (by kernel_rfl) #[.pointer (some ⟨gb, 0, none⟩)] (by kernel_rfl) (by kernel_rfl) (fun ρ D u hq hK => ?_), ?_⟩
          · refine (HPB.out u hK.tw).mono ?_
            rintro e u' ⟨A2, c2, rfl, r1, r2, r3⟩
            exact ⟨_, rfl, ⟨fun _ => ⟨A2, c2, rfl⟩, by simp, by simp⟩, hK.put_i (j := 3) r1 r2 (by decide)⟩
          rw [t3]
          try go_frame
          repeat (go_big_quiet_step (fail))
          refine wpQuiet_nil ?_
          rw [if_pos (by decide)]
          refine ⟨thOK_call [1, 3] [] 20 _ _ (by kernel_rfl) rfl (by kernel_rfl) #[.slice A1 L c1, .slice A3' L c3] (by kernel_rfl) (by kernel_rfl) (fun ρ D u hq hK => ?_), ?_⟩
          · have g1 := hq.gave 1 (by simp) (by decide)
            have g3 := hq.gave 3 (by simp) (by decide)
            rw [t1] at g1
            rw [t3] at g3
            have r1 := hK.is 1 (by decide) (hq.did 1 (by simp)) _ _ g1
            have r3 := hK.is 3 (by decide) (hq.did 3 (by simp)) _ _ g3
            refine (same_yes u _ _ L _ _ l r1 r3 (by omega)).mono ?_
            rintro e u' ⟨rfl, n2, rfl⟩
            exact ⟨_, rfl, by simp, (hK.below (below_drewN (Below.refl _ _) n2)).keep (by decide) (by decide)⟩
          rw [t4]
          try go_frame
          repeat (go_big_quiet_step (fail))
          refine wpQuiet_nil ?_
          rw [if_pos (by decide)]
          refine ⟨thOK_call [] [] 16 _ _ (by kernel_rfl) rfl (by kernel_rfl) #[.pointer (some ⟨ga, 0, none⟩)] (by kernel_rfl) (by kernel_rfl) (fun ρ D u hq hK => ?_), ?_⟩
          · refine (HIA.out u hK.tw).mono ?_
            rintro e u' ⟨A2, c2, rfl, r1, r2, r3⟩
            exact ⟨_, rfl, ⟨by simp, by simp, fun _ => ⟨A2, c2, rfl⟩⟩, hK.put_b (j := 8) r1 r2 (by decide)⟩
          rw [t8]
          try go_frame
          repeat (go_big_quiet_step (fail))
          refine wpQuiet_nil ?_
          rw [if_neg (by decide)]
          refine ⟨.string (str q), detOK_run [8] [] (by kernel_rfl) (by kernel_rfl) (fun ρ D u hq hK => ?_), ?_⟩
          · have g3 := hq.gave 8 (by simp) (by decide)
            rw [t8] at g3
            have g1 := hK.bs 8 (by decide) (hq.did 8 (by simp)) _ _ g3
            exact ⟨u, run_box_any (s := convert 33 9 (.slice A8 m c8)) (by kernel_rfl) (conv9 u _ _ _ _ g1), hK.done (by decide) (by decide)⟩
          try go_frame
          repeat (go_big_quiet_step (fail))
          refine wpQuiet_nil ?_
          rw [if_pos (by decide)]
          refine ⟨thOK_call [] [] 16 _ _ (by kernel_rfl) rfl (by kernel_rfl) #[.pointer (some ⟨gb, 0, none⟩)] (by kernel_rfl) (by kernel_rfl) (fun ρ D u hq hK => ?_), ?_⟩
          · refine (HIB.out u hK.tw).mono ?_
            rintro e u' ⟨A2, c2, rfl, r1, r2, r3⟩
            exact ⟨_, rfl, ⟨by simp, by simp, fun _ => ⟨A2, c2, rfl⟩⟩, hK.put_b (j := 11) r1 r2 (by decide)⟩
          rw [t11]
          try go_frame
          repeat (go_big_quiet_step (fail))
          refine wpQuiet_nil ?_
          rw [if_neg (by decide)]
          refine ⟨.string (str q), detOK_run [11] [] (by kernel_rfl) (by kernel_rfl) (fun ρ D u hq hK => ?_), ?_⟩
          · have g3 := hq.gave 11 (by simp) (by decide)
            rw [t11] at g3
            have g1 := hK.bs 11 (by decide) (hq.did 11 (by simp)) _ _ g3
            exact ⟨u, run_box_any (s := convert 33 9 (.slice A11 m c11)) (by kernel_rfl) (conv9 u _ _ _ _ g1), hK.done (by decide) (by decide)⟩
          try go_frame
          repeat (go_big_quiet_step (fail))
          refine wpQuiet_nil ?_
          intro u hK
          have HTU := Lib.hid (show TW w u.drew a S b T from hK.tw.below (Below.refl _ _).drew)
          clear hK t1 t3 t4 t8 t11 i1 hθ HPA HPB HIA HIB
          obtain ⟨EV, P, hE⟩ : ∃ EV P, ((∀ i, i < len3 → okT S.pend.length o3 i) ∧ EV = (0 : Int) ∧ P = (S.crash len3 o3).plat) ∨ ((¬ ∀ i, i < len3 → okT S.pend.length o3 i) ∧ EV = 1 ∧ P = S.plat) := by
            by_cases hok : ∀ i, i < len3 → okT S.pend.length o3 i
            · exact ⟨0, _, .inl ⟨hok, rfl, rfl⟩⟩
            · exact ⟨1, _, .inr ⟨hok, rfl, rfl⟩⟩
          have hE2 : ((∀ i, i < len3 → okT T.pend.length o3 i) ∧ EV = (0 : Int) ∧ P = (T.crash len3 o3).plat) ∨ ((¬ ∀ i, i < len3 → okT T.pend.length o3 i) ∧ EV = 1 ∧ P = T.plat) := by
            rw [← core_len HLPE.out.1.same.pend, ← HLPE.out.1.same.crash, ← HLPE.out.1.same.plat]; exact hE
          have HE := Lib.hid (And.intro hE hE2)
          have HTN := Lib.hid (fun (v : World) (hv : Below w.heap.size w v) => (tn_of HKEEP.out).below hv)
          have HKA := Lib.hid (fun (h0 : 0 < len3) k (e : blkOf A3 = some k) => show k < w.heap.size by
            obtain ⟨bb, off, e2, hbb, _⟩ := HKEEP.out.2.2.2 h0
            rw [e2] at e; injection e with e; simp only at e; omega)
          have HCE := Lib.hid (show S.cnt = cnt ∧ T.cnt = cnt from ⟨HLPE.out.1.cnt, HLPE.out.1.same.cnt.symm.trans HLPE.out.1.cnt⟩)
          have HGE := Lib.hid (show a.g = ga ∧ b.g = gb from ⟨HLPE.out.1.ga, HLPE.out.1.gb⟩)
          have HLE := Lib.hid (show S.pend.length ≤ 2 ^ 42 ∧ T.pend.length ≤ 2 ^ 42 by rw [HLPE.out.2.1, HLPE.out.2.2]; omega)
          clear hE hE2
          go_wp2_with fail
          obtain ⟨v0, hv0⟩ : ∃ v0, v0 = u := ⟨u, rfl⟩
          subst hv0
          refine wp_theta [2, 5, 9, 12] [2, 5, 9, 10, 12, 13] (fun i v => ((i = 2 ∨ i = 5) → v = .int .i64 EV) ∧ ((i = 9 ∨ i = 12) → ∃ A c, v = .slice A m c)) (fun ρ D u => KC w ga gb cnt m S T P ρ D u) (fun _ => True) ?_ ?_ ?_ ?_ ?_ ?_ ?_ ?_ ?_ ?_
          · kernel_rfl
          · kernel_rfl
          · kernel_rfl
          · kernel_rfl
          · kernel_rfl
          · kernel_rfl
          · intro i hi; simp at hi; rcases hi with rfl | rfl | rfl | rfl; exact ⟨.int .i64 EV, by simp⟩; exact ⟨.int .i64 EV, by simp⟩; exact ⟨.slice none m 0, by simp⟩; exact ⟨.slice none m 0, by simp⟩
          · exact ⟨⟨a, S, b, T, HTU.out, HGE.out.1, HGE.out.2, HCE.out.1, HCE.out.2, fun _ => rfl, by simp, fun _ => rfl, by simp⟩, by simp⟩
          · exact fun _ _ _ _ => trivial
          · intro θ hθ
            simp only [SegsT, List.take_succ_cons, List.take_zero, List.drop_succ_cons, List.drop_zero, Nat.sub_zero, Nat.reduceSub, Nat.reduceAdd, List.drop_nil, List.take_nil]
            haveI i1 : Nonempty (Wd fun _ => True) := ⟨⟨v0.drew, trivial⟩⟩
            have t2 := (hθ 2 (by decide)).1 (by simp)
            have t5 := (hθ 5 (by decide)).1 (by simp)
            obtain ⟨A9, c9, t9⟩ := (hθ 9 (by decide)).2 (by simp)
            obtain ⟨A12, c12, t12⟩ := (hθ 12 (by decide)).2 (by simp)
            repeat (go_big_quiet_step (fail))
            refine wpQuiet_nil ?_
            rw [if_pos (by decide)]
            refine ⟨thOK_call [] [9, 12] 13 _ _ (by kernel_rfl) rfl (by kernel_rfl) #[.pointer (some ⟨ga, 0, none⟩), .slice A3 len3 cap3] (by kernel_rfl) (by kernel_rfl) (fun ρ D u hq hK => ?_), ?_⟩
            · obtain ⟨a', S', b', T', g1, g2, g3, g4, g5, g6, g7, g8, g9⟩ := hK.ex
              obtain rfl := g6 hq.now
              have hcr := crash_any g1.oa.dr A3 len3 cap3 o3 (HTN.out u g1.oa.bl) (fun h0 k e q => by have := HKA.out h0 k e; have := g1.oa.own k (.inl q); omega) hlen3 HLE.out.1 EV P HE.out.1
              rw [g2] at hcr
              refine hcr.mono ?_
              rintro e u' ⟨rfl, a2, S2, r1, r2, r3, r4⟩
              exact ⟨_, rfl, by simp, ⟨a2, S2, b', T', g1.mvA r1 r2, r2.g.trans g2, g3, r4.trans g4, g5, by simp [upd], fun _ => r3, by simpa [upd] using g8, by simpa [upd] using g9⟩, fun i hi hd => by
                have := hq.not i (by rcases hi with rfl | rfl <;> simp)
                rcases hi with rfl | rfl <;> simp [upd, this] at hd⟩
            rw [t2]
            try go_frame
            repeat (go_big_quiet_step (fail))
            refine wpQuiet_nil ?_
            rw [if_pos (by decide)]
            refine ⟨thOK_call [] [9, 12] 13 _ _ (by kernel_rfl) rfl (by kernel_rfl) #[.pointer (some ⟨gb, 0, none⟩), .slice A3 len3 cap3] (by kernel_rfl) (by kernel_rfl) (fun ρ D u hq hK => ?_), ?_⟩
            · obtain ⟨a', S', b', T', g1, g2, g3, g4, g5, g6, g7, g8, g9⟩ := hK.ex
              obtain rfl := g8 hq.now
              have hcr := crash_any g1.ob.dr A3 len3 cap3 o3 (HTN.out u g1.oa.bl) (fun h0 k e q => by have := HKA.out h0 k e; have := g1.ob.own k (.inl q); omega) hlen3 HLE.out.2 EV P HE.out.2
              rw [g3] at hcr
              refine hcr.mono ?_
              rintro e u' ⟨rfl, b2, T2, r1, r2, r3, r4⟩
              exact ⟨_, rfl, by simp, ⟨a', S', b2, T2, g1.mvB r1 r2, g2, r2.g.trans g3, g4, r4.trans g5, by simpa [upd] using g6, by simpa [upd] using g7, by simp [upd], fun _ => r3⟩, fun i hi hd => by
                have := hq.not i (by rcases hi with rfl | rfl <;> simp)
                rcases hi with rfl | rfl <;> simp [upd, this] at hd⟩
            rw [t5]
            try go_frame
            repeat (go_big_quiet_step (fail))
            refine wpQuiet_nil ?_
            rw [if_pos (by decide)]
            refine ⟨thOK_call [2, 5] [] 16 _ _ (by kernel_rfl) rfl (by kernel_rfl) #[.pointer (some ⟨ga, 0, none⟩)] (by kernel_rfl) (by kernel_rfl) (fun ρ D u hq hK => ?_), ?_⟩
            · obtain ⟨a', S', b', T', g1, g2, g3, g4, g5, g6, g7, g8, g9⟩ := hK.ex
              have hi := image_ok g1.oa.dr
              rw [g2, g4, g7 (hq.did 2 (by simp))] at hi
              refine hi.mono ?_
              rw [← HM.out]
              rintro e u' ⟨A2, c2, rfl, r1, r2, r3⟩
              exact ⟨_, rfl, by simp, hK.put (j := 9) r1 r2 (by decide)⟩
            rw [t9]
            try go_frame
            repeat (go_big_quiet_step (fail))
            refine wpQuiet_nil ?_
            rw [if_neg (by decide)]
            refine ⟨.string (str P), detOK_run [9] [] (by kernel_rfl) (by kernel_rfl) (fun ρ D u hq hK => ?_), ?_⟩
            · have g3 := hq.gave 9 (by simp) (by decide)
              rw [t9] at g3
              exact ⟨u, run_box_any (s := convert 33 9 (.slice A9 m c9)) (by kernel_rfl) (conv9 u _ _ _ _ (hK.bs 9 (by simp) (hq.did 9 (by simp)) _ _ g3)), hK.done (by decide)⟩
            try go_frame
            repeat (go_big_quiet_step (fail))
            refine wpQuiet_nil ?_
            rw [if_pos (by decide)]
            refine ⟨thOK_call [2, 5] [] 16 _ _ (by kernel_rfl) rfl (by kernel_rfl) #[.pointer (some ⟨gb, 0, none⟩)] (by kernel_rfl) (by kernel_rfl) (fun ρ D u hq hK => ?_), ?_⟩
            · obtain ⟨a', S', b', T', g1, g2, g3, g4, g5, g6, g7, g8, g9⟩ := hK.ex
              have hi := image_ok g1.ob.dr
              rw [g3, g5, g9 (hq.did 5 (by simp))] at hi
              refine hi.mono ?_
              rw [← HM.out]
              rintro e u' ⟨A2, c2, rfl, r1, r2, r3⟩
              exact ⟨_, rfl, by simp, hK.put (j := 12) r1 r2 (by decide)⟩
            rw [t12]
            try go_frame
            repeat (go_big_quiet_step (fail))
            refine wpQuiet_nil ?_
            rw [if_neg (by decide)]
            refine ⟨.string (str P), detOK_run [12] [] (by kernel_rfl) (by kernel_rfl) (fun ρ D u hq hK => ?_), ?_⟩
            · have g3 := hq.gave 12 (by simp) (by decide)
              rw [t12] at g3
              exact ⟨u, run_box_any (s := convert 33 9 (.slice A12 m c12)) (by kernel_rfl) (conv9 u _ _ _ _ (hK.bs 12 (by simp) (hq.did 12 (by simp)) _ _ g3)), hK.done (by decide)⟩
            try go_frame
            repeat (go_big_quiet_step (fail))
            refine wpQuiet_nil ?_
            intro u hK
            obtain ⟨a', S', b', T', g1, _⟩ := hK.ex
            have HBF := Lib.hid g1.oa.bl
            clear hK g1 t2 t5 t9 t12 i1 hθ
            go_wp2
            go_ret
            exact ⟨by first | rfl | simp, HBF.out⟩
  · have hnb : ¬ (1 ≤ n ∧ n ≤ 4096) := hn
    clear h1 h3
    go_enter Try.func5, Try.ntmps5
    go_wp2_with fail
    refine HA.out.mono ?_
    rintro e w1 ⟨rfl, hb1⟩
    have HB1 := Lib.hid hb1
    clear hb1
    go_wp2_with fail
    refine (new_bad n w1 hnb).mono ?_
    rintro e w' ⟨rfl, rfl⟩
    go_wp2_with fail
    refine (new_bad n w1 hnb).mono ?_
    rintro e w' ⟨rfl, rfl⟩
    clear hn hnb
    go_wp2
    go_ret
    exact ⟨by first | rfl | simp, HB1.out⟩
end Go.Proofs.Ytajhpfmfoolcjaa
