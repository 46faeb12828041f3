import Derived.Test.YtmifomppnmhmpaaConC
/- Read of consoles; Output, Waiting, End. -/
namespace Go.Proofs.Ytmifomppnmhmpaa
open Go.RowKit
set_option linter.unusedVariables false
set_option linter.unusedSimpArgs false
attribute [local go_sem] szIs_lit row_at row_past row_alloc nf_alloc row_set nf_set row_cell nf_cell row_drew nf_drew row_drewN nf_drewN cell_setRow frozen_setRow nlt1 nlt2 nlt3 nlt4 nne1 nne2 nne3 nen1 nen2 nen3
attribute [local go_sem] rg_setf rg_setn rg_setm

theorem Con.new_in {lay : Lay} {w w6 : World} {base g n ci q co off : Nat} {I O : Option Addr} {P R : Nat → Int} {en : Bool} (h : Con lay w base g I n ci P en O q co R) {A6 : Option Addr} {m c6 : Nat} {Y : Nat → Int} {v : Value} (hB : Below w.heap.size w w6) (ho : Own w6 w.heap.size 5 A6 m c6 (u8s Y)) (hb : base ≤ w.heap.size) (hs : Blk (w6.setCell ⟨g, off, none⟩ v) g (lay (.slice A6 m c6) en (.slice O q co))) :
    Con lay (w6.setCell ⟨g, off, none⟩ v) base g A6 m c6 Y en O q co R ∧ FrC w (w6.setCell ⟨g, off, none⟩ v) g I O A6 O := by
  have hst : ∀ k, k ≠ g → (w6.setCell ⟨g, off, none⟩ v).heap[k]? = w6.heap[k]? := fun k hk => heap_setCell_other w6 ⟨g, off, none⟩ k v hk
  have hgl := h.blk.lt
  have hne : inB A6 ≠ some g := fun e => by have := (ho.lt g e).1; omega
  have ho2 : Own w6 base 5 A6 m c6 (u8s Y) := by
    refine ⟨ho.1, ?_⟩
    rcases ho.2 with hv | ⟨g0, cap, cur, hv, hb0, rest⟩
    · exact .inl hv
    · exact .inr ⟨g0, cap, cur, hv, by omega, rest⟩
  refine ⟨⟨hs, ho2.heap fun k e => hst k (fun e2 => hne (by rw [e, e2])), h.out.heap fun k e => (hst k (fun e2 => h.og (by rw [e, e2]))).trans (hB.block k (h.out.lt k e).2), h.base, hne, h.og, fun k e e3 => ?_⟩,
    ⟨hB.os, hB.tape, hB.output, by simpa using hB.size, fun k hk hf => (hst k (fun e => hf (.inl e))).trans (hB.block k hk), fun k hk => ?_⟩⟩
  · have := (ho.lt k e).1; have := (h.out.lt k e3).2; omega
  · rcases hk with hk | hk | hk
    · exact .inl (.inl hk)
    · exact .inr (ho.lt k hk).1
    · exact .inl (.inr (.inr hk))
def CRead (lay : Lay) (w : World) (base g n q co : Nat) (I O : Option Addr) (P R : Nat → Int) (en : Bool) (C : Nat) (E : Int) (e : Ending) (w' : World) : Prop :=
  ∃ A1 c1 I' ci', e = .returned (.tuple #[.slice A1 C c1, .int .i64 E]) ∧ Own w' w.heap.size 5 A1 C c1 (u8s P) ∧ Con lay w' base g I' (n - C) ci' (fun i => P (C + i)) en O q co R ∧ FrC w w' g I O I' O ∧ (∀ k, inB A1 = some k → inB I' ≠ some k)
set_option maxHeartbeats 1000000 in
theorem cread_a (base g n ci q co : Nat) (I O : Option Addr) (P R : Nat → Int) (en : Bool) (w : World) (h : Con con w base g I n ci P en O q co R) (C : Nat) (hN : 0 < C) (hc : C ≤ n) (hb : base ≤ w.heap.size) (hn : n ≤ 65536) : Calls Try.prog 21 #[.pointer (some ⟨g, 0, none⟩), .int .i64 (C : Nat)] w fun e w' => CRead con w base g n q co I O P R en C 0 e w' := by
  have hnc : n ≤ ci := h.inp.le.1
  have hcm : ci ≤ 9223372036854775807 := h.inp.le.2
  have n0 : (((C : Nat) : Int) == 0) = false := beq_eq_false_iff_ne.2 (by omega)
  have n1 : ((n : Int) == 0) = false := beq_eq_false_iff_ne.2 (by omega)
  have n2 : ¬ (((C : Nat) : Int) < 0) := by omega
  obtain ⟨A1, hA, hA1⟩ := cut26h I n ci C (by omega)
  obtain ⟨A2, hB2, hA2⟩ := cut26 I n ci C (by omega)
  skip
  have hR : RdV w I n (u8s P) := fun hn => by
    obtain ⟨g0, e, hc⟩ := h.inp.cells hn
    exact ⟨_, e, fun i hi => ⟨hc i hi, rfl⟩⟩
  have HR1 := Lib.hid (show RdV w A1 C (u8s P) from fun hn => by
    obtain ⟨ad, e, hc'⟩ := hR (by omega)
    exact ⟨ad, (hA1 hn).trans e, fun i hi => hc' i (by omega)⟩)
  have HR2 := Lib.hid (show RdV w A2 (n - C) (u8s fun i => P (C + i)) from fun hn => by
    obtain ⟨ad, e, hc'⟩ := hR (by omega)
    exact ⟨ad.add C, (hA2 (.inr (by omega)) hnc).trans (by rw [e]; rfl), fun i hi => by rw [add_of_add]; exact hc' (C + i) (by omega)⟩)
  have HZ1 := Lib.hid (show A1 = none → C = 0 from fun e => by
    obtain ⟨ad, e2, _⟩ := hR (by omega)
    rw [hA1 (by omega), e2] at e; cases e)
  have HZ2 := Lib.hid (show A2 = none → (n - C) = 0 from fun e => by
    by_cases h1 : C < n
    · obtain ⟨ad, e2, _⟩ := hR (by omega)
      rw [hA2 (.inr h1) hnc, e2] at e; cases e
    · omega)
  have HM := Lib.hid (is_ok g _ _ _ w h.blk)
  obtain ⟨gr, gn, gc, gf⟩ := h.blk.all
  have cI := (gc 1).trans (show _ = some (.slice I n ci) from rfl)
  have cE := (gc 2).trans (show _ = some (.bool en) from rfl)
  have HH := Lib.hid h
  clear gr gn gc gf h hA1 hA2 hR
  go_enter Try.func21, Try.ntmps21
  go_wp2_with fail
  refine (HM.out).mono ?_; rintro e w' ⟨rfl, rfl⟩
  go_wp2_with fail
  refine (clone_ok A1 C ci (u8s P) w HZ1.out (by omega) (by omega) HR1.out).mono ?_
  rintro e w5 ⟨B1, b1, rfl, hO, hB⟩
  have HO5 := Lib.hid hO
  have HB5 := Lib.hid hB
  have hb5 := HH.out.blk.below hB HH.out.blk.lt
  obtain ⟨gr, gn, gc, gf⟩ := hb5.all
  have cI5 := (gc 1).trans (show _ = some (.slice I n ci) from rfl)
  clear gr gn gc gf hb5 hO hB
  go_wp2_with fail
  refine (clone_ok A2 (n - C) (ci - C) (u8s fun i => P (C + i)) w5 HZ2.out (by omega) (by omega) (rd_below HR2.out HB5.out)).mono ?_
  rintro e w6 ⟨B2, b2, rfl, hO, hB⟩
  have HO6 := Lib.hid (HO5.out.heap (w' := w6) fun k e => hB.block k (HO5.out.lt k e).2)
  have HP6 := Lib.hid hO
  have HB6 := Lib.hid (HB5.out.trans (hB.mono HB5.out.size))
  have hb6 := HH.out.blk.below HB6.out HH.out.blk.lt
  obtain ⟨gr, gn, gc, gf⟩ := hb6.all
  have cI6 := (gc 1).trans (show _ = some (.slice I n ci) from rfl)
  have f6 := gf 1
  have HK6 := Lib.hid hb6
  clear gr gn gc gf hb6 hO hB
  go_wp2
  go_ret2
  have hO2 : Own w6 w.heap.size 5 B2 (n - C) b2 (u8s fun i => P (C + i)) := by
    refine ⟨HP6.out.1, ?_⟩
    rcases HP6.out.2 with hv | ⟨g0, cap, cur, hv, hb0, rest⟩
    · exact .inl hv
    · exact .inr ⟨g0, cap, cur, hv, by have := HB5.out.size; omega, rest⟩
  obtain ⟨hC, hF⟩ := HH.out.new_in HB6.out hO2 hb (HK6.out.put 1 (.slice B2 (n - C) b2))
  exact ⟨B1, b1, B2, b2, by simp, HO6.out.heap fun k e => heap_setCell_other w6 ⟨g, 1, none⟩ k _ (fun (e2 : k = g) => by have := (HO6.out.lt k e).1; have := HH.out.blk.lt; omega), hC, hF, fun k e e2 => by have := (HO5.out.lt k e).2; have := (HP6.out.lt k e2).1; omega⟩
set_option maxHeartbeats 1000000 in
theorem kread_a (base g n ci q co : Nat) (I O : Option Addr) (P R : Nat → Int) (en : Bool) (w : World) (h : Con rc w base g I n ci P en O q co R) (C : Nat) (hN : 0 < C) (hc : C ≤ n) (hb : base ≤ w.heap.size) (hn : n ≤ 65536) : Calls Try.prog 37 #[.pointer (some ⟨g, 0, none⟩), .int .i64 (C : Nat)] w fun e w' => ∃ A1 c1 I' ci', e = .returned (.tuple #[.slice A1 C c1, .int .i64 0]) ∧ Own w' w.heap.size 5 A1 C c1 (u8s P) ∧ Con rc w' base g I' (n - C) ci' (fun i => P (C + i)) en O q co R ∧ FrC w w' g I O I' O := by
  have hnc : n ≤ ci := h.inp.le.1
  have hcm : ci ≤ 9223372036854775807 := h.inp.le.2
  have n0 : (((C : Nat) : Int) == 0) = false := beq_eq_false_iff_ne.2 (by omega)
  have n1 : ((n : Int) == 0) = false := beq_eq_false_iff_ne.2 (by omega)
  have n2 : ¬ (((C : Nat) : Int) < 0) := by omega
  have HR := Lib.hid (show RdV w I n (fun i => .int .u8 (P i)) from fun hn => by
    obtain ⟨g0, e, hc⟩ := h.inp.cells hn
    exact ⟨_, e, fun i hi => ⟨hc i hi, rfl⟩⟩)
  have HT := Lib.hid (takes_a I n ci C P w hc hnc hcm (by omega) HR.out)
  obtain ⟨gr, gn, gc, gf⟩ := h.blk.all
  have cI := (gc 0).trans (show _ = some (.slice I n ci) from rfl)
  have cE := (gc 1).trans (show _ = some (.bool en) from rfl)
  have HH := Lib.hid h
  clear gr gn gc gf h
  go_enter Try.func37, Try.ntmps37
  go_wp2_with fail
  refine (HT.out).mono ?_
  rintro e w6 ⟨B1, b1, B2, b2, rfl, hO1, hO2, hB⟩
  have HO6 := Lib.hid hO1
  have HP6 := Lib.hid hO2
  have HB6 := Lib.hid hB
  have hb6 := HH.out.blk.below HB6.out HH.out.blk.lt
  obtain ⟨gr, gn, gc, gf⟩ := hb6.all
  have cI6 := (gc 0).trans (show _ = some (.slice I n ci) from rfl)
  have f6 := gf 0
  have HK6 := Lib.hid hb6
  clear gr gn gc gf hb6 hO1 hO2 hB
  go_wp2
  go_ret2
  obtain ⟨hC, hF⟩ := HH.out.new_in HB6.out HP6.out hb (HK6.out.put 0 (.slice B2 (n - C) b2))
  skip
  exact ⟨B1, b1, B2, b2, by simp, HO6.out.heap fun k e => heap_setCell_other w6 ⟨g, 0, none⟩ k _ (fun (e2 : k = g) => by have := (HO6.out.lt k e).1; have := HH.out.blk.lt; omega), hC, hF⟩
set_option maxHeartbeats 1000000 in
theorem cread_b (base g n ci q co : Nat) (I O : Option Addr) (P R : Nat → Int) (en : Bool) (w : World) (h : Con con w base g I n ci P en O q co R) (N : Int) (hN : 0 < n) (hc : (n : Int) < N) (hb : base ≤ w.heap.size) (hn : n ≤ 65536) : Calls Try.prog 21 #[.pointer (some ⟨g, 0, none⟩), .int .i64 N] w fun e w' => CRead con w base g n q co I O P R en n 0 e w' := by
  have hnc : n ≤ ci := h.inp.le.1
  have hcm : ci ≤ 9223372036854775807 := h.inp.le.2
  have n0 : ((N : Int) == 0) = false := beq_eq_false_iff_ne.2 (by omega)
  have n1 : ((n : Int) == 0) = false := beq_eq_false_iff_ne.2 (by omega)
  have n2 : ¬ ((N : Int) < 0) := by omega
  obtain ⟨A1, hA, hA1⟩ := cut26h I n ci n (by omega)
  obtain ⟨A2, hB2, hA2⟩ := cut26 I n ci n (by omega)
  rw [Nat.sub_self] at hB2
  have hR : RdV w I n (u8s P) := fun hn => by
    obtain ⟨g0, e, hc⟩ := h.inp.cells hn
    exact ⟨_, e, fun i hi => ⟨hc i hi, rfl⟩⟩
  have HR1 := Lib.hid (show RdV w A1 n (u8s P) from fun hn => by
    obtain ⟨ad, e, hc'⟩ := hR (by omega)
    exact ⟨ad, (hA1 hn).trans e, fun i hi => hc' i (by omega)⟩)
  have HR2 := Lib.hid (show RdV w A2 0 (u8s fun i => P (n + i)) from fun hn => by
    obtain ⟨ad, e, hc'⟩ := hR (by omega)
    exact ⟨ad.add n, (hA2 (.inr (by omega)) hnc).trans (by rw [e]; rfl), fun i hi => by rw [add_of_add]; exact hc' (n + i) (by omega)⟩)
  have HZ1 := Lib.hid (show A1 = none → n = 0 from fun e => by
    obtain ⟨ad, e2, _⟩ := hR (by omega)
    rw [hA1 (by omega), e2] at e; cases e)
  have HZ2 := Lib.hid (show A2 = none → 0 = 0 from fun e => by
    exact rfl)
  have HM := Lib.hid (is_ok g _ _ _ w h.blk)
  obtain ⟨gr, gn, gc, gf⟩ := h.blk.all
  have cI := (gc 1).trans (show _ = some (.slice I n ci) from rfl)
  have cE := (gc 2).trans (show _ = some (.bool en) from rfl)
  have HH := Lib.hid h
  clear gr gn gc gf h hA1 hA2 hR
  go_enter Try.func21, Try.ntmps21
  go_wp2_with fail
  refine (HM.out).mono ?_; rintro e w' ⟨rfl, rfl⟩
  go_wp2_with fail
  refine (clone_ok A1 n ci (u8s P) w HZ1.out (by omega) (by omega) HR1.out).mono ?_
  rintro e w5 ⟨B1, b1, rfl, hO, hB⟩
  have HO5 := Lib.hid hO
  have HB5 := Lib.hid hB
  have hb5 := HH.out.blk.below hB HH.out.blk.lt
  obtain ⟨gr, gn, gc, gf⟩ := hb5.all
  have cI5 := (gc 1).trans (show _ = some (.slice I n ci) from rfl)
  clear gr gn gc gf hb5 hO hB
  go_wp2_with fail
  refine (clone_ok A2 0 (ci - n) (u8s fun i => P (n + i)) w5 (fun _ => rfl) (by omega) (by omega) (rd_below HR2.out HB5.out)).mono ?_
  rintro e w6 ⟨B2, b2, rfl, hO, hB⟩
  have HO6 := Lib.hid (HO5.out.heap (w' := w6) fun k e => hB.block k (HO5.out.lt k e).2)
  have HP6 := Lib.hid hO
  have HB6 := Lib.hid (HB5.out.trans (hB.mono HB5.out.size))
  have hb6 := HH.out.blk.below HB6.out HH.out.blk.lt
  obtain ⟨gr, gn, gc, gf⟩ := hb6.all
  have cI6 := (gc 1).trans (show _ = some (.slice I n ci) from rfl)
  have f6 := gf 1
  have HK6 := Lib.hid hb6
  clear gr gn gc gf hb6 hO hB
  go_wp2
  go_ret2
  have hO2 : Own w6 w.heap.size 5 B2 0 b2 (u8s fun i => P (n + i)) := by
    refine ⟨HP6.out.1, ?_⟩
    rcases HP6.out.2 with hv | ⟨g0, cap, cur, hv, hb0, rest⟩
    · exact .inl hv
    · exact .inr ⟨g0, cap, cur, hv, by have := HB5.out.size; omega, rest⟩
  obtain ⟨hC, hF⟩ := HH.out.new_in HB6.out hO2 hb (HK6.out.put 1 (.slice B2 0 b2))
  exact ⟨B1, b1, B2, b2, by simp, HO6.out.heap fun k e => heap_setCell_other w6 ⟨g, 1, none⟩ k _ (fun (e2 : k = g) => by have := (HO6.out.lt k e).1; have := HH.out.blk.lt; omega), (by rw [Nat.sub_self]; exact hC), hF, fun k e e2 => by have := (HO5.out.lt k e).2; have := (HP6.out.lt k e2).1; omega⟩
set_option maxHeartbeats 1000000 in
theorem kread_b (base g n ci q co : Nat) (I O : Option Addr) (P R : Nat → Int) (en : Bool) (w : World) (h : Con rc w base g I n ci P en O q co R) (N : Int) (hN : 0 < n) (hc : (n : Int) < N) (hb : base ≤ w.heap.size) (hn : n ≤ 65536) : Calls Try.prog 37 #[.pointer (some ⟨g, 0, none⟩), .int .i64 N] w fun e w' => ∃ A1 c1 I' ci', e = .returned (.tuple #[.slice A1 n c1, .int .i64 0]) ∧ Own w' w.heap.size 5 A1 n c1 (u8s P) ∧ Con rc w' base g I' (n - n) ci' (fun i => P (n + i)) en O q co R ∧ FrC w w' g I O I' O := by
  have hnc : n ≤ ci := h.inp.le.1
  have hcm : ci ≤ 9223372036854775807 := h.inp.le.2
  have n0 : ((N : Int) == 0) = false := beq_eq_false_iff_ne.2 (by omega)
  have n1 : ((n : Int) == 0) = false := beq_eq_false_iff_ne.2 (by omega)
  have n2 : ¬ ((N : Int) < 0) := by omega
  have HR := Lib.hid (show RdV w I n (fun i => .int .u8 (P i)) from fun hn => by
    obtain ⟨g0, e, hc⟩ := h.inp.cells hn
    exact ⟨_, e, fun i hi => ⟨hc i hi, rfl⟩⟩)
  have HT := Lib.hid (takes_b I n ci N P w hc hnc hcm (by omega) HR.out)
  obtain ⟨gr, gn, gc, gf⟩ := h.blk.all
  have cI := (gc 0).trans (show _ = some (.slice I n ci) from rfl)
  have cE := (gc 1).trans (show _ = some (.bool en) from rfl)
  have HH := Lib.hid h
  clear gr gn gc gf h
  go_enter Try.func37, Try.ntmps37
  go_wp2_with fail
  refine (HT.out).mono ?_
  rintro e w6 ⟨B1, b1, B2, b2, rfl, hO1, hO2, hB⟩
  have HO6 := Lib.hid hO1
  have HP6 := Lib.hid hO2
  have HB6 := Lib.hid hB
  have hb6 := HH.out.blk.below HB6.out HH.out.blk.lt
  obtain ⟨gr, gn, gc, gf⟩ := hb6.all
  have cI6 := (gc 0).trans (show _ = some (.slice I n ci) from rfl)
  have f6 := gf 0
  have HK6 := Lib.hid hb6
  clear gr gn gc gf hb6 hO1 hO2 hB
  go_wp2
  go_ret2
  obtain ⟨hC, hF⟩ := HH.out.new_in HB6.out HP6.out hb (HK6.out.put 0 (.slice B2 (n - n) b2))
  simp only [Nat.sub_self] at hC hF
  exact ⟨B1, b1, B2, b2, by simp, HO6.out.heap fun k e => heap_setCell_other w6 ⟨g, 0, none⟩ k _ (fun (e2 : k = g) => by have := (HO6.out.lt k e).1; have := HH.out.blk.lt; omega), (by rw [Nat.sub_self]; exact hC), hF⟩
theorem cend_ok (base g n ci q co : Nat) (I O : Option Addr) (P R : Nat → Int) (en : Bool) (w : World) (h : Con con w base g I n ci P en O q co R) : Calls Try.prog 24 #[.pointer (some ⟨g, 0, none⟩)] w fun e w' => e = .returned (.tuple #[]) ∧ Con con w' base g I n ci P true O q co R ∧ FrC w w' g I O I O := by
  have HM := Lib.hid (is_ok g _ _ _ w h.blk)
  obtain ⟨gr, gn, gc, gf⟩ := h.blk.all
  have cE := (gc 2).trans (show _ = some (.bool en) from rfl)
  have fE := gf 2
  have HH := Lib.hid h
  clear gr gn gc gf h
  go_enter Try.func24, Try.ntmps24
  go_wp2_with fail
  refine (HM.out).mono ?_; rintro e w' ⟨rfl, rfl⟩
  go_wp2
  go_end0
  have hst : ∀ k, k ≠ g → (w.setCell ⟨g, 2, none⟩ (.bool true)).heap[k]? = w.heap[k]? := fun k hk => heap_setCell_other w ⟨g, 2, none⟩ k _ hk
  exact ⟨rfl, ⟨HH.out.blk.put 2 _, HH.out.inp.heap fun k e => hst k (fun e2 => HH.out.ig (by rw [e, e2])), HH.out.out.heap fun k e => hst k (fun e2 => HH.out.og (by rw [e, e2])), HH.out.base, HH.out.ig, HH.out.og, HH.out.io⟩,
    ⟨rfl, rfl, rfl, by simp, fun k hk hf => hst k (fun e => hf (.inl e)), fun k hk => .inl hk⟩⟩
theorem cout_ok (base g n ci q co : Nat) (I O : Option Addr) (P R : Nat → Int) (en : Bool) (w : World) (h : Con con w base g I n ci P en O q co R) (hq : q ≤ 1048576) : Calls Try.prog 28 #[.pointer (some ⟨g, 0, none⟩)] w fun e w' => ∃ A' c', e = .returned (.slice A' q c') ∧ Own w' w.heap.size 5 A' q c' (u8s R) ∧ Below w.heap.size w w' := by
  have HM := Lib.hid (is_ok g _ _ _ w h.blk)
  obtain ⟨gr, gn, gc, gf⟩ := h.blk.all
  have cO := (gc 3).trans (show _ = some (.slice O q co) from rfl)
  have HR := Lib.hid (show RdV w O q (u8s R) from fun hn => by
    obtain ⟨g0, e, hc⟩ := h.out.cells hn
    exact ⟨_, e, fun i hi => ⟨hc i hi, rfl⟩⟩)
  have HZ := Lib.hid (show O = none → q = 0 from fun e => by
    rcases Nat.eq_zero_or_pos q with h0 | h0
    · exact h0
    · obtain ⟨g0, e2, _⟩ := h.out.cells h0
      rw [e] at e2; cases e2)
  have hqc := h.out.le.1
  clear gr gn gc gf h
  go_enter Try.func28, Try.ntmps28
  go_wp2_with fail
  refine (HM.out).mono ?_; rintro e w' ⟨rfl, rfl⟩
  go_wp2_with fail
  refine (clone_ok O q co (u8s R) w HZ.out (by omega) hqc HR.out).mono ?_
  rintro e w5 ⟨B1, b1, rfl, hO, hB⟩
  have HO5 := Lib.hid hO
  have HB5 := Lib.hid hB
  clear hO hB
  go_wp2
  go_ret
  exact ⟨B1, b1, by simp, HO5.out, HB5.out⟩
theorem cwaiting_ok (base g n ci q co : Nat) (I O : Option Addr) (P R : Nat → Int) (en : Bool) (w : World) (h : Con con w base g I n ci P en O q co R) : Calls Try.prog 29 #[.pointer (some ⟨g, 0, none⟩)] w fun e w' => e = .returned (.int .i64 (n : Nat)) ∧ w = w' := by
  have HM := Lib.hid (is_ok g _ _ _ w h.blk)
  obtain ⟨gr, gn, gc, gf⟩ := h.blk.all
  have cI := (gc 1).trans (show _ = some (.slice I n ci) from rfl)
  clear gr gn gc gf h
  go_enter Try.func29, Try.ntmps29
  go_wp2_with fail
  refine (HM.out).mono ?_; rintro e w' ⟨rfl, rfl⟩
  go_wp2
  go_ret
  exact ⟨by simp, rfl⟩
end Go.Proofs.Ytmifomppnmhmpaa
