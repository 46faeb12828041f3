import Derived.Test.YtmifomppnmhmpaaConAny
/- console: a call of both consoles. -/
namespace Go.Proofs.Ytmifomppnmhmpaa
open Go.RowKit
set_option linter.unusedVariables false
set_option linter.unusedSimpArgs false
attribute [local go_sem] szIs_lit row_at row_past row_alloc nf_alloc row_set nf_set row_cell nf_cell row_drew nf_drew row_drewN nf_drewN cell_setRow frozen_setRow nlt1 nlt2 nlt3 nlt4 nne1 nne2 nne3 nen1 nen2 nen3
attribute [local go_sem] rg_setf rg_setn rg_setm

def CS (w : World) (base g x n q : Nat) (P R : Nat → Int) (en : Bool) : Prop :=
  ∃ I ci O co J cj U cu, Con con w base g I n ci P en O q co R ∧ Con rc w base x J n cj P en U q cu R ∧ ∀ k, foot g I O k → ¬ foot x J U k
def CStep (w : World) (base g x : Nat) (e : Ending) (w' : World) : Prop :=
  e = .returned (.bool true) ∧ (∃ n' q' P' R' en', CS w' base g x n' q' P' R' en' ∧ n' ≤ 65536 ∧ q' ≤ 1048576) ∧ Below base w w'
theorem Con.drew {lay : Lay} {w : World} {base g n ci q co : Nat} {I O : Option Addr} {P R : Nat → Int} {en : Bool} (h : Con lay w base g I n ci P en O q co R) : Con lay w.drew base g I n ci P en O q co R := h.kept fun _ _ => rfl
theorem sym_apart {g x : Nat} {I O J U : Option Addr} (h : ∀ k, foot g I O k → ¬ foot x J U k) : ∀ k, foot x J U k → ¬ foot g I O k := fun k h1 h2 => h k h2 h1
theorem Own.rd8 {w : World} {base : Nat} {A : Option Addr} {n c : Nat} {P : Nat → Int} (h : Own w base 5 A n c (u8s P)) : Rd w A n P := fun hn => by
  obtain ⟨g0, e, hc⟩ := h.cells hn
  exact ⟨_, e, hc⟩
theorem Own.rdv {w : World} {base : Nat} {A : Option Addr} {n c : Nat} {P : Nat → Int} (h : Own w base 5 A n c (u8s P)) : RdV w A n (u8s P) := fun hn => by
  obtain ⟨g0, e, hc⟩ := h.cells hn
  exact ⟨_, e, fun i hi => ⟨hc i hi, rfl⟩⟩
set_option maxRecDepth 100000 in
set_option maxHeartbeats 2000000 in
theorem cstep_read (base g x n ci q co cj cu : Nat) (I O J U : Option Addr) (P R : Nat → Int) (en : Bool) (w : World) (hC : Con con w base g I n ci P en O q co R) (hK : Con rc w base x J n cj P en U q cu R) (hd : ∀ k, foot g I O k → ¬ foot x J U k) (hb : base ≤ w.heap.size) (hn : n ≤ 65536) (hq : q ≤ 1048576) (b : Bool) (N : Int) (L : Option Addr) (l lc : Nat) : Calls Try.prog 20 #[.pointer (some ⟨g, 0, none⟩), .pointer (some ⟨x, 0, none⟩), .agg #[.int .i64 3, .bool b, .int .i64 N, .slice L l lc]] w fun e w' => CStep w base g x e w' := by
  have hal : Below w.heap.size w (w.alloc (.cells #[.int .i64 3, .bool b, .int .i64 N, .slice L l lc] 28)) := (Below.refl _ _).alloc (Nat.le_refl _) _
  have HC1 := Lib.hid (hC.below hal)
  have HK1 := Lib.hid (hK.below hal)
  have HB1 := Lib.hid (hal.mono hb)
  have HS1 := Lib.hid (show base ≤ (w.alloc (.cells #[.int .i64 3, .bool b, .int .i64 N, .slice L l lc] 28)).heap.size from by simp; omega)
  have HW1 := Lib.hid (show (w.alloc (.cells #[.int .i64 3, .bool b, .int .i64 N, .slice L l lc] 28)).heap.size = w.heap.size + 1 from by simp)
  have HD := Lib.hid hd
  have HT1 := Lib.hid (show ∀ k, foot g I O k → k < w.heap.size from fun k hk => (hC.foot_lt hk).2)
  have HT2 := Lib.hid (show ∀ k, foot x J U k → k < w.heap.size from fun k hk => (hK.foot_lt hk).2)
  have HCB := Lib.hid (show ∀ i, (w.alloc (.cells #[.int .i64 3, .bool b, .int .i64 N, .slice L l lc] 28)).cell? ⟨w.heap.size, i, none⟩ = #[Value.int .i64 3, .bool b, .int .i64 N, .slice L l lc][i]? from fun i => cell_of_row _ _ i _ _ _ (heap_alloc_new w _))
  clear hal hC hK hd
  have cb := HCB.out 2
  go_enter Try.func20, Try.ntmps20
  go_wp2_with fail
  refine (cread_any base g n ci q co I O P R en _ HC1.out N HS1.out hn).mono ?_
  rintro e w5 ⟨A1, a1, I', ci', rfl, hO, hC, hF, hne⟩
  have HO5 := Lib.hid hO
  have HC5 := Lib.hid hC
  have HK5 := Lib.hid (cross HC1.out HK1.out HD.out hF)
  have HB5 := Lib.hid (HB1.out.trans (hF.below HC1.out HS1.out))
  have HS5 := Lib.hid (Nat.le_trans HS1.out hF.size)
  have HN5 := Lib.hid hne
  have hz5 : w.heap.size + 1 ≤ w5.heap.size := by have := hF.size; have := HW1.out; omega
  have HW5 := Lib.hid hF.new
  have cb5 := (World.cell?_of_block (a := ⟨w.heap.size, 2, none⟩) (hF.block w.heap.size (by have := HW1.out; omega) (fun h => by have := HT1.out _ h; omega))).trans (HCB.out 2)
  clear hO hC hF hne cb
  go_wp2_with fail
  refine (kread_any base x n cj q cu J U P R en _ HK5.out.1 N HS5.out hn).mono ?_
  rintro e w6 ⟨B1, b1, J', cj', rfl, hO, hC, hF⟩
  have HR6 := Lib.hid hO
  have HK6 := Lib.hid hC
  have HC6 := Lib.hid (cross HK5.out.1 HC5.out (sym_apart HK5.out.2) hF)
  have HB6 := Lib.hid (HB5.out.trans (hF.below HK5.out.1 HS5.out))
  have HO6 := Lib.hid (HO5.out.heap (w' := w6) fun k e => hF.block k (HO5.out.lt k e).2 (fun h => by have := (HO5.out.lt k e).1; have := HW1.out; have := HT2.out k h; omega))
  have hz6 : w5.heap.size ≤ w6.heap.size := hF.size
  have HX6 := Lib.hid (show ∀ k, inB A1 = some k → ¬ foot g I' O k ∧ ¬ foot x J' U k from fun k e => by
    have h1 := (HO5.out.lt k e).1
    have h2 := (HO5.out.lt k e).2
    have h3 := HW1.out
    refine ⟨fun h => ?_, fun h => ?_⟩
    · rcases h with h | h | h
      · have := HT1.out k (.inl h); omega
      · exact HN5.out k e h
      · have := HT1.out k (.inr (.inr h)); omega
    · rcases hF.new k h with h4 | h4
      · have := HT2.out k h4; omega
      · omega)
  clear hO hC hF cb5
  have hT : took n N ≤ n := by unfold took; split <;> omega
  generalize rdE en n N = EE at *
  generalize took n N = T at *
  go_wp2_with fail
  refine (same_yes A1 B1 T a1 b1 P P w6 HO6.out.rd8 HR6.out.rd8 (fun _ _ => rfl)).mono ?_
  rintro e w7 ⟨rfl, rfl⟩
  go_wp2_with fail
  refine (spoils_ok A1 T a1 w6 (by omega) (fun hn => by
    obtain ⟨g0, cur, e, hb', hc⟩ := HO6.out.blk hn
    exact ⟨g0, cur, e, hb', fun i hi => ⟨_, hc i hi⟩⟩)).mono ?_
  rintro e w7 ⟨rfl, hg, hs⟩
  have hrow : ∀ k, k < w6.heap.size → inB A1 ≠ some k → w7.heap[k]? = w6.heap[k]? := fun k hk hne => hg.block k hk (fun e => hne e.symm)
  have HC7 := Lib.hid (HC6.out.1.kept (w' := w7) fun k hk => hrow k (HC6.out.1.foot_lt hk).2 (fun e => (HX6.out k e).1 hk))
  have HK7 := Lib.hid (HK6.out.kept (w' := w7) fun k hk => hrow k (HK6.out.foot_lt hk).2 (fun e => (HX6.out k e).2 hk))
  have HB7 := Lib.hid (HB6.out.trans (show Below base w6 w7 from ⟨hg.os, hg.tape, hg.output, hg.size, fun k hk => hrow k (by omega) (fun e => by have := (HO6.out.lt k e).1; have := HW1.out; omega)⟩))
  clear hg hs hrow
  go_wp2
  go_ret
  exact ⟨by first | rfl | simp, ⟨n - T, q, _, R, en, ⟨I', ci', O, co, J', cj', U, cu, HC7.out, HK7.out, sym_apart HC6.out.2⟩, by omega, hq⟩, HB7.out⟩
set_option maxRecDepth 100000 in
set_option maxHeartbeats 2000000 in
theorem cstep_ready (base g x n ci q co cj cu : Nat) (I O J U : Option Addr) (P R : Nat → Int) (en : Bool) (w : World) (hC : Con con w base g I n ci P en O q co R) (hK : Con rc w base x J n cj P en U q cu R) (hd : ∀ k, foot g I O k → ¬ foot x J U k) (hb : base ≤ w.heap.size) (hn : n ≤ 65536) (hq : q ≤ 1048576) (b : Bool) (N : Int) (L : Option Addr) (l lc : Nat) : Calls Try.prog 20 #[.pointer (some ⟨g, 0, none⟩), .pointer (some ⟨x, 0, none⟩), .agg #[.int .i64 5, .bool b, .int .i64 N, .slice L l lc]] w fun e w' => CStep w base g x e w' := by
  have hal : Below w.heap.size w (w.alloc (.cells #[.int .i64 5, .bool b, .int .i64 N, .slice L l lc] 28)) := (Below.refl _ _).alloc (Nat.le_refl _) _
  have HC1 := Lib.hid (hC.below hal)
  have HK1 := Lib.hid (hK.below hal)
  have HB1 := Lib.hid (hal.mono hb)
  have HS1 := Lib.hid (show base ≤ (w.alloc (.cells #[.int .i64 5, .bool b, .int .i64 N, .slice L l lc] 28)).heap.size from by simp; omega)
  have HW1 := Lib.hid (show (w.alloc (.cells #[.int .i64 5, .bool b, .int .i64 N, .slice L l lc] 28)).heap.size = w.heap.size + 1 from by simp)
  have HD := Lib.hid hd
  have HT1 := Lib.hid (show ∀ k, foot g I O k → k < w.heap.size from fun k hk => (hC.foot_lt hk).2)
  have HT2 := Lib.hid (show ∀ k, foot x J U k → k < w.heap.size from fun k hk => (hK.foot_lt hk).2)
  have HCB := Lib.hid (show ∀ i, (w.alloc (.cells #[.int .i64 5, .bool b, .int .i64 N, .slice L l lc] 28)).cell? ⟨w.heap.size, i, none⟩ = #[Value.int .i64 5, .bool b, .int .i64 N, .slice L l lc][i]? from fun i => cell_of_row _ _ i _ _ _ (heap_alloc_new w _))
  clear hal hC hK hd
  have cb := HCB.out 1
  go_enter Try.func20, Try.ntmps20
  go_wp2_with fail
  go_quiet ((first | (go_at_call 27; (refine Calls.quiet_of_same ((cready_any base g n ci q co I O P R en _ ?_ b).mono fun _ _ ⟨a, b⟩ => ⟨a, b.symm⟩); exact HC1.out.kept fun _ _ => rfl)) | (go_at_call 40; (refine Calls.quiet_of_same ((kready_any base x n cj q cu J U P R en _ ?_ b).mono fun _ _ ⟨a, b⟩ => ⟨a, b.symm⟩); exact HK1.out.kept fun _ _ => rfl))))
  go_wp2
  go_ret
  exact ⟨by first | rfl | simp, ⟨n, q, P, R, en, ⟨I, ci, O, co, J, cj, U, cu, HC1.out.kept fun _ _ => rfl, HK1.out.kept fun _ _ => rfl, HD.out⟩, hn, hq⟩, below_drewN HB1.out _⟩
set_option maxRecDepth 100000 in
set_option maxHeartbeats 2000000 in
theorem cstep_end (base g x n ci q co cj cu : Nat) (I O J U : Option Addr) (P R : Nat → Int) (en : Bool) (w : World) (hC : Con con w base g I n ci P en O q co R) (hK : Con rc w base x J n cj P en U q cu R) (hd : ∀ k, foot g I O k → ¬ foot x J U k) (hb : base ≤ w.heap.size) (hn : n ≤ 65536) (hq : q ≤ 1048576) (b : Bool) (N : Int) (L : Option Addr) (l lc : Nat) : Calls Try.prog 20 #[.pointer (some ⟨g, 0, none⟩), .pointer (some ⟨x, 0, none⟩), .agg #[.int .i64 7, .bool b, .int .i64 N, .slice L l lc]] w fun e w' => CStep w base g x e w' := by
  have hal : Below w.heap.size w (w.alloc (.cells #[.int .i64 7, .bool b, .int .i64 N, .slice L l lc] 28)) := (Below.refl _ _).alloc (Nat.le_refl _) _
  have HC1 := Lib.hid (hC.below hal)
  have HK1 := Lib.hid (hK.below hal)
  have HB1 := Lib.hid (hal.mono hb)
  have HS1 := Lib.hid (show base ≤ (w.alloc (.cells #[.int .i64 7, .bool b, .int .i64 N, .slice L l lc] 28)).heap.size from by simp; omega)
  have HW1 := Lib.hid (show (w.alloc (.cells #[.int .i64 7, .bool b, .int .i64 N, .slice L l lc] 28)).heap.size = w.heap.size + 1 from by simp)
  have HD := Lib.hid hd
  have HT1 := Lib.hid (show ∀ k, foot g I O k → k < w.heap.size from fun k hk => (hC.foot_lt hk).2)
  have HT2 := Lib.hid (show ∀ k, foot x J U k → k < w.heap.size from fun k hk => (hK.foot_lt hk).2)
  have HCB := Lib.hid (show ∀ i, (w.alloc (.cells #[.int .i64 7, .bool b, .int .i64 N, .slice L l lc] 28)).cell? ⟨w.heap.size, i, none⟩ = #[Value.int .i64 7, .bool b, .int .i64 N, .slice L l lc][i]? from fun i => cell_of_row _ _ i _ _ _ (heap_alloc_new w _))
  clear hal hC hK hd
  go_enter Try.func20, Try.ntmps20
  go_wp2_with fail
  refine (cend_ok base g n ci q co I O P R en _ HC1.out).mono ?_
  rintro e w5 ⟨rfl, hC, hF⟩
  have HC5 := Lib.hid hC
  have HK5 := Lib.hid (cross HC1.out HK1.out HD.out hF)
  have HB5 := Lib.hid (HB1.out.trans (hF.below HC1.out HS1.out))
  have HS5 := Lib.hid (Nat.le_trans HS1.out hF.size)
  obtain ⟨gr, gn, gc, gf⟩ := HK5.out.1.blk.all
  have cE := (gc 1).trans (show _ = some (.bool en) from rfl)
  have fE := gf 1
  clear hC hF gr gn gc gf
  go_wp2
  go_ret
  have hst : ∀ k, k ≠ x → (w5.setCell ⟨x, 1, none⟩ (.bool true)).heap[k]? = w5.heap[k]? := fun k hk => heap_setCell_other w5 ⟨x, 1, none⟩ k _ hk
  have hK6 : Con rc (w5.setCell ⟨x, 1, none⟩ (.bool true)) base x J n cj P true U q cu R := ⟨HK5.out.1.blk.put 1 _, HK5.out.1.inp.heap fun k e => hst k (fun e2 => HK5.out.1.ig (by rw [e, e2])), HK5.out.1.out.heap fun k e => hst k (fun e2 => HK5.out.1.og (by rw [e, e2])), HK5.out.1.base, HK5.out.1.ig, HK5.out.1.og, HK5.out.1.io⟩
  exact ⟨by first | rfl | simp, ⟨n, q, P, R, true, ⟨I, ci, O, co, J, cj, U, cu, HC5.out.kept fun k hk => hst k (fun e => HK5.out.2 k hk (.inl e)), hK6, HK5.out.2⟩, hn, hq⟩, HB5.out.setCell (by have := HK5.out.1.base; exact this) _⟩
set_option maxRecDepth 100000 in
set_option maxHeartbeats 2000000 in
theorem cstep_write (base g x n ci q co cj cu : Nat) (I O J U : Option Addr) (P R : Nat → Int) (en : Bool) (w : World) (hC : Con con w base g I n ci P en O q co R) (hK : Con rc w base x J n cj P en U q cu R) (hd : ∀ k, foot g I O k → ¬ foot x J U k) (hb : base ≤ w.heap.size) (hn : n ≤ 65536) (hq : q ≤ 1048576) (b : Bool) (N : Int) (L : Option Addr) (l lc : Nat) (Y : Nat → Int) (hL : Nums .u8 w base L l lc Y) (hll : l * 1 ≤ reachBytes) : Calls Try.prog 20 #[.pointer (some ⟨g, 0, none⟩), .pointer (some ⟨x, 0, none⟩), .agg #[.int .i64 4, .bool b, .int .i64 N, .slice L l lc]] w fun e w' => CStep w base g x e w' := by
  have hlm : l ≤ 140737488351232 := by unfold reachBytes at hll; omega
  have hlc : l ≤ lc := hL.1
  have hcm : lc ≤ 9223372036854775807 := hL.2.1
  have hal : Below w.heap.size w (w.alloc (.cells #[.int .i64 4, .bool b, .int .i64 N, .slice L l lc] 28)) := (Below.refl _ _).alloc (Nat.le_refl _) _
  have HC1 := Lib.hid (hC.below hal)
  have HK1 := Lib.hid (hK.below hal)
  have HB1 := Lib.hid (hal.mono hb)
  have HS1 := Lib.hid (show base ≤ (w.alloc (.cells #[.int .i64 4, .bool b, .int .i64 N, .slice L l lc] 28)).heap.size from by simp; omega)
  have HW1 := Lib.hid (show (w.alloc (.cells #[.int .i64 4, .bool b, .int .i64 N, .slice L l lc] 28)).heap.size = w.heap.size + 1 from by simp)
  have HD := Lib.hid hd
  have HT1 := Lib.hid (show ∀ k, foot g I O k → k < w.heap.size from fun k hk => (hC.foot_lt hk).2)
  have HT2 := Lib.hid (show ∀ k, foot x J U k → k < w.heap.size from fun k hk => (hK.foot_lt hk).2)
  have HCB := Lib.hid (show ∀ i, (w.alloc (.cells #[.int .i64 4, .bool b, .int .i64 N, .slice L l lc] 28)).cell? ⟨w.heap.size, i, none⟩ = #[Value.int .i64 4, .bool b, .int .i64 N, .slice L l lc][i]? from fun i => cell_of_row _ _ i _ _ _ (heap_alloc_new w _))
  clear hal hC hK hd
  have cb := HCB.out 3
  have cb0 := HCB.out 0
  have HL := Lib.hid (hL.below (HB1.out))
  have HL1 := Lib.hid (show 0 + l ≤ maxLen by unfold maxLen; omega)
  have HL2 := Lib.hid (show (0 + l) * 1 ≤ 140737488355328 by omega)
  clear hL
  go_enter Try.func20, Try.ntmps20
  go_wp2_with (at_builtin; go_must (refine wpList_app rfl (.tmp 52) (.tmp 54) 26 5 rfl (.int .u8 0) 1 ty26 i5 rfl (w.heap.size + 1) _ _ _ rfl _ _ _ rfl (fun _ => .int .u8 0) (own_empty _ (heap_at (by simp)) (Nat.le_refl _)) (u8s Y) ?_ HL1.out HL2.out (by simp) ?_; (focus (intro hn; obtain ⟨ad, e, hb', hc⟩ := HL.out.2.2.2 hn; exact ⟨ad, e, fun i hi => ⟨(World.cell?_alloc_lt _ _ _ (by rw [block_of_add]; have := HS1.out; omega)).trans (hc i hi), rfl⟩⟩)); intro A6 c6 w6 hO6 hg6 hb6; have hold : ∀ k, k < w.heap.size + 1 → w6.heap[k]? = (w.alloc (.cells #[.int .i64 4, .bool b, .int .i64 N, .slice L l lc] 28)).heap[k]? := (fun k hk => (hg6.block k (by simp; omega) (by simp [inB]; omega)).trans (heap_past (by simp; omega))); have cb6 := (World.cell?_of_block (a := ⟨w.heap.size, 3, none⟩) (hold w.heap.size (by omega))).trans (HCB.out 3); have cz6 := (World.cell?_of_block (a := ⟨w.heap.size, 0, none⟩) (hold w.heap.size (by omega))).trans (HCB.out 0); have hz6 : w.heap.size + 2 ≤ w6.heap.size := (by have := hg6.size; simp at this; omega); have HOLD := Lib.hid hold; have HO6' := Lib.hid hO6; have HG6 := Lib.hid hg6; clear hO6 hg6 hb6 hold))
  have h6 := HO6'.out
  rw [Nat.zero_add] at h6
  have HO6 := Lib.hid (h6.ext (U := u8s Y) fun i hi => by unfold catV; rw [if_neg (by omega), Nat.sub_zero])
  have HC6 := Lib.hid (HC1.out.kept (w' := w6) fun k hk => HOLD.out k (by have := HT1.out k hk; omega))
  have HK6 := Lib.hid (HK1.out.kept (w' := w6) fun k hk => HOLD.out k (by have := HT2.out k hk; omega))
  have HB16 : Below base (w.alloc (.cells #[.int .i64 4, .bool b, .int .i64 N, .slice L l lc] 28)) w6 := ⟨HG6.out.os, HG6.out.tape, HG6.out.output, by have := HW1.out; omega, fun k hk => HOLD.out k (by omega)⟩
  have HB6 := Lib.hid (HB1.out.trans HB16)
  have HS6 := Lib.hid (show base ≤ w6.heap.size by omega)
  have HL6 := Lib.hid (HL.out.below HB16)
  have HRL := Lib.hid (show RdV w6 L l (u8s Y) from fun hn => by
    obtain ⟨ad, e, hb', hc⟩ := HL6.out.2.2.2 hn
    exact ⟨ad, e, fun i hi => ⟨hc i hi, rfl⟩⟩)
  clear h6 cb cb0 HB16
  refine (cwrite_any base g n ci q co I O P R en w6 HC6.out A6 l c6 Y hq hlm HS6.out HO6.out.rdv).mono ?_
  rintro e w7 ⟨rfl, O', co', hC, hF⟩
  have HC7 := Lib.hid hC
  have HK7 := Lib.hid (cross HC6.out HK6.out HD.out hF)
  have HB7 := Lib.hid (HB6.out.trans (hF.below HC6.out HS6.out))
  have HS7 := Lib.hid (Nat.le_trans HS6.out hF.size)
  have HW7 := Lib.hid (show ∀ k, foot g I O' k → k < w.heap.size ∨ w6.heap.size ≤ k from fun k hk => (hF.new k hk).imp (HT1.out k) id)
  have HO7 := Lib.hid (HO6.out.heap (w' := w7) fun k e => hF.block k (HO6.out.lt k e).2 (fun h => by have := (HO6.out.lt k e).1; have := HT1.out k h; omega))
  have HRL7 := Lib.hid (show RdV w7 L l (u8s Y) from fun hn => by
    obtain ⟨ad, e, hb', hc⟩ := HL6.out.2.2.2 hn
    exact ⟨ad, e, fun i hi => ⟨((hF.below HC6.out HS6.out).cell (by rw [block_of_add]; exact hb')).trans (hc i hi), rfl⟩⟩)
  have cb7 := (World.cell?_of_block (a := ⟨w.heap.size, 3, none⟩) (hF.block w.heap.size (by omega) (fun h => by have := HT1.out _ h; omega))).trans cb6
  have hz7 : w6.heap.size ≤ w7.heap.size := hF.size
  clear hC hF cb6 cz6
  go_wp2_with fail
  refine (kwrite_any base x n cj q cu J U P R en w7 HK7.out.1 L l lc Y hq hlm HS7.out HRL7.out).mono ?_
  rintro e w8 ⟨rfl, U', cu', hC, hF⟩
  have HK8 := Lib.hid hC
  have HCC := Lib.hid (cross HK7.out.1 HC7.out (sym_apart HK7.out.2) hF)
  have HC8 := Lib.hid HCC.out.1
  have HB8 := Lib.hid (HB7.out.trans (hF.below HK7.out.1 HS7.out))
  have HS8 := Lib.hid (Nat.le_trans HS7.out hF.size)
  have HO8 := Lib.hid (HO7.out.heap (w' := w8) fun k e => hF.block k (HO7.out.lt k e).2 (fun h => by have := (HO7.out.lt k e).1; have := HT2.out k h; omega))
  have HX8 := Lib.hid (show ∀ k, inB A6 = some k → ¬ foot g I O' k ∧ ¬ foot x J U' k from fun k e => by
    have h1 := (HO6.out.lt k e).1
    have h2 := (HO6.out.lt k e).2
    refine ⟨fun h => ?_, fun h => ?_⟩
    · rcases HW7.out k h with h3 | h3 <;> omega
    · rcases hF.new k h with h3 | h3
      · have := HT2.out k h3; omega
      · omega)
  clear hC hF cb7
  have hwN : q + woN q l ≤ 1048576 := by unfold woN; split <;> omega
  generalize woE q l = EE at *
  generalize woN q l = C at *
  go_wp2_with fail
  refine (spoils_ok A6 l c6 w8 (by omega) (fun hn => by
    obtain ⟨g0, cur, e, hb', hc⟩ := HO8.out.blk hn
    exact ⟨g0, cur, e, hb', fun i hi => ⟨_, hc i hi⟩⟩)).mono ?_
  rintro e w9 ⟨rfl, hg, hs⟩
  have hrow : ∀ k, k < w8.heap.size → inB A6 ≠ some k → w9.heap[k]? = w8.heap[k]? := fun k hk hne => hg.block k hk (fun e => hne e.symm)
  have HC9 := Lib.hid (HC8.out.kept (w' := w9) fun k hk => hrow k (HC8.out.foot_lt hk).2 (fun e => (HX8.out k e).1 hk))
  have HK9 := Lib.hid (HK8.out.kept (w' := w9) fun k hk => hrow k (HK8.out.foot_lt hk).2 (fun e => (HX8.out k e).2 hk))
  have HB9 := Lib.hid (HB8.out.trans (show Below base w8 w9 from ⟨hg.os, hg.tape, hg.output, hg.size, fun k hk => hrow k (by have := HO8.out; have := HS8.out; omega) (fun e => by have := (HO8.out.lt k e).1; omega)⟩))
  clear hg hs hrow
  go_wp2
  go_ret
  exact ⟨by first | rfl | simp, ⟨n, q + C, P, _, en, ⟨I, ci, O', co', J, cj, U', cu', HC9.out, HK9.out, sym_apart HCC.out.2⟩, hn, hwN⟩, HB9.out⟩
set_option maxRecDepth 100000 in
set_option maxHeartbeats 4000000 in
theorem cstep_type (base g x n ci q co cj cu : Nat) (I O J U : Option Addr) (P R : Nat → Int) (en : Bool) (w : World) (hC : Con con w base g I n ci P en O q co R) (hK : Con rc w base x J n cj P en U q cu R) (hd : ∀ k, foot g I O k → ¬ foot x J U k) (hb : base ≤ w.heap.size) (hn : n ≤ 65536) (hq : q ≤ 1048576) (b : Bool) (N : Int) (L : Option Addr) (l lc : Nat) (Y : Nat → Int) (hL : Nums .u8 w base L l lc Y) (hll : l * 1 ≤ reachBytes) : Calls Try.prog 20 #[.pointer (some ⟨g, 0, none⟩), .pointer (some ⟨x, 0, none⟩), .agg #[.int .i64 6, .bool b, .int .i64 N, .slice L l lc]] w fun e w' => CStep w base g x e w' := by
  have hlm : l ≤ 140737488351232 := by unfold reachBytes at hll; omega
  have hlc : l ≤ lc := hL.1
  have hcm : lc ≤ 9223372036854775807 := hL.2.1
  have hal : Below w.heap.size w (w.alloc (.cells #[.int .i64 6, .bool b, .int .i64 N, .slice L l lc] 28)) := (Below.refl _ _).alloc (Nat.le_refl _) _
  have HC1 := Lib.hid (hC.below hal)
  have HK1 := Lib.hid (hK.below hal)
  have HB1 := Lib.hid (hal.mono hb)
  have HS1 := Lib.hid (show base ≤ (w.alloc (.cells #[.int .i64 6, .bool b, .int .i64 N, .slice L l lc] 28)).heap.size from by simp; omega)
  have HW1 := Lib.hid (show (w.alloc (.cells #[.int .i64 6, .bool b, .int .i64 N, .slice L l lc] 28)).heap.size = w.heap.size + 1 from by simp)
  have HD := Lib.hid hd
  have HT1 := Lib.hid (show ∀ k, foot g I O k → k < w.heap.size from fun k hk => (hC.foot_lt hk).2)
  have HT2 := Lib.hid (show ∀ k, foot x J U k → k < w.heap.size from fun k hk => (hK.foot_lt hk).2)
  have HCB := Lib.hid (show ∀ i, (w.alloc (.cells #[.int .i64 6, .bool b, .int .i64 N, .slice L l lc] 28)).cell? ⟨w.heap.size, i, none⟩ = #[Value.int .i64 6, .bool b, .int .i64 N, .slice L l lc][i]? from fun i => cell_of_row _ _ i _ _ _ (heap_alloc_new w _))
  clear hal hC hK hd
  have cb := HCB.out 3
  have cb0 := HCB.out 0
  have HL := Lib.hid (hL.below (HB1.out))
  have HL1 := Lib.hid (show 0 + l ≤ maxLen by unfold maxLen; omega)
  have HL2 := Lib.hid (show (0 + l) * 1 ≤ 140737488355328 by omega)
  clear hL
  go_enter Try.func20, Try.ntmps20
  go_wp2_with (at_builtin; go_must (refine wpList_app rfl (.tmp 52) (.tmp 54) 26 5 rfl (.int .u8 0) 1 ty26 i5 rfl (w.heap.size + 1) _ _ _ rfl _ _ _ rfl (fun _ => .int .u8 0) (own_empty _ (heap_at (by simp)) (Nat.le_refl _)) (u8s Y) ?_ HL1.out HL2.out (by simp) ?_; (focus (intro hn; obtain ⟨ad, e, hb', hc⟩ := HL.out.2.2.2 hn; exact ⟨ad, e, fun i hi => ⟨(World.cell?_alloc_lt _ _ _ (by rw [block_of_add]; have := HS1.out; omega)).trans (hc i hi), rfl⟩⟩)); intro A6 c6 w6 hO6 hg6 hb6; have hold : ∀ k, k < w.heap.size + 1 → w6.heap[k]? = (w.alloc (.cells #[.int .i64 6, .bool b, .int .i64 N, .slice L l lc] 28)).heap[k]? := (fun k hk => (hg6.block k (by simp; omega) (by simp [inB]; omega)).trans (heap_past (by simp; omega))); have cb6 := (World.cell?_of_block (a := ⟨w.heap.size, 3, none⟩) (hold w.heap.size (by omega))).trans (HCB.out 3); have cz6 := (World.cell?_of_block (a := ⟨w.heap.size, 0, none⟩) (hold w.heap.size (by omega))).trans (HCB.out 0); have hz6 : w.heap.size + 2 ≤ w6.heap.size := (by have := hg6.size; simp at this; omega); have HOLD := Lib.hid hold; have HO6' := Lib.hid hO6; have HG6 := Lib.hid hg6; clear hO6 hg6 hb6 hold))
  have h6 := HO6'.out
  rw [Nat.zero_add] at h6
  have HO6 := Lib.hid (h6.ext (U := u8s Y) fun i hi => by unfold catV; rw [if_neg (by omega), Nat.sub_zero])
  have HC6 := Lib.hid (HC1.out.kept (w' := w6) fun k hk => HOLD.out k (by have := HT1.out k hk; omega))
  have HK6 := Lib.hid (HK1.out.kept (w' := w6) fun k hk => HOLD.out k (by have := HT2.out k hk; omega))
  have HB16 : Below base (w.alloc (.cells #[.int .i64 6, .bool b, .int .i64 N, .slice L l lc] 28)) w6 := ⟨HG6.out.os, HG6.out.tape, HG6.out.output, by have := HW1.out; omega, fun k hk => HOLD.out k (by omega)⟩
  have HB6 := Lib.hid (HB1.out.trans HB16)
  have HS6 := Lib.hid (show base ≤ w6.heap.size by omega)
  have HL6 := Lib.hid (HL.out.below HB16)
  have HRL := Lib.hid (show RdV w6 L l (u8s Y) from fun hn => by
    obtain ⟨ad, e, hb', hc⟩ := HL6.out.2.2.2 hn
    exact ⟨ad, e, fun i hi => ⟨hc i hi, rfl⟩⟩)
  clear h6 cb cb0 HB16
  have CB := Lib.hid cb6
  have HRLf := Lib.hid (show ∀ w', Below base w6 w' → RdV w' L l (u8s Y) from fun w' hB hn => by
    obtain ⟨ad, e, hb', hc⟩ := HL6.out.2.2.2 hn
    exact ⟨ad, e, fun i hi => ⟨(hB.cell (by rw [block_of_add]; exact hb')).trans (hc i hi), rfl⟩⟩)
  go_region_with (first
    | (go_at_call 26; go_must (refine (ctype_any base g n ci q co I O P R en _ ?_ A6 l c6 Y hn hlm ?_ ?_).mono ?_; (focus (first | exact HC6.out | exact HC6.out.drew | exact HCb.out.1 | exact HCb.out.1.drew | fail)); (focus (first | exact HS6.out | exact HS7.out | fail)); (focus (first | exact HO6.out.rdv | exact HO7.out.rdv | fail)); rintro e w7 ⟨rfl, I', ci', hC, hF⟩; (try replace hF := FrC.undrew hF); have HNI := Lib.hid hF.new; (first | (have HCd := Lib.hid hC; have HKd := Lib.hid (cross HCb.out.1 HKb.out (sym_apart HCb.out.2) hF); have HB8 := Lib.hid (HB7.out.trans (hF.below HCb.out.1 HS7.out)); have HS8 := Lib.hid (Nat.le_trans HS7.out hF.size); have HO8 := Lib.hid (HO7.out.heap fun k e => hF.block k (HO7.out.lt k e).2 (fun h => by have := (HO7.out.lt k e).1; have := HT1.out k h; omega))) | (have HCa := Lib.hid hC; have HKa := Lib.hid (cross HC6.out HK6.out HD.out hF); have HB7 := Lib.hid (HB6.out.trans (hF.below HC6.out HS6.out)); have HS7 := Lib.hid (Nat.le_trans HS6.out hF.size); have HZ7 := Lib.hid hF.size; have HO7 := Lib.hid (HO6.out.heap fun k e => hF.block k (HO6.out.lt k e).2 (fun h => by have := (HO6.out.lt k e).1; have := HT1.out k h; omega)); have cb7 := (World.cell?_of_block (a := ⟨w.heap.size, 3, none⟩) (hF.block w.heap.size (by omega) (fun h => by have := HT1.out _ h; omega))).trans CB.out; have HR7 := Lib.hid (HRLf.out _ (hF.below HC6.out HS6.out))) | fail); clear hC hF))
    | (go_at_call 38; go_must (refine (ktype_any base x n cj q cu J U P R en _ ?_ L l lc Y hn hlm ?_ ?_).mono ?_; (focus (first | exact HK6.out | exact HK6.out.drew | exact HKa.out.1 | exact HKa.out.1.drew | fail)); (focus (first | exact HS6.out | exact HS7.out | fail)); (focus (first | exact HRL.out | exact HR7.out | fail)); rintro e w7 ⟨rfl, J', cj', hC, hF⟩; (try replace hF := FrC.undrew hF); have HNJ := Lib.hid hF.new; (first | (have HKc := Lib.hid hC; have HCc := Lib.hid (cross HKa.out.1 HCa.out (sym_apart HKa.out.2) hF); have HB8 := Lib.hid (HB7.out.trans (hF.below HKa.out.1 HS7.out)); have HS8 := Lib.hid (Nat.le_trans HS7.out hF.size); have HO8 := Lib.hid (HO7.out.heap fun k e => hF.block k (HO7.out.lt k e).2 (fun h => by have := (HO7.out.lt k e).1; have := HT2.out k h; omega))) | (have HKb := Lib.hid hC; have HCb := Lib.hid (cross HK6.out HC6.out (sym_apart HD.out) hF); have HB7 := Lib.hid (HB6.out.trans (hF.below HK6.out HS6.out)); have HS7 := Lib.hid (Nat.le_trans HS6.out hF.size); have HZ7 := Lib.hid hF.size; have HO7 := Lib.hid (HO6.out.heap fun k e => hF.block k (HO6.out.lt k e).2 (fun h => by have := (HO6.out.lt k e).1; have := HT2.out k h; omega))) | fail); clear hC hF)))
  all_goals
    have HC8 := Lib.hid (show Con con w7 base g I' (n + tyN en n l) ci' (cat P n Y) en O q co R from by first | exact HCc.out.1 | exact HCd.out | fail)
    have HK8 := Lib.hid (show Con rc w7 base x J' (n + tyN en n l) cj' (cat P n Y) en U q cu R from by first | exact HKc.out | exact HKd.out.1 | fail)
    have HD8 := Lib.hid (show ∀ k, foot g I' O k → ¬ foot x J' U k from by first | exact sym_apart HCc.out.2 | exact HKd.out.2 | fail)
    have HX8 := Lib.hid (show ∀ k, inB A6 = some k → ¬ foot g I' O k ∧ ¬ foot x J' U k from fun k e => by
      have h1 := (HO6.out.lt k e).1
      have h2 := (HO6.out.lt k e).2
      have h3 := HZ7.out
      refine ⟨fun h => ?_, fun h => ?_⟩
      · rcases HNI.out k h with h3 | h3
        · have := HT1.out k h3; omega
        · omega
      · rcases HNJ.out k h with h3 | h3
        · have := HT2.out k h3; omega
        · omega)
    have hwN : n + tyN en n l ≤ 65536 := by unfold tyN; split; omega; split <;> omega
    have HWN := Lib.hid hwN
    clear hwN
    generalize tyE en n l = EE at *
    go_wp2_with fail
    refine (spoils_ok A6 l c6 w7 (by omega) (fun hn => by
      obtain ⟨g0, cur, e, hb', hc⟩ := HO8.out.blk hn
      exact ⟨g0, cur, e, hb', fun i hi => ⟨_, hc i hi⟩⟩)).mono ?_
    rintro e w9 ⟨rfl, hg, hs⟩
    have hrow : ∀ k, k < w7.heap.size → inB A6 ≠ some k → w9.heap[k]? = w7.heap[k]? := fun k hk hne => hg.block k hk (fun e => hne e.symm)
    have HC9 := Lib.hid (HC8.out.kept (w' := w9) fun k hk => hrow k (HC8.out.foot_lt hk).2 (fun e => (HX8.out k e).1 hk))
    have HK9 := Lib.hid (HK8.out.kept (w' := w9) fun k hk => hrow k (HK8.out.foot_lt hk).2 (fun e => (HX8.out k e).2 hk))
    have HB9 := Lib.hid (HB8.out.trans (show Below base w7 w9 from ⟨hg.os, hg.tape, hg.output, hg.size, fun k hk => hrow k (by have := HS8.out; omega) (fun e => by have := (HO8.out.lt k e).1; omega)⟩))
    clear hg hs hrow
    go_wp2
    go_ret
    exact ⟨by first | rfl | simp, ⟨_, q, _, R, en, ⟨I', ci', O, co, J', cj', U, cu, HC9.out, HK9.out, HD8.out⟩, HWN.out, hq⟩, HB9.out⟩
set_option maxRecDepth 100000 in
set_option maxHeartbeats 4000000 in
theorem cstep_look (base g x n ci q co cj cu : Nat) (I O J U : Option Addr) (P R : Nat → Int) (en : Bool) (w : World) (hC : Con con w base g I n ci P en O q co R) (hK : Con rc w base x J n cj P en U q cu R) (hd : ∀ k, foot g I O k → ¬ foot x J U k) (hb : base ≤ w.heap.size) (hn : n ≤ 65536) (hq : q ≤ 1048576) (k : Int) (k3 : k ≠ 3) (k4 : k ≠ 4) (k5 : k ≠ 5) (k6 : k ≠ 6) (k7 : k ≠ 7) (b : Bool) (N : Int) (L : Option Addr) (l lc : Nat) : Calls Try.prog 20 #[.pointer (some ⟨g, 0, none⟩), .pointer (some ⟨x, 0, none⟩), .agg #[.int .i64 k, .bool b, .int .i64 N, .slice L l lc]] w fun e w' => CStep w base g x e w' := by
  have hal : Below w.heap.size w (w.alloc (.cells #[.int .i64 k, .bool b, .int .i64 N, .slice L l lc] 28)) := (Below.refl _ _).alloc (Nat.le_refl _) _
  have HC1 := Lib.hid (hC.below hal)
  have HK1 := Lib.hid (hK.below hal)
  have HB1 := Lib.hid (hal.mono hb)
  have HS1 := Lib.hid (show base ≤ (w.alloc (.cells #[.int .i64 k, .bool b, .int .i64 N, .slice L l lc] 28)).heap.size from by simp; omega)
  have HW1 := Lib.hid (show (w.alloc (.cells #[.int .i64 k, .bool b, .int .i64 N, .slice L l lc] 28)).heap.size = w.heap.size + 1 from by simp)
  have HD := Lib.hid hd
  have HT1 := Lib.hid (show ∀ k, foot g I O k → k < w.heap.size from fun k hk => (hC.foot_lt hk).2)
  have HT2 := Lib.hid (show ∀ k, foot x J U k → k < w.heap.size from fun k hk => (hK.foot_lt hk).2)
  have HCB := Lib.hid (show ∀ i, (w.alloc (.cells #[.int .i64 k, .bool b, .int .i64 N, .slice L l lc] 28)).cell? ⟨w.heap.size, i, none⟩ = #[Value.int .i64 k, .bool b, .int .i64 N, .slice L l lc][i]? from fun i => cell_of_row _ _ i _ _ _ (heap_alloc_new w _))
  clear hal hC hK hd
  have f3 : (k == 3) = false := beq_eq_false_iff_ne.2 k3
  have f4 : (k == 4) = false := beq_eq_false_iff_ne.2 k4
  have f5 : (k == 5) = false := beq_eq_false_iff_ne.2 k5
  have f6 : (k == 6) = false := beq_eq_false_iff_ne.2 k6
  have f7 : (k == 7) = false := beq_eq_false_iff_ne.2 k7
  clear k3 k4 k5 k6 k7
  go_enter Try.func20, Try.ntmps20
  go_wp2_with fail
  refine (cout_ok base g n ci q co I O P R en _ HC1.out hq).mono ?_
  rintro e w5 ⟨A1, a1, rfl, hO, hB⟩
  have HO5 := Lib.hid hO
  have HC5 := Lib.hid (HC1.out.below hB)
  have HK5 := Lib.hid (HK1.out.below hB)
  have HB5 := Lib.hid (HB1.out.trans (hB.mono HS1.out))
  have hz5 : w.heap.size + 1 ≤ w5.heap.size := by have := hB.size; have := HW1.out; omega
  have HRK := Lib.hid (show Rd w5 U q R from HK5.out.out.rd8)
  obtain ⟨gr, gn, gc, gf⟩ := HK5.out.blk.all
  have c0 := (gc 0).trans (show _ = some (.slice J n cj) from rfl)
  have c2 := (gc 2).trans (show _ = some (.slice U q cu) from rfl)
  clear hO hB gr gn gc gf
  go_wp2_with fail
  go_quiet ((first | (go_at_call 14; (refine Calls.quiet_of_same ((same_yes A1 U q a1 cu R R _ ?_ ?_ (fun _ _ => rfl)).mono fun _ _ ⟨a, b⟩ => ⟨a, b.symm⟩); (focus (exact HO5.out.rd8)); (focus (exact HRK.out)))) | (go_at_call 29; (refine Calls.quiet_of_same ((cwaiting_ok base g n ci q co I O P R en _ ?_).mono fun _ _ ⟨a, b⟩ => ⟨a, b.symm⟩); exact HC5.out.kept fun _ _ => rfl))))
  go_wp2_with fail
  refine (spoils_ok A1 q a1 _ (by omega) (fun hn => by
    obtain ⟨g0, cur, e, hb', hc⟩ := HO5.out.blk hn
    exact ⟨g0, cur, e, hb', fun i hi => ⟨_, hc i hi⟩⟩)).mono ?_
  rintro e w9 ⟨rfl, hg, hs⟩
  have hrow : ∀ k, k < w5.heap.size → inB A1 ≠ some k → w9.heap[k]? = w5.heap[k]? := fun k hk hne => hg.block k hk (fun e => hne e.symm)
  have HC9 := Lib.hid (HC5.out.kept (w' := w9) fun k hk => hrow k (HC5.out.foot_lt hk).2 (fun e => by have := (HO5.out.lt k e).1; have := HW1.out; have := HT1.out k hk; omega))
  have HK9 := Lib.hid (HK5.out.kept (w' := w9) fun k hk => hrow k (HK5.out.foot_lt hk).2 (fun e => by have := (HO5.out.lt k e).1; have := HW1.out; have := HT2.out k hk; omega))
  have HB9 := Lib.hid (HB5.out.trans (show Below base w5 w9 from ⟨hg.os, hg.tape, hg.output, hg.size, fun k hk => hrow k (by omega) (fun e => by have := (HO5.out.lt k e).1; have := HW1.out; omega)⟩))
  clear hg hs hrow
  go_wp2
  go_ret
  exact ⟨by first | rfl | simp, ⟨n, q, P, R, en, ⟨I, ci, O, co, J, cj, U, cu, HC9.out, HK9.out, HD.out⟩, hn, hq⟩, HB9.out⟩
theorem cstep_any (base g x n ci q co cj cu : Nat) (I O J U : Option Addr) (P R : Nat → Int) (en : Bool) (w : World) (hC : Con con w base g I n ci P en O q co R) (hK : Con rc w base x J n cj P en U q cu R) (hd : ∀ k, foot g I O k → ¬ foot x J U k) (hb : base ≤ w.heap.size) (hn : n ≤ 65536) (hq : q ≤ 1048576) (k : Int) (b : Bool) (N : Int) (L : Option Addr) (l lc : Nat) (Y : Nat → Int) (hL : Nums .u8 w base L l lc Y) (hll : l * 1 ≤ reachBytes) : Calls Try.prog 20 #[.pointer (some ⟨g, 0, none⟩), .pointer (some ⟨x, 0, none⟩), .agg #[.int .i64 k, .bool b, .int .i64 N, .slice L l lc]] w fun e w' => CStep w base g x e w' := by
  by_cases k3 : k = 3
  · subst k3; exact cstep_read base g x n ci q co cj cu I O J U P R en w hC hK hd hb hn hq b N L l lc
  · by_cases k4 : k = 4
    · subst k4; exact cstep_write base g x n ci q co cj cu I O J U P R en w hC hK hd hb hn hq b N L l lc Y hL hll
    · by_cases k5 : k = 5
      · subst k5; exact cstep_ready base g x n ci q co cj cu I O J U P R en w hC hK hd hb hn hq b N L l lc
      · by_cases k6 : k = 6
        · subst k6; exact cstep_type base g x n ci q co cj cu I O J U P R en w hC hK hd hb hn hq b N L l lc Y hL hll
        · by_cases k7 : k = 7
          · subst k7; exact cstep_end base g x n ci q co cj cu I O J U P R en w hC hK hd hb hn hq b N L l lc
          · exact cstep_look base g x n ci q co cj cu I O J U P R en w hC hK hd hb hn hq k k3 k4 k5 k6 k7 b N L l lc
end Go.Proofs.Ytmifomppnmhmpaa
