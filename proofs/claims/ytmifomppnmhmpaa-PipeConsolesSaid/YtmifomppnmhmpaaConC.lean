import Derived.Test.YtmifomppnmhmpaaCons
/- The calls of consoles. -/
namespace Go.Proofs.Ytmifomppnmhmpaa
open Go.RowKit
set_option linter.unusedVariables false
set_option linter.unusedSimpArgs false
attribute [local go_sem] szIs_lit row_at row_past row_alloc nf_alloc row_set nf_set row_cell nf_cell row_drew nf_drew row_drewN nf_drewN cell_setRow frozen_setRow nlt1 nlt2 nlt3 nlt4 nne1 nne2 nne3 nen1 nen2 nen3
attribute [local go_sem] rg_setf rg_setn rg_setm

section
variable {lay : Lay} {w w6 : World} {base g n ci q co off : Nat} {I O : Option Addr} {P R : Nat → Int} {en : Bool}
theorem Con.blk_at (h : Con lay w base g I n ci P en O q co R) (row : Option Nat) (hr : row ≠ some g) (hg : w.grownBy w6 row) : Blk w6 g (lay (.slice I n ci) en (.slice O q co)) := by
  have e := hg.block g h.blk.lt (Ne.symm hr)
  exact ⟨(row_heap e).trans h.blk.1, (nf_heap e).trans h.blk.2⟩
theorem Con.app_in (h : Con lay w base g I n ci P en O q co R) {A6 : Option Addr} {l c6 : Nat} {Y : Nat → Int} {v : Value} (ho : Own w6 base 5 A6 (n + l) c6 (catV (u8s P) n (u8s Y))) (hg : w.grownBy w6 (inB I)) (hb : inB A6 = inB I ∨ inB A6 = some w.heap.size) (hs : Blk (w6.setCell ⟨g, off, none⟩ v) g (lay (.slice A6 (n + l) c6) en (.slice O q co))) :
    Con lay (w6.setCell ⟨g, off, none⟩ v) base g A6 (n + l) c6 (cat P n Y) en O q co R ∧ FrC w (w6.setCell ⟨g, off, none⟩ v) g I O A6 O := by
  have hne : inB A6 ≠ some g := by
    rcases hb with e | e
    · rw [e]; exact h.ig
    · rw [e]; intro e; injection e with e; have := h.blk.lt; omega
  have hst : ∀ k, k ≠ g → (w6.setCell ⟨g, off, none⟩ v).heap[k]? = w6.heap[k]? := fun k hk => heap_setCell_other w6 ⟨g, off, none⟩ k v hk
  refine ⟨⟨hs, (ho.ext fun i hi => u8s_cat P Y n i).heap fun k e => hst k (fun e2 => hne (by rw [e, e2])), h.out.heap fun k e => (hst k (fun e2 => h.og (by rw [e, e2]))).trans (hg.block k (h.out.lt k e).2 (fun e2 => h.io k e2.symm e)), h.base, hne, h.og, fun k e => ?_⟩,
    ⟨hg.os, hg.tape, hg.output, by simpa using hg.size, fun k hk hf => (hst k (fun e => hf (.inl e))).trans (hg.block k hk (fun e => hf (.inr (.inl e.symm)))), fun k hk => ?_⟩⟩
  · rcases hb with e2 | e2
    · exact h.io k (e2 ▸ e)
    · intro e3; rw [e2] at e; injection e with e; have := (h.out.lt k e3).2; omega
  · rcases hk with hk | hk | hk
    · exact .inl (.inl hk)
    · rcases hb with e2 | e2
      · exact .inl (.inr (.inl (e2 ▸ hk)))
      · rw [e2] at hk; injection hk with hk; exact .inr (by omega)
    · exact .inl (.inr (.inr hk))
theorem Con.app_out (h : Con lay w base g I n ci P en O q co R) {A6 : Option Addr} {l c6 : Nat} {Y : Nat → Int} {v : Value} (ho : Own w6 base 5 A6 (q + l) c6 (catV (u8s R) q (u8s Y))) (hg : w.grownBy w6 (inB O)) (hb : inB A6 = inB O ∨ inB A6 = some w.heap.size) (hs : Blk (w6.setCell ⟨g, off, none⟩ v) g (lay (.slice I n ci) en (.slice A6 (q + l) c6))) :
    Con lay (w6.setCell ⟨g, off, none⟩ v) base g I n ci P en A6 (q + l) c6 (cat R q Y) ∧ FrC w (w6.setCell ⟨g, off, none⟩ v) g I O I A6 := by
  have hne : inB A6 ≠ some g := by
    rcases hb with e | e
    · rw [e]; exact h.og
    · rw [e]; intro e; injection e with e; have := h.blk.lt; omega
  have hst : ∀ k, k ≠ g → (w6.setCell ⟨g, off, none⟩ v).heap[k]? = w6.heap[k]? := fun k hk => heap_setCell_other w6 ⟨g, off, none⟩ k v hk
  refine ⟨⟨hs, h.inp.heap fun k e => (hst k (fun e2 => h.ig (by rw [e, e2]))).trans (hg.block k (h.inp.lt k e).2 (fun e2 => h.io k e e2.symm)), (ho.ext fun i hi => u8s_cat R Y q i).heap fun k e => hst k (fun e2 => hne (by rw [e, e2])), h.base, h.ig, hne, fun k e e3 => ?_⟩,
    ⟨hg.os, hg.tape, hg.output, by simpa using hg.size, fun k hk hf => (hst k (fun e => hf (.inl e))).trans (hg.block k hk (fun e => hf (.inr (.inr e.symm)))), fun k hk => ?_⟩⟩
  · rcases hb with e2 | e2
    · exact h.io k e (e2 ▸ e3)
    · rw [e2] at e3; injection e3 with e3; have := (h.inp.lt k e).2; omega
  · rcases hk with hk | hk | hk
    · exact .inl (.inl hk)
    · exact .inl (.inr (.inl hk))
    · rcases hb with e2 | e2
      · exact .inl (.inr (.inr (e2 ▸ hk)))
      · rw [e2] at hk; injection hk with hk; exact .inr (by omega)
end
theorem ctype_end (base g n ci q co : Nat) (I O : Option Addr) (P R : Nat → Int) (en : Bool) (w : World) (h : Con con w base g I n ci P en O q co R) (L : Option Addr) (l lc : Nat) (he : en = true) : Calls Try.prog 26 #[.pointer (some ⟨g, 0, none⟩), .slice L l lc] w fun e w' => e = .returned (.int .i64 2) ∧ w = w' := by
  have HM := Lib.hid (is_ok g _ _ _ w h.blk)
  obtain ⟨gr, gn, gc, gf⟩ := h.blk.all
  have cI := (gc 1).trans (show _ = some (.slice I n ci) from rfl)
  have cE := (gc 2).trans (show _ = some (.bool en) from rfl)
  have cO := (gc 3).trans (show _ = some (.slice O q co) from rfl)
  have HH := Lib.hid h
  clear gr gn gc gf h
  subst he
  go_enter Try.func26, Try.ntmps26
  go_wp2_with fail
  refine (HM.out).mono ?_; rintro e w' ⟨rfl, rfl⟩
  go_wp2
  go_ret
  exact ⟨by first | (simp; done) | (simp; omega), rfl⟩
theorem ctype_full (base g n ci q co : Nat) (I O : Option Addr) (P R : Nat → Int) (en : Bool) (w : World) (h : Con con w base g I n ci P en O q co R) (L : Option Addr) (l lc : Nat) (he : en = false) (hl : 65536 < n + l) (hs : n ≤ 65536) (hm : l ≤ 140737488351232) : Calls Try.prog 26 #[.pointer (some ⟨g, 0, none⟩), .slice L l lc] w fun e w' => e = .returned (.int .i64 2) ∧ w = w' := by
  have HM := Lib.hid (is_ok g _ _ _ w h.blk)
  obtain ⟨gr, gn, gc, gf⟩ := h.blk.all
  have cI := (gc 1).trans (show _ = some (.slice I n ci) from rfl)
  have cE := (gc 2).trans (show _ = some (.bool en) from rfl)
  have cO := (gc 3).trans (show _ = some (.slice O q co) from rfl)
  have HH := Lib.hid h
  clear gr gn gc gf h
  subst he
  go_enter Try.func26, Try.ntmps26
  go_wp2_with fail
  refine (HM.out).mono ?_; rintro e w' ⟨rfl, rfl⟩
  go_wp2
  go_ret
  exact ⟨by first | (simp; done) | (simp; omega), rfl⟩
theorem cwrite_full (base g n ci q co : Nat) (I O : Option Addr) (P R : Nat → Int) (en : Bool) (w : World) (h : Con con w base g I n ci P en O q co R) (L : Option Addr) (l lc : Nat) (hl : 1048576 < q + l) (hs : q ≤ 1048576) (hm : l ≤ 140737488351232) : Calls Try.prog 22 #[.pointer (some ⟨g, 0, none⟩), .slice L l lc] w fun e w' => e = .returned (.tuple #[.int .i64 0, .int .i64 2]) ∧ w = w' := by
  have HM := Lib.hid (is_ok g _ _ _ w h.blk)
  obtain ⟨gr, gn, gc, gf⟩ := h.blk.all
  have cI := (gc 1).trans (show _ = some (.slice I n ci) from rfl)
  have cE := (gc 2).trans (show _ = some (.bool en) from rfl)
  have cO := (gc 3).trans (show _ = some (.slice O q co) from rfl)
  have HH := Lib.hid h
  clear gr gn gc gf h
  go_enter Try.func22, Try.ntmps22
  go_wp2_with fail
  refine (HM.out).mono ?_; rintro e w' ⟨rfl, rfl⟩
  go_wp2
  go_ret2
  exact ⟨by first | (simp; done) | (simp; omega), rfl⟩
theorem cread_neg (base g n ci q co : Nat) (I O : Option Addr) (P R : Nat → Int) (en : Bool) (w : World) (h : Con con w base g I n ci P en O q co R) (N : Int) (h0 : N < 0) : Calls Try.prog 21 #[.pointer (some ⟨g, 0, none⟩), .int .i64 N] w fun e w' => e = .returned (.tuple #[.slice none 0 0, .int .i64 1]) ∧ w = w' := by
  have HM := Lib.hid (is_ok g _ _ _ w h.blk)
  obtain ⟨gr, gn, gc, gf⟩ := h.blk.all
  have cI := (gc 1).trans (show _ = some (.slice I n ci) from rfl)
  have cE := (gc 2).trans (show _ = some (.bool en) from rfl)
  have cO := (gc 3).trans (show _ = some (.slice O q co) from rfl)
  have HH := Lib.hid h
  clear gr gn gc gf h
  go_enter Try.func21, Try.ntmps21
  go_wp2_with fail
  refine (HM.out).mono ?_; rintro e w' ⟨rfl, rfl⟩
  go_wp2
  go_ret2
  exact ⟨by first | (simp; done) | (simp; omega), rfl⟩
theorem cread_zero (base g n ci q co : Nat) (I O : Option Addr) (P R : Nat → Int) (en : Bool) (w : World) (h : Con con w base g I n ci P en O q co R) (N : Int) (h0 : N = 0) : Calls Try.prog 21 #[.pointer (some ⟨g, 0, none⟩), .int .i64 N] w fun e w' => e = .returned (.tuple #[.slice none 0 0, .int .i64 0]) ∧ w = w' := by
  have HM := Lib.hid (is_ok g _ _ _ w h.blk)
  obtain ⟨gr, gn, gc, gf⟩ := h.blk.all
  have cI := (gc 1).trans (show _ = some (.slice I n ci) from rfl)
  have cE := (gc 2).trans (show _ = some (.bool en) from rfl)
  have cO := (gc 3).trans (show _ = some (.slice O q co) from rfl)
  have HH := Lib.hid h
  clear gr gn gc gf h
  subst h0
  go_enter Try.func21, Try.ntmps21
  go_wp2_with fail
  refine (HM.out).mono ?_; rintro e w' ⟨rfl, rfl⟩
  go_wp2
  go_ret2
  exact ⟨by first | (simp; done) | (simp; omega), rfl⟩
theorem cread_end (base g n ci q co : Nat) (I O : Option Addr) (P R : Nat → Int) (en : Bool) (w : World) (h : Con con w base g I n ci P en O q co R) (N : Int) (h0 : 0 < N) (h1 : n = 0) (h2 : en = true) : Calls Try.prog 21 #[.pointer (some ⟨g, 0, none⟩), .int .i64 N] w fun e w' => e = .returned (.tuple #[.slice none 0 0, .int .i64 0]) ∧ w = w' := by
  have HM := Lib.hid (is_ok g _ _ _ w h.blk)
  obtain ⟨gr, gn, gc, gf⟩ := h.blk.all
  have cI := (gc 1).trans (show _ = some (.slice I n ci) from rfl)
  have cE := (gc 2).trans (show _ = some (.bool en) from rfl)
  have cO := (gc 3).trans (show _ = some (.slice O q co) from rfl)
  have HH := Lib.hid h
  clear gr gn gc gf h
  have n0 : (N == 0) = false := beq_eq_false_iff_ne.2 (by omega)
  have n1 : ((n : Int) == 0) = true := beq_iff_eq.2 (by omega)
  subst h2
  clear h1
  go_enter Try.func21, Try.ntmps21
  go_wp2_with fail
  refine (HM.out).mono ?_; rintro e w' ⟨rfl, rfl⟩
  go_wp2
  go_ret2
  exact ⟨by first | (simp; done) | (simp; omega), rfl⟩
theorem cread_wait (base g n ci q co : Nat) (I O : Option Addr) (P R : Nat → Int) (en : Bool) (w : World) (h : Con con w base g I n ci P en O q co R) (N : Int) (h0 : 0 < N) (h1 : n = 0) (h2 : en = false) : Calls Try.prog 21 #[.pointer (some ⟨g, 0, none⟩), .int .i64 N] w fun e w' => e = .returned (.tuple #[.slice none 0 0, .int .i64 211]) ∧ w = w' := by
  have HM := Lib.hid (is_ok g _ _ _ w h.blk)
  obtain ⟨gr, gn, gc, gf⟩ := h.blk.all
  have cI := (gc 1).trans (show _ = some (.slice I n ci) from rfl)
  have cE := (gc 2).trans (show _ = some (.bool en) from rfl)
  have cO := (gc 3).trans (show _ = some (.slice O q co) from rfl)
  have HH := Lib.hid h
  clear gr gn gc gf h
  have n0 : (N == 0) = false := beq_eq_false_iff_ne.2 (by omega)
  have n1 : ((n : Int) == 0) = true := beq_iff_eq.2 (by omega)
  subst h2
  clear h1
  go_enter Try.func21, Try.ntmps21
  go_wp2_with fail
  refine (HM.out).mono ?_; rintro e w' ⟨rfl, rfl⟩
  go_wp2
  go_ret2
  exact ⟨by first | (simp; done) | (simp; omega), rfl⟩
theorem cready_w (base g n ci q co : Nat) (I O : Option Addr) (P R : Nat → Int) (en : Bool) (w : World) (h : Con con w base g I n ci P en O q co R)  : Calls Try.prog 27 #[.pointer (some ⟨g, 0, none⟩), .bool true] w fun e w' => e = .returned (.bool true) ∧ w = w' := by
  have HM := Lib.hid (is_ok g _ _ _ w h.blk)
  obtain ⟨gr, gn, gc, gf⟩ := h.blk.all
  have cI := (gc 1).trans (show _ = some (.slice I n ci) from rfl)
  have cE := (gc 2).trans (show _ = some (.bool en) from rfl)
  have cO := (gc 3).trans (show _ = some (.slice O q co) from rfl)
  have HH := Lib.hid h
  clear gr gn gc gf h
  go_enter Try.func27, Try.ntmps27
  go_wp2_with fail
  refine (HM.out).mono ?_; rintro e w' ⟨rfl, rfl⟩
  go_wp2
  go_ret
  exact ⟨by first | (simp; done) | (simp; omega), rfl⟩
theorem cready_e (base g n ci q co : Nat) (I O : Option Addr) (P R : Nat → Int) (en : Bool) (w : World) (h : Con con w base g I n ci P en O q co R) (he : en = true) : Calls Try.prog 27 #[.pointer (some ⟨g, 0, none⟩), .bool false] w fun e w' => e = .returned (.bool true) ∧ w = w' := by
  have HM := Lib.hid (is_ok g _ _ _ w h.blk)
  obtain ⟨gr, gn, gc, gf⟩ := h.blk.all
  have cI := (gc 1).trans (show _ = some (.slice I n ci) from rfl)
  have cE := (gc 2).trans (show _ = some (.bool en) from rfl)
  have cO := (gc 3).trans (show _ = some (.slice O q co) from rfl)
  have HH := Lib.hid h
  clear gr gn gc gf h
  subst he
  go_enter Try.func27, Try.ntmps27
  go_wp2_with fail
  refine (HM.out).mono ?_; rintro e w' ⟨rfl, rfl⟩
  go_wp2
  go_ret
  exact ⟨by first | (simp; done) | (simp; omega), rfl⟩
theorem cready_n (base g n ci q co : Nat) (I O : Option Addr) (P R : Nat → Int) (en : Bool) (w : World) (h : Con con w base g I n ci P en O q co R) (he : en = false) (hn : 0 < n) : Calls Try.prog 27 #[.pointer (some ⟨g, 0, none⟩), .bool false] w fun e w' => e = .returned (.bool true) ∧ w = w' := by
  have HM := Lib.hid (is_ok g _ _ _ w h.blk)
  obtain ⟨gr, gn, gc, gf⟩ := h.blk.all
  have cI := (gc 1).trans (show _ = some (.slice I n ci) from rfl)
  have cE := (gc 2).trans (show _ = some (.bool en) from rfl)
  have cO := (gc 3).trans (show _ = some (.slice O q co) from rfl)
  have HH := Lib.hid h
  clear gr gn gc gf h
  subst he
  go_enter Try.func27, Try.ntmps27
  go_wp2_with fail
  refine (HM.out).mono ?_; rintro e w' ⟨rfl, rfl⟩
  go_wp2
  go_ret
  exact ⟨by first | (simp; done) | (simp; omega), rfl⟩
theorem cready_z (base g n ci q co : Nat) (I O : Option Addr) (P R : Nat → Int) (en : Bool) (w : World) (h : Con con w base g I n ci P en O q co R) (he : en = false) (hn : n = 0) : Calls Try.prog 27 #[.pointer (some ⟨g, 0, none⟩), .bool false] w fun e w' => e = .returned (.bool false) ∧ w = w' := by
  have HM := Lib.hid (is_ok g _ _ _ w h.blk)
  obtain ⟨gr, gn, gc, gf⟩ := h.blk.all
  have cI := (gc 1).trans (show _ = some (.slice I n ci) from rfl)
  have cE := (gc 2).trans (show _ = some (.bool en) from rfl)
  have cO := (gc 3).trans (show _ = some (.slice O q co) from rfl)
  have HH := Lib.hid h
  clear gr gn gc gf h
  subst he
  have n1 : ¬ 0 < n := by omega
  clear hn
  go_enter Try.func27, Try.ntmps27
  go_wp2_with fail
  refine (HM.out).mono ?_; rintro e w' ⟨rfl, rfl⟩
  go_wp2
  go_ret
  exact ⟨by first | (simp; done) | (simp; omega), rfl⟩
set_option maxHeartbeats 1000000 in
theorem ctype_ok (base g n ci q co : Nat) (I O : Option Addr) (P R : Nat → Int) (en : Bool) (w : World) (h : Con con w base g I n ci P en O q co R) (L : Option Addr) (l lc : Nat) (Y : Nat → Int) (he : en = false) (hl : n + l ≤ 65536) (hb : base ≤ w.heap.size) (hL : RdV w L l (u8s Y)) : Calls Try.prog 26 #[.pointer (some ⟨g, 0, none⟩), .slice L l lc] w fun e w' => e = .returned (.int .i64 0) ∧ ∃ I' ci', Con con w' base g I' (n + l) ci' (cat P n Y) en O q co R ∧ FrC w w' g I O I' O := by
  have HL := Lib.hid hL
  have f0 := h.blk.all.2.2.2 1
  have HF := Lib.hid f0
  have HM := Lib.hid (is_ok g _ _ _ w h.blk)
  obtain ⟨gr, gn, gc, gf⟩ := h.blk.all
  have cI := (gc 1).trans (show _ = some (.slice I n ci) from rfl)
  have cE := (gc 2).trans (show _ = some (.bool en) from rfl)
  have cO := (gc 3).trans (show _ = some (.slice O q co) from rfl)
  have HH := Lib.hid h
  clear gr gn gc gf h
  subst he
  have HL1 := Lib.hid (show n + l ≤ maxLen by unfold maxLen; omega)
  have HL2 := Lib.hid (show (n + l) * 1 ≤ 140737488355328 by omega)
  clear hL f0
  go_enter Try.func26, Try.ntmps26
  go_wp2_with fail
  refine (HM.out).mono ?_; rintro e w' ⟨rfl, rfl⟩
  go_wp2_with (at_builtin; go_must (refine wpList_app rfl (.tmp 27) (.tmp 28) 26 5 rfl (.int .u8 0) 1 ty26 i5 rfl base _ _ _ rfl _ _ _ rfl _ HH.out.inp _ HL.out HL1.out HL2.out hb ?_; intro A6 c6 w6 hO6 hg6 hb6; have f6 := (World.frozen?_of_block (a := ⟨g, 1, none⟩) (hg6.block g HH.out.blk.lt (Ne.symm HH.out.ig))).trans HF.out; have g6 := (World.cell?_of_block (a := ⟨g, 1, none⟩) (hg6.block g HH.out.blk.lt (Ne.symm HH.out.ig))).trans cI; have HO6 := Lib.hid hO6; have HG6 := Lib.hid hg6; have HI6 := Lib.hid hb6; clear hO6 hg6 hb6))
  go_ret
  exact ⟨by simp, A6, c6, HH.out.app_in HO6.out HG6.out HI6.out ((HH.out.blk_at (inB I) HH.out.ig HG6.out).put 1 _)⟩
set_option maxHeartbeats 1000000 in
theorem cwrite_ok (base g n ci q co : Nat) (I O : Option Addr) (P R : Nat → Int) (en : Bool) (w : World) (h : Con con w base g I n ci P en O q co R) (L : Option Addr) (l lc : Nat) (Y : Nat → Int) (hl : q + l ≤ 1048576) (hb : base ≤ w.heap.size) (hL : RdV w L l (u8s Y)) : Calls Try.prog 22 #[.pointer (some ⟨g, 0, none⟩), .slice L l lc] w fun e w' => e = .returned (.tuple #[.int .i64 (l : Nat), .int .i64 0]) ∧ ∃ I' ci', Con con w' base g I n ci P en I' (q + l) ci' (cat R q Y) ∧ FrC w w' g I O I I' := by
  have HL := Lib.hid hL
  have f0 := h.blk.all.2.2.2 3
  have HF := Lib.hid f0
  have HM := Lib.hid (is_ok g _ _ _ w h.blk)
  obtain ⟨gr, gn, gc, gf⟩ := h.blk.all
  have cI := (gc 1).trans (show _ = some (.slice I n ci) from rfl)
  have cE := (gc 2).trans (show _ = some (.bool en) from rfl)
  have cO := (gc 3).trans (show _ = some (.slice O q co) from rfl)
  have HH := Lib.hid h
  clear gr gn gc gf h
  have HL1 := Lib.hid (show q + l ≤ maxLen by unfold maxLen; omega)
  have HL2 := Lib.hid (show (q + l) * 1 ≤ 140737488355328 by omega)
  clear hL f0
  go_enter Try.func22, Try.ntmps22
  go_wp2_with fail
  refine (HM.out).mono ?_; rintro e w' ⟨rfl, rfl⟩
  go_wp2_with (at_builtin; go_must (refine wpList_app rfl (.tmp 22) (.tmp 23) 26 5 rfl (.int .u8 0) 1 ty26 i5 rfl base _ _ _ rfl _ _ _ rfl _ HH.out.out _ HL.out HL1.out HL2.out hb ?_; intro A6 c6 w6 hO6 hg6 hb6; have f6 := (World.frozen?_of_block (a := ⟨g, 3, none⟩) (hg6.block g HH.out.blk.lt (Ne.symm HH.out.og))).trans HF.out; have g6 := (World.cell?_of_block (a := ⟨g, 3, none⟩) (hg6.block g HH.out.blk.lt (Ne.symm HH.out.og))).trans cO; have HO6 := Lib.hid hO6; have HG6 := Lib.hid hg6; have HI6 := Lib.hid hb6; clear hO6 hg6 hb6))
  go_ret2
  exact ⟨by simp, A6, c6, HH.out.app_out HO6.out HG6.out HI6.out ((HH.out.blk_at (inB O) HH.out.og HG6.out).put 3 _)⟩
theorem ktype_end (base g n ci q co : Nat) (I O : Option Addr) (P R : Nat → Int) (en : Bool) (w : World) (h : Con rc w base g I n ci P en O q co R) (L : Option Addr) (l lc : Nat) (he : en = true) : Calls Try.prog 38 #[.pointer (some ⟨g, 0, none⟩), .slice L l lc] w fun e w' => e = .returned (.int .i64 2) ∧ w = w' := by
  obtain ⟨gr, gn, gc, gf⟩ := h.blk.all
  have cI := (gc 0).trans (show _ = some (.slice I n ci) from rfl)
  have cE := (gc 1).trans (show _ = some (.bool en) from rfl)
  have cO := (gc 2).trans (show _ = some (.slice O q co) from rfl)
  have HH := Lib.hid h
  clear gr gn gc gf h
  subst he
  go_enter Try.func38, Try.ntmps38
  go_wp2
  go_ret
  exact ⟨by first | (simp; done) | (simp; omega), rfl⟩
theorem ktype_full (base g n ci q co : Nat) (I O : Option Addr) (P R : Nat → Int) (en : Bool) (w : World) (h : Con rc w base g I n ci P en O q co R) (L : Option Addr) (l lc : Nat) (he : en = false) (hl : 65536 < n + l) (hs : n ≤ 65536) (hm : l ≤ 140737488351232) : Calls Try.prog 38 #[.pointer (some ⟨g, 0, none⟩), .slice L l lc] w fun e w' => e = .returned (.int .i64 2) ∧ w = w' := by
  obtain ⟨gr, gn, gc, gf⟩ := h.blk.all
  have cI := (gc 0).trans (show _ = some (.slice I n ci) from rfl)
  have cE := (gc 1).trans (show _ = some (.bool en) from rfl)
  have cO := (gc 2).trans (show _ = some (.slice O q co) from rfl)
  have HH := Lib.hid h
  clear gr gn gc gf h
  subst he
  go_enter Try.func38, Try.ntmps38
  go_wp2
  go_ret
  exact ⟨by first | (simp; done) | (simp; omega), rfl⟩
theorem kwrite_full (base g n ci q co : Nat) (I O : Option Addr) (P R : Nat → Int) (en : Bool) (w : World) (h : Con rc w base g I n ci P en O q co R) (L : Option Addr) (l lc : Nat) (hl : 1048576 < q + l) (hs : q ≤ 1048576) (hm : l ≤ 140737488351232) : Calls Try.prog 39 #[.pointer (some ⟨g, 0, none⟩), .slice L l lc] w fun e w' => e = .returned (.tuple #[.int .i64 0, .int .i64 2]) ∧ w = w' := by
  obtain ⟨gr, gn, gc, gf⟩ := h.blk.all
  have cI := (gc 0).trans (show _ = some (.slice I n ci) from rfl)
  have cE := (gc 1).trans (show _ = some (.bool en) from rfl)
  have cO := (gc 2).trans (show _ = some (.slice O q co) from rfl)
  have HH := Lib.hid h
  clear gr gn gc gf h
  go_enter Try.func39, Try.ntmps39
  go_wp2
  go_ret2
  exact ⟨by first | (simp; done) | (simp; omega), rfl⟩
theorem kread_neg (base g n ci q co : Nat) (I O : Option Addr) (P R : Nat → Int) (en : Bool) (w : World) (h : Con rc w base g I n ci P en O q co R) (N : Int) (h0 : N < 0) : Calls Try.prog 37 #[.pointer (some ⟨g, 0, none⟩), .int .i64 N] w fun e w' => e = .returned (.tuple #[.slice none 0 0, .int .i64 1]) ∧ w = w' := by
  obtain ⟨gr, gn, gc, gf⟩ := h.blk.all
  have cI := (gc 0).trans (show _ = some (.slice I n ci) from rfl)
  have cE := (gc 1).trans (show _ = some (.bool en) from rfl)
  have cO := (gc 2).trans (show _ = some (.slice O q co) from rfl)
  have HH := Lib.hid h
  clear gr gn gc gf h
  go_enter Try.func37, Try.ntmps37
  go_wp2
  go_ret2
  exact ⟨by first | (simp; done) | (simp; omega), rfl⟩
theorem kread_zero (base g n ci q co : Nat) (I O : Option Addr) (P R : Nat → Int) (en : Bool) (w : World) (h : Con rc w base g I n ci P en O q co R) (N : Int) (h0 : N = 0) : Calls Try.prog 37 #[.pointer (some ⟨g, 0, none⟩), .int .i64 N] w fun e w' => e = .returned (.tuple #[.slice none 0 0, .int .i64 0]) ∧ w = w' := by
  obtain ⟨gr, gn, gc, gf⟩ := h.blk.all
  have cI := (gc 0).trans (show _ = some (.slice I n ci) from rfl)
  have cE := (gc 1).trans (show _ = some (.bool en) from rfl)
  have cO := (gc 2).trans (show _ = some (.slice O q co) from rfl)
  have HH := Lib.hid h
  clear gr gn gc gf h
  subst h0
  go_enter Try.func37, Try.ntmps37
  go_wp2
  go_ret2
  exact ⟨by first | (simp; done) | (simp; omega), rfl⟩
theorem kread_end (base g n ci q co : Nat) (I O : Option Addr) (P R : Nat → Int) (en : Bool) (w : World) (h : Con rc w base g I n ci P en O q co R) (N : Int) (h0 : 0 < N) (h1 : n = 0) (h2 : en = true) : Calls Try.prog 37 #[.pointer (some ⟨g, 0, none⟩), .int .i64 N] w fun e w' => e = .returned (.tuple #[.slice none 0 0, .int .i64 0]) ∧ w = w' := by
  obtain ⟨gr, gn, gc, gf⟩ := h.blk.all
  have cI := (gc 0).trans (show _ = some (.slice I n ci) from rfl)
  have cE := (gc 1).trans (show _ = some (.bool en) from rfl)
  have cO := (gc 2).trans (show _ = some (.slice O q co) from rfl)
  have HH := Lib.hid h
  clear gr gn gc gf h
  have n0 : (N == 0) = false := beq_eq_false_iff_ne.2 (by omega)
  have n1 : ((n : Int) == 0) = true := beq_iff_eq.2 (by omega)
  subst h2
  clear h1
  go_enter Try.func37, Try.ntmps37
  go_wp2
  go_ret2
  exact ⟨by first | (simp; done) | (simp; omega), rfl⟩
theorem kread_wait (base g n ci q co : Nat) (I O : Option Addr) (P R : Nat → Int) (en : Bool) (w : World) (h : Con rc w base g I n ci P en O q co R) (N : Int) (h0 : 0 < N) (h1 : n = 0) (h2 : en = false) : Calls Try.prog 37 #[.pointer (some ⟨g, 0, none⟩), .int .i64 N] w fun e w' => e = .returned (.tuple #[.slice none 0 0, .int .i64 211]) ∧ w = w' := by
  obtain ⟨gr, gn, gc, gf⟩ := h.blk.all
  have cI := (gc 0).trans (show _ = some (.slice I n ci) from rfl)
  have cE := (gc 1).trans (show _ = some (.bool en) from rfl)
  have cO := (gc 2).trans (show _ = some (.slice O q co) from rfl)
  have HH := Lib.hid h
  clear gr gn gc gf h
  have n0 : (N == 0) = false := beq_eq_false_iff_ne.2 (by omega)
  have n1 : ((n : Int) == 0) = true := beq_iff_eq.2 (by omega)
  subst h2
  clear h1
  go_enter Try.func37, Try.ntmps37
  go_wp2
  go_ret2
  exact ⟨by first | (simp; done) | (simp; omega), rfl⟩
theorem kready_w (base g n ci q co : Nat) (I O : Option Addr) (P R : Nat → Int) (en : Bool) (w : World) (h : Con rc w base g I n ci P en O q co R)  : Calls Try.prog 40 #[.pointer (some ⟨g, 0, none⟩), .bool true] w fun e w' => e = .returned (.bool true) ∧ w = w' := by
  obtain ⟨gr, gn, gc, gf⟩ := h.blk.all
  have cI := (gc 0).trans (show _ = some (.slice I n ci) from rfl)
  have cE := (gc 1).trans (show _ = some (.bool en) from rfl)
  have cO := (gc 2).trans (show _ = some (.slice O q co) from rfl)
  have HH := Lib.hid h
  clear gr gn gc gf h
  go_enter Try.func40, Try.ntmps40
  go_wp2
  go_ret
  exact ⟨by first | (simp; done) | (simp; omega), rfl⟩
theorem kready_e (base g n ci q co : Nat) (I O : Option Addr) (P R : Nat → Int) (en : Bool) (w : World) (h : Con rc w base g I n ci P en O q co R) (he : en = true) : Calls Try.prog 40 #[.pointer (some ⟨g, 0, none⟩), .bool false] w fun e w' => e = .returned (.bool true) ∧ w = w' := by
  obtain ⟨gr, gn, gc, gf⟩ := h.blk.all
  have cI := (gc 0).trans (show _ = some (.slice I n ci) from rfl)
  have cE := (gc 1).trans (show _ = some (.bool en) from rfl)
  have cO := (gc 2).trans (show _ = some (.slice O q co) from rfl)
  have HH := Lib.hid h
  clear gr gn gc gf h
  subst he
  go_enter Try.func40, Try.ntmps40
  go_wp2
  go_ret
  exact ⟨by first | (simp; done) | (simp; omega), rfl⟩
theorem kready_n (base g n ci q co : Nat) (I O : Option Addr) (P R : Nat → Int) (en : Bool) (w : World) (h : Con rc w base g I n ci P en O q co R) (he : en = false) (hn : 0 < n) : Calls Try.prog 40 #[.pointer (some ⟨g, 0, none⟩), .bool false] w fun e w' => e = .returned (.bool true) ∧ w = w' := by
  obtain ⟨gr, gn, gc, gf⟩ := h.blk.all
  have cI := (gc 0).trans (show _ = some (.slice I n ci) from rfl)
  have cE := (gc 1).trans (show _ = some (.bool en) from rfl)
  have cO := (gc 2).trans (show _ = some (.slice O q co) from rfl)
  have HH := Lib.hid h
  clear gr gn gc gf h
  subst he
  go_enter Try.func40, Try.ntmps40
  go_wp2
  go_ret
  exact ⟨by first | (simp; done) | (simp; omega), rfl⟩
theorem kready_z (base g n ci q co : Nat) (I O : Option Addr) (P R : Nat → Int) (en : Bool) (w : World) (h : Con rc w base g I n ci P en O q co R) (he : en = false) (hn : n = 0) : Calls Try.prog 40 #[.pointer (some ⟨g, 0, none⟩), .bool false] w fun e w' => e = .returned (.bool false) ∧ w = w' := by
  obtain ⟨gr, gn, gc, gf⟩ := h.blk.all
  have cI := (gc 0).trans (show _ = some (.slice I n ci) from rfl)
  have cE := (gc 1).trans (show _ = some (.bool en) from rfl)
  have cO := (gc 2).trans (show _ = some (.slice O q co) from rfl)
  have HH := Lib.hid h
  clear gr gn gc gf h
  subst he
  have n1 : ¬ 0 < n := by omega
  clear hn
  go_enter Try.func40, Try.ntmps40
  go_wp2
  go_ret
  exact ⟨by first | (simp; done) | (simp; omega), rfl⟩
set_option maxHeartbeats 1000000 in
theorem ktype_ok (base g n ci q co : Nat) (I O : Option Addr) (P R : Nat → Int) (en : Bool) (w : World) (h : Con rc w base g I n ci P en O q co R) (L : Option Addr) (l lc : Nat) (Y : Nat → Int) (he : en = false) (hl : n + l ≤ 65536) (hb : base ≤ w.heap.size) (hL : RdV w L l (u8s Y)) : Calls Try.prog 38 #[.pointer (some ⟨g, 0, none⟩), .slice L l lc] w fun e w' => e = .returned (.int .i64 0) ∧ ∃ I' ci', Con rc w' base g I' (n + l) ci' (cat P n Y) en O q co R ∧ FrC w w' g I O I' O := by
  have HL := Lib.hid hL
  have f0 := h.blk.all.2.2.2 0
  have HF := Lib.hid f0
  obtain ⟨gr, gn, gc, gf⟩ := h.blk.all
  have cI := (gc 0).trans (show _ = some (.slice I n ci) from rfl)
  have cE := (gc 1).trans (show _ = some (.bool en) from rfl)
  have cO := (gc 2).trans (show _ = some (.slice O q co) from rfl)
  have HH := Lib.hid h
  clear gr gn gc gf h
  subst he
  have HL1 := Lib.hid (show n + l ≤ maxLen by unfold maxLen; omega)
  have HL2 := Lib.hid (show (n + l) * 1 ≤ 140737488355328 by omega)
  clear hL f0
  go_enter Try.func38, Try.ntmps38
  go_wp2_with (at_builtin; go_must (refine wpList_app rfl (.tmp 24) (.tmp 25) 26 5 rfl (.int .u8 0) 1 ty26 i5 rfl base _ _ _ rfl _ _ _ rfl _ HH.out.inp _ HL.out HL1.out HL2.out hb ?_; intro A6 c6 w6 hO6 hg6 hb6; have f6 := (World.frozen?_of_block (a := ⟨g, 0, none⟩) (hg6.block g HH.out.blk.lt (Ne.symm HH.out.ig))).trans HF.out; have g6 := (World.cell?_of_block (a := ⟨g, 0, none⟩) (hg6.block g HH.out.blk.lt (Ne.symm HH.out.ig))).trans cI; have HO6 := Lib.hid hO6; have HG6 := Lib.hid hg6; have HI6 := Lib.hid hb6; clear hO6 hg6 hb6))
  go_ret
  exact ⟨by simp, A6, c6, HH.out.app_in HO6.out HG6.out HI6.out ((HH.out.blk_at (inB I) HH.out.ig HG6.out).put 0 _)⟩
set_option maxHeartbeats 1000000 in
theorem kwrite_ok (base g n ci q co : Nat) (I O : Option Addr) (P R : Nat → Int) (en : Bool) (w : World) (h : Con rc w base g I n ci P en O q co R) (L : Option Addr) (l lc : Nat) (Y : Nat → Int) (hl : q + l ≤ 1048576) (hb : base ≤ w.heap.size) (hL : RdV w L l (u8s Y)) : Calls Try.prog 39 #[.pointer (some ⟨g, 0, none⟩), .slice L l lc] w fun e w' => e = .returned (.tuple #[.int .i64 (l : Nat), .int .i64 0]) ∧ ∃ I' ci', Con rc w' base g I n ci P en I' (q + l) ci' (cat R q Y) ∧ FrC w w' g I O I I' := by
  have HL := Lib.hid hL
  have f0 := h.blk.all.2.2.2 2
  have HF := Lib.hid f0
  obtain ⟨gr, gn, gc, gf⟩ := h.blk.all
  have cI := (gc 0).trans (show _ = some (.slice I n ci) from rfl)
  have cE := (gc 1).trans (show _ = some (.bool en) from rfl)
  have cO := (gc 2).trans (show _ = some (.slice O q co) from rfl)
  have HH := Lib.hid h
  clear gr gn gc gf h
  have HL1 := Lib.hid (show q + l ≤ maxLen by unfold maxLen; omega)
  have HL2 := Lib.hid (show (q + l) * 1 ≤ 140737488355328 by omega)
  clear hL f0
  go_enter Try.func39, Try.ntmps39
  go_wp2_with (at_builtin; go_must (refine wpList_app rfl (.tmp 19) (.tmp 20) 26 5 rfl (.int .u8 0) 1 ty26 i5 rfl base _ _ _ rfl _ _ _ rfl _ HH.out.out _ HL.out HL1.out HL2.out hb ?_; intro A6 c6 w6 hO6 hg6 hb6; have f6 := (World.frozen?_of_block (a := ⟨g, 2, none⟩) (hg6.block g HH.out.blk.lt (Ne.symm HH.out.og))).trans HF.out; have g6 := (World.cell?_of_block (a := ⟨g, 2, none⟩) (hg6.block g HH.out.blk.lt (Ne.symm HH.out.og))).trans cO; have HO6 := Lib.hid hO6; have HG6 := Lib.hid hg6; have HI6 := Lib.hid hb6; clear hO6 hg6 hb6))
  go_ret2
  exact ⟨by simp, A6, c6, HH.out.app_out HO6.out HG6.out HI6.out ((HH.out.blk_at (inB O) HH.out.og HG6.out).put 2 _)⟩
end Go.Proofs.Ytmifomppnmhmpaa
