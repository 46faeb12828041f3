import Derived.Test.YtliliimdkkaocaaDuo
/- step: a call on both. -/
namespace Go.Proofs.Ytliliimdkkaocaa
open Go.RowKit
set_option linter.unusedVariables false
set_option linter.unusedSimpArgs false
attribute [local go_sem] szIs_lit row_at row_past row_alloc nf_alloc row_set nf_set row_cell nf_cell row_drew nf_drew row_drewN nf_drewN cell_setRow frozen_setRow nlt1 nlt2 nlt3 nlt4 nne1 nne2 nne3 nen1 nen2 nen3

theorem adm_out_len : ∀ (L : List Seat) (f : Int), (adm f L).2.length ≤ L.length
  | [], f => by simp [adm]
  | s :: r, f => by
    rcases Bool.eq_false_or_eq_true s.w with hw | hw
    · by_cases hfit : f < s.b
      · rw [adm_stop f s r hw hfit]; simp
      · rw [adm_let f s r hw hfit]; have := adm_out_len r (f - s.b); simp; omega
    · rw [adm_in f s r hw]; have := adm_out_len r f; simp; omega
theorem giv_len {n live : Int} {L : List Seat} (h : WF n live L) (z : Int) : (giv n live L z).1.length ≤ 64 := by
  have := h.len
  unfold giv
  split
  · simp
  · have := adm_out_len L (n - (live - z) - res L)
    show (adm _ L).2.length ≤ 64; omega
theorem lea_len {n live : Int} {L : List Seat} (h : WF n live L) (y : Int) : (lea n live L y).1.length ≤ 64 := by
  have := h.len
  unfold lea
  split
  · simp
  · have h2 := adm_out_len (L.eraseIdx (findI L y).toNat) (n - live - res (L.eraseIdx (findI L y).toNat))
    have h3 : (L.eraseIdx (findI L y).toNat).length ≤ L.length := by rw [List.length_eraseIdx]; split <;> omega
    show (adm _ _).2.length ≤ 64; omega
set_option maxRecDepth 100000 in
set_option maxHeartbeats 4000000 in
theorem step_enter (w0 wr : World) (g x c d : Nat) (A B : Option Addr) (n live : Int) (L : List Seat) (h : Duo w0 wr g x A B c d n live L live L) (k y z : Int) (hk : k = 1) : Calls Try.prog 21 #[.pointer (some ⟨g, 0, none⟩), .pointer (some ⟨x, 0, none⟩), .agg #[.int .i64 k, .int .i64 y, .int .i64 z]] wr fun e w' => ∃ A' B' c' d' live' L', e = .returned (.bool true) ∧ Duo w0 w' g x A' B' c' d' n live' L' live' L' ∧ (Nd L → Nd L') := by
  have h1 := h.alloc (.cells #[.int .i64 k, .int .i64 y, .int .i64 z] 48)
  subst hk
  have HC := Lib.hid (enter_ok _ _ _ _ _ _ _ _ h1.ga h1.wf h1.bl.size y z)
  have H1 := Lib.hid h1
  have hsz : ¬ wr.heap.size = g := by have := h.ga.blk.lt; omega
  have HBK := Lib.hid (show Blk (wr.alloc (.cells #[.int .i64 1, .int .i64 y, .int .i64 z] 48)) wr.heap.size #[.int .i64 1, .int .i64 y, .int .i64 z] from Blk.of_heap (heap_alloc_new wr _))
  have HNF := Lib.hid (show ¬ foot g A wr.heap.size from fun hq => by have := (h.ga.foot_lt hq).2; omega)
  clear h h1
  go_enter Try.func21, Try.ntmps21
  go_wp2_with fail
  refine HC.out.mono ?_
  rintro e w2 ⟨A2, c2, rfl, hG, hF⟩
  have h2 := H1.out.left (H1.out.wf.ent y z) hG hF
  have HD := Lib.hid (renter_ok _ _ _ _ _ _ _ _ h2.gx h2.wf2 h2.bl.size y z)
  have H2 := Lib.hid h2
  obtain ⟨gr, gn, gc, gf⟩ := (HBK.out.frg hF HNF.out).1.all
  have d1 := (gc 1).trans (show _ = some (.int .i64 y) from rfl)
  have d2 := (gc 2).trans (show _ = some (.int .i64 z) from rfl)
  clear hG hF h2 gr gn gc gf
  have HND := Lib.hid (show Nd L → Nd (ent n live L y z).2.2 from fun q => q.ent _ _ _ _)
  generalize hr : ent n live L y z = R at *
  go_wp2_with fail
  refine HD.out.mono ?_
  rintro e w3 ⟨B3, d3, rfl, hG, hF⟩
  have hwf : WF n live R.2.2 := by rw [← hr]; exact H1.out.wf.ent y z
  have H3 := Lib.hid (H2.out.right hwf hG hF)
  clear hG hF hwf hr
  obtain ⟨b, e, L'⟩ := R
  go_wp2
  go_ret
  exact ⟨A2, B3, c2, d3, live, L', by first | rfl | simp, H3.out, HND.out⟩
set_option maxRecDepth 100000 in
set_option maxHeartbeats 4000000 in
theorem step_give (w0 wr : World) (g x c d : Nat) (A B : Option Addr) (n live : Int) (L : List Seat) (h : Duo w0 wr g x A B c d n live L live L) (k y z : Int) (hk : k = 3) : Calls Try.prog 21 #[.pointer (some ⟨g, 0, none⟩), .pointer (some ⟨x, 0, none⟩), .agg #[.int .i64 k, .int .i64 y, .int .i64 z]] wr fun e w' => ∃ A' B' c' d' live' L', e = .returned (.bool true) ∧ Duo w0 w' g x A' B' c' d' n live' L' live' L' ∧ (Nd L → Nd L') := by
  have h1 := h.alloc (.cells #[.int .i64 k, .int .i64 y, .int .i64 z] 48)
  subst hk
  have HC := Lib.hid (give_ok _ _ _ _ _ _ _ _ h1.ga h1.wf h1.bl.size z)
  have H1 := Lib.hid h1
  have hsz : ¬ wr.heap.size = g := by have := h.ga.blk.lt; omega
  have HBK := Lib.hid (show Blk (wr.alloc (.cells #[.int .i64 3, .int .i64 y, .int .i64 z] 48)) wr.heap.size #[.int .i64 3, .int .i64 y, .int .i64 z] from Blk.of_heap (heap_alloc_new wr _))
  have HNF := Lib.hid (show ¬ foot g A wr.heap.size from fun hq => by have := (h.ga.foot_lt hq).2; omega)
  clear h h1
  go_enter Try.func21, Try.ntmps21
  go_wp2_with fail
  refine HC.out.mono ?_
  rintro e w2 ⟨O, co, rfl, hO, hG, hF⟩
  have h2 := H1.out.left (H1.out.wf.giv z) hG hF
  have HD := Lib.hid (rgive_ok _ _ _ _ _ _ _ _ h2.gx h2.wf2 h2.bl.size z)
  have H2 := Lib.hid h2
  have HO := Lib.hid hO
  obtain ⟨gr, gn, gc, gf⟩ := (HBK.out.frg hF HNF.out).1.all
  have d1 := (gc 1).trans (show _ = some (.int .i64 y) from rfl)
  have d2 := (gc 2).trans (show _ = some (.int .i64 z) from rfl)
  have hl64 : (giv n live L z).1.length ≤ 64 := giv_len H1.out.wf z
  have hwf := H1.out.wf.giv z
  have HWF := Lib.hid hwf
  have HOX := Lib.hid (fun k (hk : inB O = some k) => (hO.lt k hk).1)
  have HOY := Lib.hid (fun k (hk : inB O = some k) => (hO.lt k hk).2)
  have HZ := Lib.hid h2.gx.seats
  clear hG hF h2 gr gn gc gf hO hwf
  have HND := Lib.hid (show Nd L → Nd (giv n live L z).2.2.2 from fun q => q.giv _ _ _)
  generalize hr : giv n live L z = R at *
  go_wp2_with fail
  refine HD.out.mono ?_
  rintro e w3 ⟨O2, co2, rfl, hO2, hG, hF⟩
  have H3 := Lib.hid (H2.out.right HWF.out hG hF)
  have HO2 := Lib.hid hO2
  have HO3 := Lib.hid (HO.out.heap (w' := w3) fun k hk => hF.block k (HOY.out k hk) (fun hq => by have h8 := (H1.out.gx.foot_lt hq).2; have h9 := HOX.out k hk; omega))
  clear hG hF hO2 hr
  go_wp2_with fail
  refine (same_ok _ _ _ _ _ _ _ w3 HO3.out HO2.out (by omega)).mono ?_
  rintro e w4 ⟨rfl, hB⟩
  have H4 := Lib.hid (H3.out.look hB)
  clear hB
  go_wp2
  go_ret
  exact ⟨A, B, c, d, R.2.2.1, R.2.2.2, by first | rfl | simp, H4.out, HND.out⟩
set_option maxRecDepth 100000 in
set_option maxHeartbeats 4000000 in
theorem step_leave (w0 wr : World) (g x c d : Nat) (A B : Option Addr) (n live : Int) (L : List Seat) (h : Duo w0 wr g x A B c d n live L live L) (k y z : Int) (hk : k = 4) : Calls Try.prog 21 #[.pointer (some ⟨g, 0, none⟩), .pointer (some ⟨x, 0, none⟩), .agg #[.int .i64 k, .int .i64 y, .int .i64 z]] wr fun e w' => ∃ A' B' c' d' live' L', e = .returned (.bool true) ∧ Duo w0 w' g x A' B' c' d' n live' L' live' L' ∧ (Nd L → Nd L') := by
  have h1 := h.alloc (.cells #[.int .i64 k, .int .i64 y, .int .i64 z] 48)
  subst hk
  have HC := Lib.hid (leave_ok _ _ _ _ _ _ _ _ h1.ga h1.wf h1.bl.size y)
  have H1 := Lib.hid h1
  have hsz : ¬ wr.heap.size = g := by have := h.ga.blk.lt; omega
  have HBK := Lib.hid (show Blk (wr.alloc (.cells #[.int .i64 4, .int .i64 y, .int .i64 z] 48)) wr.heap.size #[.int .i64 4, .int .i64 y, .int .i64 z] from Blk.of_heap (heap_alloc_new wr _))
  have HNF := Lib.hid (show ¬ foot g A wr.heap.size from fun hq => by have := (h.ga.foot_lt hq).2; omega)
  clear h h1
  go_enter Try.func21, Try.ntmps21
  go_wp2_with fail
  refine HC.out.mono ?_
  rintro e w2 ⟨A2, c2, O, co, rfl, hO, hG, hF⟩
  have h2 := H1.out.left (H1.out.wf.lea y) hG hF
  have HD := Lib.hid (rleave_ok _ _ _ _ _ _ _ _ h2.gx h2.wf2 h2.bl.size y)
  have H2 := Lib.hid h2
  have HO := Lib.hid hO
  obtain ⟨gr, gn, gc, gf⟩ := (HBK.out.frg hF HNF.out).1.all
  have d1 := (gc 1).trans (show _ = some (.int .i64 y) from rfl)
  have d2 := (gc 2).trans (show _ = some (.int .i64 z) from rfl)
  have hl64 : (lea n live L y).1.length ≤ 64 := lea_len H1.out.wf y
  have hwf := H1.out.wf.lea y
  have HWF := Lib.hid hwf
  have HOX := Lib.hid (fun k (hk : inB O = some k) => (hO.lt k hk).1)
  have HOY := Lib.hid (fun k (hk : inB O = some k) => (hO.lt k hk).2)
  have HZ := Lib.hid h2.gx.seats
  clear hG hF h2 gr gn gc gf hO hwf
  have HND := Lib.hid (show Nd L → Nd (lea n live L y).2.2 from fun q => q.lea _ _ _)
  generalize hr : lea n live L y = R at *
  go_wp2_with fail
  refine HD.out.mono ?_
  rintro e w3 ⟨B3, d3, O2, co2, rfl, hO2, hG, hF⟩
  have H3 := Lib.hid (H2.out.right HWF.out hG hF)
  have HO2 := Lib.hid hO2
  have HO3 := Lib.hid (HO.out.heap (w' := w3) fun k hk => hF.block k (HOY.out k hk) (fun hq => by have h8 := (H1.out.gx.foot_lt hq).2; have h9 := HOX.out k hk; omega))
  clear hG hF hO2 hr
  go_wp2_with fail
  refine (same_ok _ _ _ _ _ _ _ w3 HO3.out HO2.out (by omega)).mono ?_
  rintro e w4 ⟨rfl, hB⟩
  have H4 := Lib.hid (H3.out.look hB)
  clear hB
  go_wp2
  go_ret
  exact ⟨A2, B3, c2, d3, live, R.2.2, by first | rfl | simp, H4.out, HND.out⟩
end Go.Proofs.Ytliliimdkkaocaa
