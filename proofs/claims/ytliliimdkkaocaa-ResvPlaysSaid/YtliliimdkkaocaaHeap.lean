import Derived.Test.YtliliimdkkaocaaTake
import Derived.Outline
/- Heap; Seats; the nil gate. -/
namespace Go.Proofs.Ytliliimdkkaocaa
open Go.RowKit
set_option linter.unusedVariables false
set_option linter.unusedSimpArgs false
attribute [local go_sem] szIs_lit row_at row_past row_alloc nf_alloc row_set nf_set row_cell nf_cell row_drew nf_drew row_drewN nf_drewN cell_setRow frozen_setRow nlt1 nlt2 nlt3 nlt4 nne1 nne2 nne3 nen1 nen2 nen3

theorem below_put {B : Nat} {w w1 : World} (h : Below B w w1) {b : Nat} (hb : B ≤ b) (i : Nat) (v : Value) : Below B w (w1.setCell ⟨b, i, none⟩ v) :=
  ⟨h.os, h.tape, h.output, by simpa using h.size, fun k hk => (heap_setCell_other w1 ⟨b, i, none⟩ k v (by simp; omega)).trans (h.block k hk)⟩
def heapV (size live r : Int) : Value := .agg #[.int .i64 size, .int .i64 live, .int .i64 r]
theorem heap_nil (w : World) : Calls Try.prog 17 #[.pointer none] w fun e w' => e = .returned (heapV 0 0 0) ∧ Below w.heap.size w w' := by
  go_enter Try.func17, Try.ntmps17
  go_wp2
  refine bodyPost_ret (ret_c rfl 3 _ _ w.heap.size rfl (by simp [go_sem]) (by simp [go_sem]) (by kernel_rfl) (by kernel_rfl)) rfl ⟨by simp [go_sem, heapV], ?_⟩
  exact (Below.refl _ _).alloc (Nat.le_refl _) _
theorem seats_nil (w : World) : Calls Try.prog 14 #[.pointer none] w fun e w' => e = .returned (.slice none 0 0) ∧ w = w' := by
  go_enter Try.func14, Try.ntmps14
  go_wp2
  go_ret
  exact ⟨by first | rfl | simp, rfl⟩
theorem inside_nil (id : Int) (w : World) : Calls Try.prog 23 #[.pointer none, .int .i64 id] w fun e w' => e = .returned (.bool false) ∧ w = w' := by
  go_enter Try.func23, Try.ntmps23
  go_wp2
  go_ret
  exact ⟨by first | rfl | simp, rfl⟩
theorem stalled_nil (w : World) : Calls Try.prog 15 #[.pointer none] w fun e w' => e = .returned (.bool false) ∧ w = w' := by
  go_enter Try.func15, Try.ntmps15
  go_wp2
  go_ret
  exact ⟨by first | rfl | simp, rfl⟩
theorem eql36_none (w : World) : (binOp .eql 36 (.slice none 0 0) (.slice none 0 0)).run Try.prog w = .ok (.bool true) w := by kernel_rfl
theorem eql36_some (w : World) (a : Addr) (n c : Nat) : (binOp .eql 36 (.slice (some a) n c) (.slice none 0 0)).run Try.prog w = .ok (.bool false) w := by kernel_rfl
theorem clone_none (w : World) : Calls Try.prog 26 #[.slice none 0 0] w fun e w' => e = .returned (.slice none 0 0) ∧ w = w' := by
  go_enter Try.func26, Try.ntmps26
  have e0 := eql36_none
  go_wp2
  go_ret
  exact ⟨by first | rfl | simp, rfl⟩
theorem clone_some (base b c : Nat) (L : List Seat) (w : World) (h : SeatsAt w base (some ⟨b, 0, none⟩) c L) (hlen : L.length ≤ 64) : Calls Try.prog 26 #[.slice (some ⟨b, 0, none⟩) L.length c] w fun e w' => ∃ A' c', e = .returned (.slice A' L.length c') ∧ SeatsAt w' w.heap.size A' c' L ∧ Below w.heap.size w w' := by
  have hlt := (h.lt b rfl).2
  have hB : Below w.heap.size w (w.alloc (.cells #[] 39)) := (Below.refl _ _).alloc (Nat.le_refl _) _
  have h0 : SeatsAt (w.alloc (.cells #[] 39)) w.heap.size (some ⟨w.heap.size, 0, none⟩) 0 [] := SeatsAt.of_row (cur := #[]) (Nat.le_refl _) (heap_alloc_new w _) (by simp) (by unfold maxLen; omega) rfl rfl
  obtain ⟨A2, c2, w2, hrun, hS2, hg2, hA2⟩ := app_seats h0 36 ⟨b, 0, none⟩ L c (fun j u hu => by
    have e : (⟨b, 0, none⟩ : Addr).add j = ⟨b, j, none⟩ := by unfold Addr.add; split <;> simp_all
    have hj : j < L.length * 4 := by have := (List.getElem?_eq_some_iff.1 hu).1; rwa [flat_len] at this
    rw [e, World.cell?_alloc_lt w _ _ hlt, World.ownsRow.cellAt h j hj]
    exact hu) (by simp; omega) (by simp)
  have HR := Lib.hid hrun
  have HS := Lib.hid hS2
  have hB2 : Below w.heap.size w w2 := ⟨hg2.os, hg2.tape, hg2.output, by have := hg2.size; simp at this; omega, fun k hk => (hg2.block k (by simp; omega) (fun e => by have e2 : k = w.heap.size := Option.some.inj e; omega)).trans (heap_past hk)⟩
  have HB := Lib.hid hB2
  clear hrun hS2 hB2 hg2 hA2 hB h0
  have e0 := eql36_some
  go_enter Try.func26, Try.ntmps26
  go_wp2_with (at_builtin; go_must (refine wpList_app2 rfl (.tmp 5) (.tmp 6) 36 rfl (.slice (some ⟨w.heap.size, 0, none⟩) 0 0) (.slice (some ⟨b, 0, none⟩) L.length c) rfl rfl _ w2 HR.out ?_))
  go_ret
  exact ⟨A2, c2, by first | rfl | simp, HS.out, HB.out⟩
theorem clone_ok (base g c : Nat) (A : Option Addr) (size live : Int) (L : List Seat) (w : World) (h : GateA w base g A c size live L) (hlen : L.length ≤ 64) : Calls Try.prog 26 #[.slice A L.length c] w fun e w' => ∃ A' c', e = .returned (.slice A' L.length c') ∧ SeatsAt w' w.heap.size A' c' L ∧ Below w.heap.size w w' := by
  have hs := h.seats
  rcases hs.2 with ⟨hv, h0⟩ | ⟨b, cap, cur, hv, _⟩
  · injection hv with e1 e2 e3
    subst e1 e3
    have e4 : L = [] := List.eq_nil_of_length_eq_zero e2
    subst e4
    exact (clone_none w).mono fun e w' q => ⟨none, 0, q.1, by rw [← q.2]; exact SeatsAt.nil _ _, by rw [← q.2]; exact Below.refl _ _⟩
  · injection hv with e1 e2 e3
    subst e1
    exact clone_some base b c L w hs hlen
theorem seats_ok (base g c : Nat) (A : Option Addr) (size live : Int) (L : List Seat) (w : World) (h : GateA w base g A c size live L) (hlen : L.length ≤ 64) : Calls Try.prog 14 #[.pointer (some ⟨g, 0, none⟩)] w fun e w' => ∃ A' c', e = .returned (.slice A' L.length c') ∧ SeatsAt w' w.heap.size A' c' L ∧ Below w.heap.size w w' := by
  have HC := Lib.hid (clone_ok base g c A size live L w h hlen)
  obtain ⟨gr, gn, gc, gf⟩ := h.blk.all
  have cs := (gc 0).trans (show _ = some (.int .i64 size) from rfl)
  have cl := (gc 1).trans (show _ = some (.int .i64 live) from rfl)
  have cq := (gc 2).trans (show _ = some (.slice A L.length c) from rfl)
  have HH := Lib.hid h
  have hbl := h.blk.lt

  clear gr gn gc gf h
  go_enter Try.func14, Try.ntmps14
  go_wp2_with fail
  refine HC.out.mono ?_
  rintro e w1 ⟨A', c', rfl, hS, hB⟩
  have HS := Lib.hid hS
  have HB := Lib.hid hB
  clear hS hB
  go_wp2
  go_ret
  exact ⟨A', c', by first | rfl | simp, HS.out, HB.out⟩
set_option maxHeartbeats 2000000 in
theorem heap_ok (base g c : Nat) (A : Option Addr) (size live : Int) (L : List Seat) (w : World) (h : GateA w base g A c size live L) (hw : WF size live L) : Calls Try.prog 17 #[.pointer (some ⟨g, 0, none⟩)] w fun e w' => e = .returned (heapV size live (res L)) ∧ Below w.heap.size w w' := by
  have HW := Lib.hid hw
  obtain ⟨gr, gn, gc, gf⟩ := h.blk.all
  have cs := (gc 0).trans (show _ = some (.int .i64 size) from rfl)
  have cl := (gc 1).trans (show _ = some (.int .i64 live) from rfl)
  have cq := (gc 2).trans (show _ = some (.slice A L.length c) from rfl)
  have HH := Lib.hid h
  have hbl := h.blk.lt

  have hB1 : Below w.heap.size w (w.alloc (.cells #[.int .i64 0, .int .i64 0, .int .i64 0] 43)) := (Below.refl _ _).alloc (Nat.le_refl _) _
  have HG1 := Lib.hid (h.below hB1)
  have HK1 := Lib.hid (show Blk (w.alloc (.cells #[.int .i64 0, .int .i64 0, .int .i64 0] 43)).drew w.heap.size #[.int .i64 0, .int .i64 0, .int .i64 0] from Blk.of_heap (heap_alloc_new w _))
  have HB1 := Lib.hid hB1
  have hgn : ¬ g = w.heap.size := by omega
  have hgn2 : ¬ w.heap.size = g := by omega
  clear gr gn gc gf h hw
  go_enter Try.func17, Try.ntmps17
  go_wp2_with fail
  (try go_step3)
  go_region_held3 (fun w' => w'.cell? ⟨g, 0, none⟩ = some (.int .i64 size) ∧ w'.cell? ⟨g, 1, none⟩ = some (.int .i64 live)) (go_keep)
    ((go_at_call 28; go_must (refine (reserved_ok base g c A size live L _ ?_ HW.out).mono ?_; (focus (exact HG1.out.drew)); rintro e w5 ⟨rfl, hB⟩; have HB5 := Lib.hid hB; obtain ⟨gr5, gn5, gc5, gf5⟩ := (HK1.out.below hB (by simp)).all; have c0 := (hB.cell (p := ⟨g, 0, none⟩) HG1.out.blk.lt).trans (show _ = some (.int .i64 size) from (World.cell?_alloc_lt w _ ⟨g, 0, none⟩ hbl).trans cs); have c1 := (hB.cell (p := ⟨g, 1, none⟩) HG1.out.blk.lt).trans (show _ = some (.int .i64 live) from (World.cell?_alloc_lt w _ ⟨g, 1, none⟩ hbl).trans cl); clear hB)))
  have HB7 := Lib.hid (below_put (below_put (below_put (HB1.out.trans ((show Below (w.alloc (.cells #[.int .i64 0, .int .i64 0, .int .i64 0] 43)).heap.size (w.alloc (.cells #[.int .i64 0, .int .i64 0, .int .i64 0] 43)) w5 from ⟨HB5.out.os, HB5.out.tape, HB5.out.output, HB5.out.size, HB5.out.block⟩).mono (by simp))) (Nat.le_refl _) 0 (.int .i64 size)) (Nat.le_refl _) 1 (.int .i64 live)) (Nat.le_refl _) 2 (.int .i64 (res L)))
  go_wp2_with fail
  refine bodyPost_ret (ret_c rfl 3 _ _ w.heap.size rfl (by simp [go_sem, gn5]) (by simp [go_sem, gr5]) (by kernel_rfl) (by kernel_rfl)) rfl ⟨by simp [go_sem, heapV, gr5], HB7.out⟩
end Go.Proofs.Ytliliimdkkaocaa
