import Derived.Test.YthbbiobffoihaaaDoesOp
/- The program does what the reference does: the walk. -/
namespace Go.Proofs.Ythbbiobffoihaaa
open Go.RowKit Go.BigFrame
set_option linter.unusedVariables false
set_option linter.unusedSimpArgs false
attribute [local go_sem] szIs_lit row_at row_past row_alloc nf_alloc row_set nf_set row_cell nf_cell row_drew nf_drew row_drewN nf_drewN cell_setRow frozen_setRow nlt1 nlt2 nlt3 nlt4 nne1 nne2 nne3 nen1 nen2 nen3
set_option maxRecDepth 100000
theorem build26 (w : World) : (Instr.build 26 #[]).run Try.prog w = .ok (.agg #[.int .i64 0, .int .i64 0, .int .i64 0, .int .i64 0, .int .i64 0]) w := by
  simp [go_sem]
theorem St.w2 {w0 w : World} {ob g m t a r x y : Nat} (h : St w0 w ob g m t a r x y) : W2 w0 w ob g m a 1 r y 1 [(t, List.replicate 16 (-1))] [x] [] := by
  obtain ⟨o1, o2, o3, o4, o5, o6, o7, o8⟩ := h.ord
  have hall : ∀ k, WR.all ob g m a [(t, List.replicate 16 (-1))] [] k → k = ob ∨ k = a ∨ k = g ∨ k = m ∨ k = t := by
    intro k hk
    rcases hk with q | q | (q | q | q) | q
    · omega
    · omega
    · omega
    · omega
    · simp [PL.bs] at q
    · simp [tbs] at q; omega
  refine ⟨⟨h.wr, by simp, by simp, h.bel, fun k hk => by have := hall k hk; omega⟩, ⟨⟨by rw [Rof_nil]; exact h.rf, fun v hv => by simp [PL.ks] at hv, fun v q hq => by simp [PL.get] at hq⟩, by simpa [xptr] using h.ry, rfl, fun j x' t' D' h1 h2 => ?_, ⟨by omega, by simp; omega, by simp; omega, by simp⟩⟩, fun k hk => ?_, ⟨by omega, by omega, fun z hz => by simp at hz; omega⟩⟩
  · cases j with
    | zero =>
      simp at h1 h2
      obtain ⟨rfl, rfl⟩ := h2
      subst h1
      exact ⟨by have := h.rt; simpa [up] using this, by simp, fun v hv => by (have h9 : v = -1 := by simpa using hv); omega⟩
    | succ j => simp at h1
  · have := hall k hk
    refine ⟨by omega, by omega, ?_⟩
    simp; omega
set_option maxHeartbeats 8000000 in
theorem does_walk (A : Option Addr) (len cap : Nat) (o : Nat → OpV) (w : World) (h : AreOp w w.heap.size A len cap o) : Calls Try.prog 4 #[.slice A len cap] w fun e w' => e = .returned (.bool true) ∧ Below w.heap.size w w' := by
  have hle := h.2.2.1
  have HA := Lib.hid h
  clear h
  have hlen : len ≤ 4398046511104 := by unfold reachBytes at hle; omega
  clear hle
  go_enter Try.func4, Try.ntmps4
  go_wp2_with fail
  refine (start_ok w).mono ?_
  rintro e w1 ⟨ob, g, m, t, a, r, x, y, rfl, hS⟩
  have hSF : SF w w1 ob g m r (1 + 16 * ((0 : Nat) : Int)) := ⟨_, _, _, _, _, _, _, hS.w2, fun v q hq => by simp [PL.get] at hq⟩
  have HSF := Lib.hid hSF
  clear hSF hS
  go_wp2_with fail
  go_loopg [11] len (fun k i_ wr => ∃ (j : Nat), i_ = .int .i64 (j : Int) ∧ k = len - j ∧ j ≤ len ∧ SF w wr ob g m r (1 + 16 * (j : Int)))
  case atStart => exact ⟨0, rfl, by omega, by omega, HSF.out⟩
  case round =>
    obtain ⟨j, rfl, hk, hj, a', c', y', cy', ts, xs, L, hW, hR⟩ := hrel
    have HK := Lib.hid hk
    have HW := Lib.hid hW
    have HR := Lib.hid hR
    clear hk hW hR HSF
    by_cases hlt : j < len
    · obtain ⟨ba, off, rfl, hbl, hall⟩ := HA.out.2.2.2 (by omega)
      have hop := (hall j hlt)
      obtain ⟨p0, -, p1, -, p2, -, p3, -, p4, -⟩ := hop
      generalize (o j).x0 = x0 at p0
      generalize (o j).x1 = x1 at p1
      generalize (o j).x2 = x2 at p2
      generalize (o j).x3 = x3 at p3
      generalize (o j).x4 = x4 at p4
      have hbe := HW.out.lp.bel
      have r0 := (hbe.cell (p := ⟨ba, off + j * 5, none⟩) hbl).trans p0
      have r1 := (hbe.cell (p := ⟨ba, off + j * 5 + 1, none⟩) hbl).trans p1
      have r2 := (hbe.cell (p := ⟨ba, off + j * 5 + 2, none⟩) hbl).trans p2
      have r3 := (hbe.cell (p := ⟨ba, off + j * 5 + 3, none⟩) hbl).trans p3
      have r4 := (hbe.cell (p := ⟨ba, off + j * 5 + 4, none⟩) hbl).trans p4
      clear p0 p1 p2 p3 p4 hbe hall
      have hk : Blk (wr.alloc (.cells #[.int .i64 0, .int .i64 0, .int .i64 0, .int .i64 0, .int .i64 0] 26)) wr.heap.size #[.int .i64 0, .int .i64 0, .int .i64 0, .int .i64 0, .int .i64 0] := Blk.of_heap (heap_at rfl)
      have hb1 : Below wr.heap.size wr (wr.alloc (.cells #[.int .i64 0, .int .i64 0, .int .i64 0, .int .i64 0, .int .i64 0] 26)) := (Below.refl _ _).alloc (Nat.le_refl _) _
      obtain ⟨w2, s1, s2, s3, s4⟩ := hk.storeAll (P := Try.prog) (ty := 26) (c' := #[.int .i64 x0, .int .i64 x1, .int .i64 x2, .int .i64 x3, .int .i64 x4]) (by kernel_rfl) rfl (by simp [Value.oneCell'])
      have hb2 : Below wr.heap.size wr w2 := hb1.trans (s3.below (B := wr.heap.size) (fun k hk q => by omega) hb1.size)
      have HW2 := Lib.hid (HW.out.below hb2)
      have hld : (Instr.loadAt 26 (.pointer (some ⟨ba, off + j * 5, none⟩))).run Try.prog wr = .ok (.agg #[.int .i64 x0, .int .i64 x1, .int .i64 x2, .int .i64 x3, .int .i64 x4]) wr :=
        run_loadAt_mid wr ba (off + j * 5) 26 [.int .i64 x0, .int .i64 x1, .int .i64 x2, .int .i64 x3, .int .i64 x4] ((Try.prog.underlying 26).getD default) (fun q v hv => by
          rcases (show q = 0 ∨ q = 1 ∨ q = 2 ∨ q = 3 ∨ q = 4 ∨ 5 ≤ q by omega) with rfl | rfl | rfl | rfl | rfl | hq
          · simp at hv; subst hv; exact r0
          · simp at hv; subst hv; exact r1
          · simp at hv; subst hv; exact r2
          · simp at hv; subst hv; exact r3
          · simp at hv; subst hv; exact r4
          · rw [List.getElem?_eq_none (by simpa using hq)] at hv; cases hv) (by kernel_rfl) (by kernel_rfl) (by kernel_rfl)
      have hld2 : (Instr.loadAt 26 (.pointer (some ⟨wr.heap.size, 0, none⟩))).run Try.prog w2 = .ok (.agg #[.int .i64 x0, .int .i64 x1, .int .i64 x2, .int .i64 x3, .int .i64 x4]) w2 := s2.load (ty := 26) (d := (Try.prog.underlying 26).getD default) (by kernel_rfl) (by kernel_rfl) (by kernel_rfl)
      clear hk hb1 s2 s3 s4 hb2 r0 r1 r2 r3 r4
      generalize hu8 : wr.alloc (.cells #[.int .i64 0, .int .i64 0, .int .i64 0, .int .i64 0, .int .i64 0] 26) = w8 at *
      go_wp2_with (first | (refine wpList_load_run rfl 26 (.tmp 13) rfl (.pointer (some ⟨ba, off + j * 5, none⟩)) rfl hld ?_) | (rw [hu8]) | (refine wpList_store_run rfl 26 (.tmp 5) (.tmp 14) rfl (.pointer (some ⟨wr.heap.size, 0, none⟩)) (.agg #[.int .i64 x0, .int .i64 x1, .int .i64 x2, .int .i64 x3, .int .i64 x4]) rfl rfl s1 ?_) | (refine wpList_load_run rfl 26 (.tmp 5) rfl (.pointer (some ⟨wr.heap.size, 0, none⟩)) rfl hld2 ?_) | fail)
      clear hu8 s1 hld hld2
      refine (does_ok HW2.out HR.out (by omega) (by omega) x0 x1 x2 x3 x4).mono ?_
      rintro e w5 ⟨rfl, hF⟩
      have HF := Lib.hid hF
      clear hF
      go_wp2_with fail
      go_roundg (len - (j + 1))
      case measure => have := HK.out; omega
      case rel =>
        have e : (1 + 16 * ((j + 1 : Nat) : Int)) = 1 + 16 * (j : Int) + 16 := by omega
        exact ⟨j + 1, by first | rfl | go_num, rfl, by omega, by rw [e]; exact HF.out⟩
    · obtain rfl : j = len := by omega
      have hz1 := build26 wr
      go_wp2_with (first | (refine wpList_build0 rfl 26 rfl hz1 ?_) | fail)
      refine (looks_ok HW.out 0 0 0 0 0).mono ?_
      rintro e w5 ⟨rfl, hb⟩
      have HE := Lib.hid (HW.out.below hb).lp.bel
      clear hb
      go_wp2_with fail
      go_ret
      exact ⟨by first | rfl | simp, HE.out⟩
end Go.Proofs.Ythbbiobffoihaaa
