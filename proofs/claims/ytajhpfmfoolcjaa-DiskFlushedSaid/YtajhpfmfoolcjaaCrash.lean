import Derived.Test.YtajhpfmfoolcjaaLay
/- Crash. -/
namespace Go.Proofs.Ytajhpfmfoolcjaa
open Go.RowKit Go.BigFrame
set_option linter.unusedVariables false
set_option linter.unusedSimpArgs false
attribute [local go_sem] szIs_lit row_at row_past row_alloc nf_alloc row_set nf_set row_cell nf_cell row_drew nf_drew row_drewN nf_drewN cell_setRow frozen_setRow nlt1 nlt2 nlt3 nlt4 nne1 nne2 nne3 nen1 nen2 nen3
section
variable {w : World} {a : DA} {S : DS}
/-- Torn writes that can be read. -/
def Tn (w : World) (A : Option Addr) (len : Nat) (o : Nat → TornV) : Prop := 0 < len → ∃ b off, A = some ⟨b, off, none⟩ ∧ ∀ i, i < len → w.cell? ⟨b, off + i * 2, none⟩ = some (.int .i64 (o i).x0) ∧ w.cell? ⟨b, off + i * 2 + 1, none⟩ = some (.int .i64 (o i).x1)
theorem Tn.ch {F : Nat → Prop} {w' : World} {A : Option Addr} {len : Nat} {o : Nat → TornV} (h : Tn w A len o) (hc : Ch F w w') (hF : ∀ k, blkOf A = some k → ¬ F k) : Tn w' A len o := fun hl => by
  obtain ⟨b, off, e, hq⟩ := h hl
  have hb : b < w.heap.size := cell_lt (hq 0 hl).1
  refine ⟨b, off, e, fun i hi => ?_⟩
  have e2 := hc.block b hb (hF b (by rw [e]; rfl))
  exact ⟨(World.cell?_of_block (a := ⟨b, off + i * 2, none⟩) e2).trans (hq i hi).1, (World.cell?_of_block (a := ⟨b, off + i * 2 + 1, none⟩) e2).trans (hq i hi).2⟩
theorem Tn.below {w' : World} {A : Option Addr} {len : Nat} {o : Nat → TornV} (h : Tn w A len o) (hb : Below w.heap.size w w') : Tn w' A len o := h.ch (F := fun _ => False) (Ch.of_below hb) (fun _ _ q => q)
def DS.crash1 (S : DS) (o : Nat → TornV) (i : Nat) (q : List Int) : List Int := match S.pend[(o i).x0.toNat]? with
  | some p => Go.Proofs.Ytajhpfmfoolcjaa.lay q (p.n * 512) (p.bs.take (o i).x1.toNat)
  | none => q
def DS.crash (S : DS) (len : Nat) (o : Nat → TornV) : DS := { S with plat := (List.range len).foldl (fun q i => S.crash1 o i q) S.plat, pend := [], lim := false, left := 0 }
def okT (L : Nat) (o : Nat → TornV) (i : Nat) : Prop := 0 ≤ (o i).x0 ∧ (o i).x0 < (L : Int) ∧ (0 < i → (o (i - 1)).x0 < (o i).x0) ∧ 1 ≤ (o i).x1 ∧ (o i).x1 ≤ 512
theorem al69 (w : World) : (Instr.alloc 69 true (.tuple #[])).run Try.prog w = .ok (.pointer (some ⟨w.heap.size, 0, none⟩)) (w.alloc (.cells #[.int .i64 0, .slice none 0 0] 69)) := by
  simp [go_sem]
theorem st69 (w : World) (x : Int) (A : Option Addr) (n c : Nat) : (Instr.storeAt 69 (.pointer (some ⟨w.heap.size, 0, none⟩)) (.agg #[.int .i64 x, .slice A n c])).run Try.prog (w.alloc (.cells #[.int .i64 0, .slice none 0 0] 69)) = .ok () (w.alloc (.cells #[.int .i64 x, .slice A n c] 69)) := by
  simp [go_sem]
def DS.crashTo (S : DS) (o : Nat → TornV) (n : Nat) : List Int := (List.range n).foldl (fun q i => S.crash1 o i q) S.plat
theorem crashTo_succ (S : DS) (o : Nat → TornV) (n : Nat) : S.crashTo o (n + 1) = S.crash1 o n (S.crashTo o n) := by
  unfold DS.crashTo; rw [List.range_succ, List.foldl_append]; rfl
theorem crash_nil (v : Value) (w : World) : Calls Try.prog 13 #[.pointer none, v] w fun e w' => e = .returned (.int .i64 6) ∧ w = w' := by
  go_enter Try.func13, Try.ntmps13
  go_wp2
  go_ret
  exact ⟨by first | rfl | simp, rfl⟩
set_option maxRecDepth 100000 in
set_option maxHeartbeats 8000000 in
theorem crash_ok (H : DR w a S) (A : Option Addr) (len c : Nat) (o : Nat → TornV) (ht : Tn w A len o) (hA : 0 < len → ∀ k, blkOf A = some k → ¬ a.foot k) (hc : len ≤ 2 ^ 43) (hlen : S.pend.length ≤ 2 ^ 42) : Calls Try.prog 13 #[.pointer (some ⟨a.g, 0, none⟩), .slice A len c] w fun e w' => (e = .returned (.int .i64 1) ∧ (¬ ∀ i, i < len → okT S.pend.length o i) ∧ Below w.heap.size w w') ∨ (e = .returned (.int .i64 0) ∧ (∀ i, i < len → okT S.pend.length o i) ∧ ∃ a', DR w' a' (S.crash len o) ∧ Mv w a S w' a' (S.crash len o)) := by
  have c1 := H.cells.2.1
  generalize hL : S.pend.length = L at *
  have HL := Lib.hid hL
  have HH := Lib.hid H
  have HT := Lib.hid ht
  have HA := Lib.hid hA
  clear H ht hA hL
  go_enter Try.func13, Try.ntmps13
  go_wp2_with fail
  go_loopg [14] len (fun k i_ wr => ∃ (j : Nat), i_ = .int .i64 (j : Int) ∧ k = len - j ∧ j ≤ len ∧ (∀ i, i < j → okT L o i) ∧ Below w.heap.size w wr)
  case atStart => exact ⟨0, rfl, rfl, by omega, by omega, Below.refl _ _⟩
  case round =>
    obtain ⟨j, rfl, hk, hj, hok, hb⟩ := hrel
    have HK := Lib.hid hk
    have HOK := Lib.hid hok
    have HB := Lib.hid hb
    by_cases hlt : j < len
    · have ht2 := HT.out.below hb
      obtain ⟨b, off, rfl, hcell⟩ := ht2 (by omega)
      obtain ⟨d0, d1⟩ := hcell j hlt
      have hpv : 0 < j → wr.cell? ⟨b, off + (j - 1) * 2, none⟩ = some (.int .i64 (o (j - 1)).x0) := fun h0 => (hcell (j - 1) (by omega)).1
      have c1' : wr.cell? ⟨a.g, 1, none⟩ = some (.slice a.A L a.c) := by have := (HH.out.below hb).cells.2.1; rw [HL.out] at this; exact this
      have hgl := HH.out.blk.lt
      have hsz := hb.size
      have hbl : b < wr.heap.size := cell_lt d0
      have HBAD := Lib.hid (fun (q : ¬ okT L o j) (q2 : ∀ i, i < len → okT L o i) => q (q2 j hlt))
      have HBB : Hid (∀ n, Below w.heap.size w ((wr.alloc (.cells #[.int .i64 (o j).x0, .int .i64 (o j).x1] 47)).drewN n)) := Lib.hid (fun n => below_drewN (hb.alloc (by omega) _) n)
      obtain ⟨x0, hx0⟩ : ∃ x, x = (o j).x0 := ⟨_, rfl⟩
      obtain ⟨x1, hx1⟩ : ∃ x, x = (o j).x1 := ⟨_, rfl⟩
      obtain ⟨y0, hy0⟩ : ∃ x, x = (o (j - 1)).x0 := ⟨_, rfl⟩
      have hdef : okT L o j ↔ (0 ≤ x0 ∧ x0 < (L : Int) ∧ (0 < j → y0 < x0) ∧ 1 ≤ x1 ∧ x1 ≤ 512) := by unfold okT; rw [hx0, hx1, hy0]
      rw [← hx0] at d0 HBB
      rw [← hx1] at d1 HBB
      rw [← hy0] at hpv
      generalize hP : okT L o j = Pj at *
      have HDEF := Lib.hid hdef
      have HPJ := Lib.hid hP
      clear hx0 hx1 hy0 hcell hk hok hb ht2 hP hdef
      by_cases q0 : x0 < 0
      · clear hpv
        have HBADP := Lib.hid (HBAD.out (fun q => by have := HDEF.out.1 q; omega))
        have f0 : decide (x0 < 0) = true := by simp; omega
        have e0 : (wr.alloc (.cells #[.int .i64 x0, .int .i64 x1] 47)).cell? ⟨wr.heap.size, 0, none⟩ = some (.int .i64 x0) := by simp [go_sem]
        have e1 : (wr.alloc (.cells #[.int .i64 x0, .int .i64 x1] 47)).cell? ⟨wr.heap.size, 1, none⟩ = some (.int .i64 x1) := by simp [go_sem]
        have hBe : Below wr.heap.size wr (wr.alloc (.cells #[.int .i64 x0, .int .i64 x1] 47)) := (Below.refl _ _).alloc (Nat.le_refl _) _
        have e2 := (hBe.cell (p := ⟨a.g, 1, none⟩) (by simp only; omega)).trans c1'
        clear hBe
        go_wp2_with fail
        generalize hw3 : (wr.alloc (.cells #[.int .i64 x0, .int .i64 x1] 47)) = w3 at *
        generalize hob : wr.heap.size = ob at *
        clear hw3 hob
        clear q0
        go_quiet (fail)
        go_wp2_with fail
        go_ret
        exact .inl ⟨by first | rfl | simp, HBADP.out, HBB.out _⟩
      · by_cases q1 : (L : Int) ≤ x0
        · clear hpv
          have HBADP := Lib.hid (HBAD.out (fun q => by have := HDEF.out.1 q; omega))
          have f0 : decide (x0 < 0) = false := by simp; omega
          have f1 : decide ((L : Int) ≤ x0) = true := by simp; omega
          have e0 : (wr.alloc (.cells #[.int .i64 x0, .int .i64 x1] 47)).cell? ⟨wr.heap.size, 0, none⟩ = some (.int .i64 x0) := by simp [go_sem]
          have e1 : (wr.alloc (.cells #[.int .i64 x0, .int .i64 x1] 47)).cell? ⟨wr.heap.size, 1, none⟩ = some (.int .i64 x1) := by simp [go_sem]
          have hBe : Below wr.heap.size wr (wr.alloc (.cells #[.int .i64 x0, .int .i64 x1] 47)) := (Below.refl _ _).alloc (Nat.le_refl _) _
          have e2 := (hBe.cell (p := ⟨a.g, 1, none⟩) (by simp only; omega)).trans c1'
          clear hBe
          go_wp2_with fail
          generalize hw3 : (wr.alloc (.cells #[.int .i64 x0, .int .i64 x1] 47)) = w3 at *
          generalize hob : wr.heap.size = ob at *
          clear hw3 hob
          clear q0 q1
          go_quiet (fail)
          go_wp2_with fail
          go_ret
          exact .inl ⟨by first | rfl | simp, HBADP.out, HBB.out _⟩
        · rcases Nat.eq_zero_or_pos j with rfl | hj0
          · clear hpv
            simp only [Nat.zero_mul, Nat.add_zero] at d0 d1
            by_cases q3 : x1 < 1
            · skip
              have HBADP := Lib.hid (HBAD.out (fun q => by have := HDEF.out.1 q; omega))
              have f0 : decide (x0 < 0) = false := by simp; omega
              have f1 : decide ((L : Int) ≤ x0) = false := by simp; omega
              have f3 : decide (x1 < 1) = true := by simp; omega
              have e0 : (wr.alloc (.cells #[.int .i64 x0, .int .i64 x1] 47)).cell? ⟨wr.heap.size, 0, none⟩ = some (.int .i64 x0) := by simp [go_sem]
              have e1 : (wr.alloc (.cells #[.int .i64 x0, .int .i64 x1] 47)).cell? ⟨wr.heap.size, 1, none⟩ = some (.int .i64 x1) := by simp [go_sem]
              have hBe : Below wr.heap.size wr (wr.alloc (.cells #[.int .i64 x0, .int .i64 x1] 47)) := (Below.refl _ _).alloc (Nat.le_refl _) _
              have e2 := (hBe.cell (p := ⟨a.g, 1, none⟩) (by simp only; omega)).trans c1'
              clear hBe
              go_wp2_with fail
              generalize hw3 : (wr.alloc (.cells #[.int .i64 x0, .int .i64 x1] 47)) = w3 at *
              generalize hob : wr.heap.size = ob at *
              clear hw3 hob
              clear q0 q1 q3
              go_quiet (fail)
              go_wp2_with fail
              go_ret
              exact .inl ⟨by first | rfl | simp, HBADP.out, HBB.out _⟩
            · by_cases q4 : 512 < x1
              · skip
                have HBADP := Lib.hid (HBAD.out (fun q => by have := HDEF.out.1 q; omega))
                have f0 : decide (x0 < 0) = false := by simp; omega
                have f1 : decide ((L : Int) ≤ x0) = false := by simp; omega
                have f3 : decide (x1 < 1) = false := by simp; omega
                have f4 : decide (512 < x1) = true := by simp; omega
                have e0 : (wr.alloc (.cells #[.int .i64 x0, .int .i64 x1] 47)).cell? ⟨wr.heap.size, 0, none⟩ = some (.int .i64 x0) := by simp [go_sem]
                have e1 : (wr.alloc (.cells #[.int .i64 x0, .int .i64 x1] 47)).cell? ⟨wr.heap.size, 1, none⟩ = some (.int .i64 x1) := by simp [go_sem]
                have hBe : Below wr.heap.size wr (wr.alloc (.cells #[.int .i64 x0, .int .i64 x1] 47)) := (Below.refl _ _).alloc (Nat.le_refl _) _
                have e2 := (hBe.cell (p := ⟨a.g, 1, none⟩) (by simp only; omega)).trans c1'
                clear hBe
                go_wp2_with fail
                generalize hw3 : (wr.alloc (.cells #[.int .i64 x0, .int .i64 x1] 47)) = w3 at *
                generalize hob : wr.heap.size = ob at *
                clear hw3 hob
                clear q0 q1 q3 q4
                go_quiet (fail)
                go_wp2_with fail
                go_ret
                exact .inl ⟨by first | rfl | simp, HBADP.out, HBB.out _⟩
              · skip
                have HOKN : Hid (∀ i', i' < 0 + 1 → okT L o i') := Lib.hid (fun i' hi' => by
                  by_cases e : i' = 0
                  · subst e; rw [HPJ.out]; exact HDEF.out.2 (by omega)
                  · exact HOK.out i' (by omega))
                have f0 : decide (x0 < 0) = false := by simp; omega
                have f1 : decide ((L : Int) ≤ x0) = false := by simp; omega
                have f3 : decide (x1 < 1) = false := by simp; omega
                have f4 : decide (512 < x1) = false := by simp; omega
                have e0 : (wr.alloc (.cells #[.int .i64 x0, .int .i64 x1] 47)).cell? ⟨wr.heap.size, 0, none⟩ = some (.int .i64 x0) := by simp [go_sem]
                have e1 : (wr.alloc (.cells #[.int .i64 x0, .int .i64 x1] 47)).cell? ⟨wr.heap.size, 1, none⟩ = some (.int .i64 x1) := by simp [go_sem]
                have hBe : Below wr.heap.size wr (wr.alloc (.cells #[.int .i64 x0, .int .i64 x1] 47)) := (Below.refl _ _).alloc (Nat.le_refl _) _
                have e2 := (hBe.cell (p := ⟨a.g, 1, none⟩) (by simp only; omega)).trans c1'
                clear hBe
                go_wp2_with fail
                generalize hw3 : (wr.alloc (.cells #[.int .i64 x0, .int .i64 x1] 47)) = w3 at *
                generalize hob : wr.heap.size = ob at *
                clear hw3 hob
                clear q0 q1 q3 q4
                go_quiet (fail)
                go_wp2_with fail
                go_roundg (len - (0 + 1))
                case measure => have := HK.out; omega
                case rel => exact ⟨0 + 1, by go_num, rfl, by omega, HOKN.out, HBB.out _⟩
          · have dp := hpv hj0
            obtain ⟨i, rfl⟩ : ∃ i, j = i + 1 := ⟨j - 1, by omega⟩
            simp only [Nat.add_sub_cancel] at dp
            have hwi : IntKind.i64.wrap (i : Int) = i := IntWalk.i64_in _ (by omega)
            have hil : i < len := by omega
            clear hpv
            by_cases q2 : x0 ≤ y0
            · skip
              have HBADP := Lib.hid (HBAD.out (fun q => by have := HDEF.out.1 q; omega))
              have f0 : decide (x0 < 0) = false := by simp; omega
              have f1 : decide ((L : Int) ≤ x0) = false := by simp; omega
              have f2 : decide (x0 ≤ y0) = true := by simp; omega
              have e0 : (wr.alloc (.cells #[.int .i64 x0, .int .i64 x1] 47)).cell? ⟨wr.heap.size, 0, none⟩ = some (.int .i64 x0) := by simp [go_sem]
              have e1 : (wr.alloc (.cells #[.int .i64 x0, .int .i64 x1] 47)).cell? ⟨wr.heap.size, 1, none⟩ = some (.int .i64 x1) := by simp [go_sem]
              have hBe : Below wr.heap.size wr (wr.alloc (.cells #[.int .i64 x0, .int .i64 x1] 47)) := (Below.refl _ _).alloc (Nat.le_refl _) _
              have e2 := (hBe.cell (p := ⟨a.g, 1, none⟩) (by simp only; omega)).trans c1'
              have e3 := (hBe.cell (p := ⟨b, off + i * 2, none⟩) (by simp only; omega)).trans dp
              clear hBe
              go_wp2_with fail
              generalize hw3 : (wr.alloc (.cells #[.int .i64 x0, .int .i64 x1] 47)) = w3 at *
              generalize hob : wr.heap.size = ob at *
              clear hw3 hob dp
              clear q0 q1 q2
              go_quiet (fail)
              go_wp2_with fail
              go_ret
              exact .inl ⟨by first | rfl | simp, HBADP.out, HBB.out _⟩
            · by_cases q3 : x1 < 1
              · skip
                have HBADP := Lib.hid (HBAD.out (fun q => by have := HDEF.out.1 q; omega))
                have f0 : decide (x0 < 0) = false := by simp; omega
                have f1 : decide ((L : Int) ≤ x0) = false := by simp; omega
                have f2 : decide (x0 ≤ y0) = false := by simp; omega
                have f3 : decide (x1 < 1) = true := by simp; omega
                have e0 : (wr.alloc (.cells #[.int .i64 x0, .int .i64 x1] 47)).cell? ⟨wr.heap.size, 0, none⟩ = some (.int .i64 x0) := by simp [go_sem]
                have e1 : (wr.alloc (.cells #[.int .i64 x0, .int .i64 x1] 47)).cell? ⟨wr.heap.size, 1, none⟩ = some (.int .i64 x1) := by simp [go_sem]
                have hBe : Below wr.heap.size wr (wr.alloc (.cells #[.int .i64 x0, .int .i64 x1] 47)) := (Below.refl _ _).alloc (Nat.le_refl _) _
                have e2 := (hBe.cell (p := ⟨a.g, 1, none⟩) (by simp only; omega)).trans c1'
                have e3 := (hBe.cell (p := ⟨b, off + i * 2, none⟩) (by simp only; omega)).trans dp
                clear hBe
                go_wp2_with fail
                generalize hw3 : (wr.alloc (.cells #[.int .i64 x0, .int .i64 x1] 47)) = w3 at *
                generalize hob : wr.heap.size = ob at *
                clear hw3 hob dp
                clear q0 q1 q2 q3
                go_quiet (fail)
                go_wp2_with fail
                go_ret
                exact .inl ⟨by first | rfl | simp, HBADP.out, HBB.out _⟩
              · by_cases q4 : 512 < x1
                · skip
                  have HBADP := Lib.hid (HBAD.out (fun q => by have := HDEF.out.1 q; omega))
                  have f0 : decide (x0 < 0) = false := by simp; omega
                  have f1 : decide ((L : Int) ≤ x0) = false := by simp; omega
                  have f2 : decide (x0 ≤ y0) = false := by simp; omega
                  have f3 : decide (x1 < 1) = false := by simp; omega
                  have f4 : decide (512 < x1) = true := by simp; omega
                  have e0 : (wr.alloc (.cells #[.int .i64 x0, .int .i64 x1] 47)).cell? ⟨wr.heap.size, 0, none⟩ = some (.int .i64 x0) := by simp [go_sem]
                  have e1 : (wr.alloc (.cells #[.int .i64 x0, .int .i64 x1] 47)).cell? ⟨wr.heap.size, 1, none⟩ = some (.int .i64 x1) := by simp [go_sem]
                  have hBe : Below wr.heap.size wr (wr.alloc (.cells #[.int .i64 x0, .int .i64 x1] 47)) := (Below.refl _ _).alloc (Nat.le_refl _) _
                  have e2 := (hBe.cell (p := ⟨a.g, 1, none⟩) (by simp only; omega)).trans c1'
                  have e3 := (hBe.cell (p := ⟨b, off + i * 2, none⟩) (by simp only; omega)).trans dp
                  clear hBe
                  go_wp2_with fail
                  generalize hw3 : (wr.alloc (.cells #[.int .i64 x0, .int .i64 x1] 47)) = w3 at *
                  generalize hob : wr.heap.size = ob at *
                  clear hw3 hob dp
                  clear q0 q1 q2 q3 q4
                  go_quiet (fail)
                  go_wp2_with fail
                  go_ret
                  exact .inl ⟨by first | rfl | simp, HBADP.out, HBB.out _⟩
                · skip
                  have HOKN : Hid (∀ i', i' < (i + 1) + 1 → okT L o i') := Lib.hid (fun i' hi' => by
                    by_cases e : i' = (i + 1)
                    · subst e; rw [HPJ.out]; exact HDEF.out.2 (by omega)
                    · exact HOK.out i' (by omega))
                  have f0 : decide (x0 < 0) = false := by simp; omega
                  have f1 : decide ((L : Int) ≤ x0) = false := by simp; omega
                  have f2 : decide (x0 ≤ y0) = false := by simp; omega
                  have f3 : decide (x1 < 1) = false := by simp; omega
                  have f4 : decide (512 < x1) = false := by simp; omega
                  have e0 : (wr.alloc (.cells #[.int .i64 x0, .int .i64 x1] 47)).cell? ⟨wr.heap.size, 0, none⟩ = some (.int .i64 x0) := by simp [go_sem]
                  have e1 : (wr.alloc (.cells #[.int .i64 x0, .int .i64 x1] 47)).cell? ⟨wr.heap.size, 1, none⟩ = some (.int .i64 x1) := by simp [go_sem]
                  have hBe : Below wr.heap.size wr (wr.alloc (.cells #[.int .i64 x0, .int .i64 x1] 47)) := (Below.refl _ _).alloc (Nat.le_refl _) _
                  have e2 := (hBe.cell (p := ⟨a.g, 1, none⟩) (by simp only; omega)).trans c1'
                  have e3 := (hBe.cell (p := ⟨b, off + i * 2, none⟩) (by simp only; omega)).trans dp
                  clear hBe
                  go_wp2_with fail
                  generalize hw3 : (wr.alloc (.cells #[.int .i64 x0, .int .i64 x1] 47)) = w3 at *
                  generalize hob : wr.heap.size = ob at *
                  clear hw3 hob dp
                  clear q0 q1 q2 q3 q4
                  go_quiet (fail)
                  go_wp2_with fail
                  go_roundg (len - ((i + 1) + 1))
                  case measure => have := HK.out; omega
                  case rel => exact ⟨i + 1 + 1, by go_num, rfl, by omega, HOKN.out, HBB.out _⟩
    · obtain rfl : j = len := by omega
      have HOKA := Lib.hid hok
      have hR0 : DR wr a (S.setP (S.crashTo o 0)) := HH.out.below hb
      have HR0 := Lib.hid (And.intro hR0 (show Mv w a S wr a (S.setP (S.crashTo o 0)) from Mv.of_below a S hb))
      obtain ⟨AA, hAA⟩ : ∃ AA, AA = a.A := ⟨_, rfl⟩
      have HAA := Lib.hid hAA
      clear hok hb hk hR0 hAA
      go_wp2_with fail
      go_loopg [60] j (fun k i_ wx => ∃ (q : Nat), i_ = .int .i64 (q : Int) ∧ k = j - q ∧ q ≤ j ∧ DR wx a (S.setP (S.crashTo o q)) ∧ Mv w a S wx a (S.setP (S.crashTo o q)))
      case atStart => exact ⟨0, rfl, rfl, by omega, HR0.out⟩
      case round =>
        obtain ⟨q, rfl, hk, hq, hR, hM⟩ := hrel
        have HK2 := Lib.hid hk
        by_cases hlt2 : q < j
        · obtain ⟨b, off, rfl, hcell⟩ := (HT.out.ch hM.ch (HA.out (by omega))) (by omega)
          obtain ⟨d0, d1⟩ := hcell q hlt2
          obtain ⟨o1, o2, o3, o4, o5⟩ := HOKA.out q hlt2
          obtain ⟨m, hm⟩ : ∃ m : Nat, (o q).x0 = (m : Int) := ⟨(o q).x0.toNat, by omega⟩
          obtain ⟨k, hk2⟩ : ∃ m : Nat, (o q).x1 = (m : Int) := ⟨(o q).x1.toNat, by omega⟩
          rw [hm] at o1 o2 d0
          rw [hk2] at o4 o5 d1
          obtain ⟨p, hp⟩ : ∃ p, S.pend[m]? = some p := ⟨_, List.getElem?_eq_getElem (by rw [HL.out]; omega)⟩
          have hpS : (S.setP (S.crashTo o q)).pend[m]? = some p := hp
          have hpm : p ∈ (S.setP (S.crashTo o q)).pend := List.mem_of_getElem? hpS
          obtain ⟨bq, hA, d2, d3⟩ := hR.pcell hpS
          obtain rfl : AA = some ⟨bq, 0, none⟩ := HAA.out.trans hA
          unfold PW.val at d3
          have c1x := hR.cells.2.1
          rw [show (S.setP (S.crashTo o q)).pend.length = L from HL.out, hA] at c1x
          have hmL : m < L := by omega
          have hk5 : k ≤ 512 := by omega
          have hkc := (hR.rows p hpm).le
          have hB3 : Below wr.heap.size wr (wr.alloc (.cells #[.int .i64 (m : Int), .int .i64 (k : Int)] 47)).drew := ((Below.refl _ _).alloc (Nat.le_refl _) _).drew
          have hs3 : (wr.alloc (.cells #[.int .i64 (m : Int), .int .i64 (k : Int)] 47)).heap.size = wr.heap.size + 1 := by simp
          have hn := hR.ins p hpm
          have hbl := hR.bsl hpm
          have x0 : (wr.alloc (.cells #[.int .i64 (m : Int), .int .i64 (k : Int)] 47)).cell? ⟨wr.heap.size, 0, none⟩ = some (.int .i64 (m : Int)) := by simp [go_sem]
          have x1 : (wr.alloc (.cells #[.int .i64 (m : Int), .int .i64 (k : Int)] 47)).cell? ⟨wr.heap.size, 1, none⟩ = some (.int .i64 (k : Int)) := by simp [go_sem]
          have c3 := (hB3.cell (p := ⟨a.g, 1, none⟩) hR.blk.lt).trans c1x
          have c4 := (hB3.cell (p := ⟨bq, m * 2, none⟩) (cell_lt d2)).trans d2
          have c5 := (hB3.cell (p := ⟨bq, m * 2 + 1, none⟩) (cell_lt d3)).trans d3
          have hR3 := hR.below hB3
          have hM3 := hM.trans (Mv.of_below _ _ hB3)
          have hrow := (hR.rows p hpm).below hB3
          have hobf : ¬ a.foot wr.heap.size := fun q => by have := hR.foot_lt (.inl q); omega
          have HDD := Lib.hid hcell
          clear hcell hB3 hR hM d2 d3 c1x HOK HB HR0 HDD
          go_wp2_with fail
          generalize hw3 : (wr.alloc (.cells #[.int .i64 (m : Int), .int .i64 (k : Int)] 47)) = w3 at *
          generalize hob : wr.heap.size = ob at *
          clear hw3 hob d0 d1
          have hs3' : w3.drew.heap.size = ob + 1 := hs3
          have hal := al69 w3.drew
          have hst := st69 w3.drew (p.n : Int) (some ⟨p.b, 0, none⟩) 512 p.c
          rw [hs3'] at hal hst
          have hB4 : Below w3.drew.heap.size w3.drew (w3.drew.alloc (.cells #[.int .i64 0, .slice none 0 0] 69)) := (Below.refl _ _).alloc (Nat.le_refl _) _
          have hB5 : Below w3.drew.heap.size w3.drew (w3.drew.alloc (.cells #[.int .i64 (p.n : Int), .slice (some ⟨p.b, 0, none⟩) 512 p.c] 69)) := (Below.refl _ _).alloc (Nat.le_refl _) _
          have z0 : (w3.drew.alloc (.cells #[.int .i64 (p.n : Int), .slice (some ⟨p.b, 0, none⟩) 512 p.c] 69)).cell? ⟨ob + 1, 0, none⟩ = some (.int .i64 (p.n : Int)) := by rw [← hs3']; simp [go_sem]
          have z1 : (w3.drew.alloc (.cells #[.int .i64 (p.n : Int), .slice (some ⟨p.b, 0, none⟩) 512 p.c] 69)).cell? ⟨ob + 1, 1, none⟩ = some (.slice (some ⟨p.b, 0, none⟩) 512 p.c) := by rw [← hs3']; simp [go_sem]
          obtain ⟨CC, hCC⟩ : ∃ CC : World → Prop, CC = fun u => u.cell? ⟨a.g, 1, none⟩ = some (.slice (some ⟨bq, 0, none⟩) L a.c) ∧ u.cell? ⟨ob, 0, none⟩ = some (.int .i64 (m : Int)) ∧ u.cell? ⟨ob, 1, none⟩ = some (.int .i64 (k : Int)) ∧ u.cell? ⟨bq, m * 2, none⟩ = some (.int .i64 (p.n : Int)) ∧ u.cell? ⟨bq, m * 2 + 1, none⟩ = some (.slice (some ⟨p.b, 0, none⟩) 512 p.c) := ⟨_, rfl⟩
          have hcc : ∀ u, CC u → u.cell? ⟨a.g, 1, none⟩ = some (.slice (some ⟨bq, 0, none⟩) L a.c) ∧ u.cell? ⟨ob, 0, none⟩ = some (.int .i64 (m : Int)) ∧ u.cell? ⟨ob, 1, none⟩ = some (.int .i64 (k : Int)) ∧ u.cell? ⟨bq, m * 2, none⟩ = some (.int .i64 (p.n : Int)) ∧ u.cell? ⟨bq, m * 2 + 1, none⟩ = some (.slice (some ⟨p.b, 0, none⟩) 512 p.c) := fun u h => by rw [hCC] at h; exact h
          have k3 : CC w3.drew := by rw [hCC]; exact ⟨c3, x0, x1, c4, c5⟩
          have kB : ∀ u, Below w3.drew.heap.size w3.drew u → CC u := fun u hu => by
            rw [hCC]
            exact ⟨(hu.cell (p := ⟨a.g, 1, none⟩) (cell_lt c3)).trans c3, (hu.cell (p := ⟨ob, 0, none⟩) (cell_lt x0)).trans x0, (hu.cell (p := ⟨ob, 1, none⟩) (cell_lt x1)).trans x1, (hu.cell (p := ⟨bq, m * 2, none⟩) (cell_lt c4)).trans c4, (hu.cell (p := ⟨bq, m * 2 + 1, none⟩) (cell_lt c5)).trans c5⟩
          have k4 := kB _ hB4
          have k5 := kB _ hB5
          have hR5 := (hR3.below hB5).drew
          have hM5 := hM3.trans (Mv.of_below _ _ hB5.drew)
          obtain ⟨w6, e1, e2, e3⟩ := copy_ok hR5 p.n hn ⟨p.b, 0, none⟩ k p.c (p.bs.take k) (by rw [List.length_take]; omega) hk5 (fun j v hv => by
            have hj := (List.getElem?_eq_some_iff.1 hv).1
            rw [bv_len, List.length_take] at hj
            rw [add_at, (hrow.below hB5).drew.cell j (by omega), ← hv]
            unfold bv
            rw [List.getElem?_map, List.getElem?_map, List.getElem?_take_of_lt (by omega)])
          have hnx : DR w6 a (S.setP (S.crashTo o (q + 1))) ∧ Mv w a S w6 a (S.setP (S.crashTo o (q + 1))) := by
            have e : S.crashTo o (q + 1) = Go.Proofs.Ytajhpfmfoolcjaa.lay (S.crashTo o q) (p.n * 512) (p.bs.take k) := by
              rw [crashTo_succ]; unfold DS.crash1; rw [hm, hk2, Int.toNat_natCast, Int.toNat_natCast, hp]
            rw [e]
            exact ⟨e2, hM5.trans e3⟩
          have HNX := Lib.hid hnx
          have HS := Lib.hid (sector_ok hR5 p.n hn)
          have HCP := Lib.hid e1
          have HAL := Lib.hid hal
          have HST := Lib.hid hst
          have hob1 : ∀ (i : Nat) v, (w3.drew.alloc (.cells #[.int .i64 (p.n : Int), .slice (some ⟨p.b, 0, none⟩) 512 p.c] 69)).cell? ⟨ob + 1, i, none⟩ = some v → w6.cell? ⟨ob + 1, i, none⟩ = some v := fun i v hv =>
            (World.cell?_of_block (a := ⟨ob + 1, i, none⟩) (e3.ch.block (ob + 1) (by simp; omega) (fun q => by have := hR3.foot_lt (.inl q); omega))).trans hv
          have hob0 : w6.cell? ⟨ob, 1, none⟩ = some (.int .i64 (k : Int)) := by
            have q1 : (w3.drew.alloc (.cells #[.int .i64 (p.n : Int), .slice (some ⟨p.b, 0, none⟩) 512 p.c] 69)).cell? ⟨ob, 1, none⟩ = some (.int .i64 (k : Int)) := (hB5.cell (p := ⟨ob, 1, none⟩) (cell_lt x1)).trans x1
            refine (World.cell?_of_block (a := ⟨ob, 1, none⟩) (e3.ch.block ob (by simp; omega) hobf)).trans q1
          have z0' := hob1 0 _ z0
          have z1' := hob1 1 _ z1
          have hz1 : (w3.drew.alloc (.cells #[.int .i64 (p.n : Int), .slice (some ⟨p.b, 0, none⟩) 512 p.c] 69)).cell? ⟨ob, 1, none⟩ = some (.int .i64 (k : Int)) := (hB5.cell (p := ⟨ob, 1, none⟩) (cell_lt x1)).trans x1
          have hcut := cut_h (P := Try.prog) byT (some ⟨p.b, 0, none⟩) 512 p.c k (by omega) hkc.2
          generalize hw4 : w3.drew.alloc (.cells #[.int .i64 0, .slice none 0 0] 69) = w4 at *
          generalize hw5 : w3.drew.alloc (.cells #[.int .i64 (p.n : Int), .slice (some ⟨p.b, 0, none⟩) 512 p.c] 69) = w5 at *
          clear hw4 hw5 hal hst e1 e2 e3 hnx hR5 hM5 hR3 hM3 hrow hB4 hB5 kB hob1 c3 c4 c5 x0 x1 hpS hpm hp hA
          refine wp_theta [] [8, 9] (fun _ _ => True) (fun ρ D u => u = if D 9 then w5 else if D 8 then w4 else w3.drew) (CC) ?_ ?_ ?_ ?_ ?_ ?_ ?_ ?_ ?_ ?_
          · kernel_rfl
          · kernel_rfl
          · kernel_rfl
          · kernel_rfl
          · kernel_rfl
          · kernel_rfl
          · exact fun i hi => ⟨undef, trivial⟩
          · rfl
          · rintro ρ D u rfl; split; exact k5; split; exact k4; exact k3
          · intro θ hθ
            simp only [SegsT, List.take_succ_cons, List.take_zero, List.drop_succ_cons, List.drop_zero, Nat.sub_zero, Nat.reduceSub, Nat.reduceAdd, List.drop_nil, List.take_nil]
            haveI i1 : Nonempty (Wd CC) := ⟨⟨_, k3⟩⟩
            have l0 : ∀ s : Wd CC, s.val.cell? ⟨a.g, 1, none⟩ = some (.slice (some ⟨bq, 0, none⟩) L a.c) := fun s => (hcc _ s.prop).1
            have l1 : ∀ s : Wd CC, s.val.cell? ⟨ob, 0, none⟩ = some (.int .i64 (m : Int)) := fun s => (hcc _ s.prop).2.1
            have l3 : ∀ s : Wd CC, s.val.cell? ⟨bq, m * 2, none⟩ = some (.int .i64 (p.n : Int)) := fun s => (hcc _ s.prop).2.2.2.1
            have l4 : ∀ s : Wd CC, s.val.cell? ⟨bq, m * 2 + 1, none⟩ = some (.slice (some ⟨p.b, 0, none⟩) 512 p.c) := fun s => (hcc _ s.prop).2.2.2.2
            clear k3 k4 k5 hCC hcc
            repeat (go_big_quiet_step (fail))
            refine wpQuiet_nil ?_
            rw [if_neg (by decide)]
            refine ⟨.pointer (some ⟨ob + 1, 0, none⟩), detOK_run [] [9] (by kernel_rfl) (by kernel_rfl) (fun ρ D u hq hK => ?_), ?_⟩
            · have h9 := hq.not 9 (by simp)
              have h8 := hq.now
              rw [h9, h8] at hK
              subst hK
              exact ⟨w4, run_box_any (s := Instr.alloc 69 true (.tuple #[])) (by kernel_rfl) HAL.out, by simp [upd, h9]⟩
            go_frame
            repeat (go_big_quiet_step (fail))
            refine wpQuiet_nil ?_
            rw [if_neg (by decide)]
            refine ⟨undef, detOK_skip [8] [] (by kernel_rfl) (by kernel_rfl) (fun ρ D u hq hK => ?_), ?_⟩
            · have h8 := hq.did 8 (by simp)
              have h9 := hq.now
              rw [h9, h8] at hK
              subst hK
              exact ⟨w5, run_skip_any (s := Instr.storeAt 69 (.pointer (some ⟨ob + 1, 0, none⟩)) (.agg #[.int .i64 (p.n : Int), .slice (some ⟨p.b, 0, none⟩) 512 p.c])) (by kernel_rfl) HST.out, by simp [upd]⟩
            try go_frame
            repeat (go_big_quiet_step (fail))
            refine wpQuiet_nil ?_
            intro u hK
            have hu : u = w5 := hK
            subst hu
            clear l0 l1 l3 l4 i1 hθ hK
            obtain ⟨v5, hv5⟩ : ∃ v5, v5 = u := ⟨u, rfl⟩
            subst hv5
            go_wp2_with fail
            obtain ⟨DD, hDD⟩ : ∃ DD : World → Prop, DD = fun u => u.cell? ⟨ob + 1, 0, none⟩ = some (.int .i64 (p.n : Int)) ∧ u.cell? ⟨ob + 1, 1, none⟩ = some (.slice (some ⟨p.b, 0, none⟩) 512 p.c) ∧ u.cell? ⟨ob, 1, none⟩ = some (.int .i64 (k : Int)) := ⟨_, rfl⟩
            have hdd : ∀ u, DD u → u.cell? ⟨ob + 1, 0, none⟩ = some (.int .i64 (p.n : Int)) ∧ u.cell? ⟨ob + 1, 1, none⟩ = some (.slice (some ⟨p.b, 0, none⟩) 512 p.c) ∧ u.cell? ⟨ob, 1, none⟩ = some (.int .i64 (k : Int)) := fun u h => by rw [hDD] at h; exact h
            have k5 : DD v5.drew := by rw [hDD]; exact ⟨z0, z1, hz1⟩
            have k6 : DD w6 := by rw [hDD]; exact ⟨z0', z1', hob0⟩
            clear z0 z1 z0' z1' hz1 hob0
            refine wp_theta [3] [3, 9] (fun i v => i = 3 → v = .slice (some ⟨a.pb, p.n * 512, none⟩) 512 (a.pc - p.n * 512)) (fun ρ D u => u = if D 9 then w6 else v5.drew) (DD) ?_ ?_ ?_ ?_ ?_ ?_ ?_ ?_ ?_ ?_
            · kernel_rfl
            · kernel_rfl
            · kernel_rfl
            · kernel_rfl
            · kernel_rfl
            · kernel_rfl
            · exact fun i hi => ⟨_, fun _ => rfl⟩
            · rfl
            · rintro ρ D u rfl; split; exact k6; exact k5
            · intro θ hθ
              simp only [SegsT, List.take_succ_cons, List.take_zero, List.drop_succ_cons, List.drop_zero, Nat.sub_zero, Nat.reduceSub, Nat.reduceAdd, List.drop_nil, List.take_nil]
              have t3 := hθ 3 (by decide) rfl
              haveI i1 : Nonempty (Wd DD) := ⟨⟨_, k5⟩⟩
              have l0 : ∀ s : Wd DD, s.val.cell? ⟨ob + 1, 0, none⟩ = some (.int .i64 (p.n : Int)) := fun s => (hdd _ s.prop).1
              have l1 : ∀ s : Wd DD, s.val.cell? ⟨ob + 1, 1, none⟩ = some (.slice (some ⟨p.b, 0, none⟩) 512 p.c) := fun s => (hdd _ s.prop).2.1
              have l2 : ∀ s : Wd DD, s.val.cell? ⟨ob, 1, none⟩ = some (.int .i64 (k : Int)) := fun s => (hdd _ s.prop).2.2
              clear k5 k6 hDD hdd
              repeat (go_big_quiet_step (fail))
              refine wpQuiet_nil ?_
              rw [if_pos (by decide)]
              refine ⟨thOK_call [] [9] 30 _ _ (by kernel_rfl) rfl (by kernel_rfl) #[.pointer (some ⟨a.g, 0, none⟩), .int .i64 (p.n : Int)] (by kernel_rfl) (by kernel_rfl) (fun ρ D u hq hK => ?_), ?_⟩
              · have h6 := hq.not 9 (by simp)
                rw [h6] at hK
                subst hK
                exact HS.out.mono fun e u' ⟨q1, q2⟩ => ⟨_, q1, fun _ => rfl, by subst q2; simp [upd, h6]⟩
              rw [t3]
              go_frame
              repeat (go_big_quiet_step (fail))
              refine wpQuiet_nil ?_
              rw [if_neg (by decide)]
              refine ⟨.int .i64 (k : Int), detOK_run [3] [] (by kernel_rfl) (by kernel_rfl) (fun ρ D u hq hK => ?_), ?_⟩
              · have h6 := hq.now
                rw [h6] at hK
                subst hK
                exact ⟨w6, run_box_any (s := Builtin.copy_ #[33, 33] 3 #[.slice (some ⟨a.pb, p.n * 512, none⟩) 512 (a.pc - p.n * 512), .slice (some ⟨p.b, 0, none⟩) k p.c]) (by kernel_rfl) HCP.out, by simp [upd]⟩
              try go_frame
              repeat (go_big_quiet_step (fail))
              refine wpQuiet_nil ?_
              intro u hK
              have hu : u = w6 := hK
              subst hu
              clear t3 l0 l1 l2 i1 hθ hK

              go_wp2_with fail
              go_roundg (j - (q + 1))
              case measure => have := HK2.out; omega
              case rel => exact ⟨q + 1, by go_num, rfl, by omega, HNX.out⟩
        · obtain rfl : q = j := by omega
          have c3' := hR.cells.2.2.2.1
          have HCL := Lib.hid (clear_ok hR)
          have HM := Lib.hid hM
          clear hk hR hM HOK HB HR0
          go_wp2_with fail
          refine HCL.out.mono ?_
          rintro e w2 ⟨a', rfl, g1, g2, g3, g4, g5⟩
          have hg := g2.g
          have z3 := g1.cells.2.2.2.2.2.2.2.2 3
          have z4 := g1.cells.2.2.2.2.2.2.2.2 4
          have d3 := g1.cells.2.2.2.1
          have d4 := g1.cells.2.2.2.2.1
          obtain ⟨r1, r2⟩ := g1.fld 3 (.bool false) a' { S with plat := S.crashTo o q, pend := [], lim := false } rfl ⟨rfl, rfl, rfl, rfl, rfl, rfl⟩ ⟨rfl, rfl, rfl⟩ g1.lft
          obtain ⟨r3, r4⟩ := r1.fld 4 (.int .i64 0) a' (S.crash q o) rfl ⟨rfl, rfl, rfl, rfl, rfl, rfl⟩ ⟨rfl, rfl, rfl⟩ ⟨by simp [DS.crash], by simp [DS.crash]⟩
          rw [hg] at z3 z4 d3 d4
          have hfin : ∃ a2, DR ((w2.setCell ⟨a.g, 3, none⟩ (.bool false)).setCell ⟨a.g, 4, none⟩ (.int .i64 0)) a2 (S.crash q o) ∧ Mv w a S ((w2.setCell ⟨a.g, 3, none⟩ (.bool false)).setCell ⟨a.g, 4, none⟩ (.int .i64 0)) a2 (S.crash q o) := by
            have r5 := ((HM.out.trans g2).trans r2).trans r4
            rw [hg] at r3 r5
            exact ⟨_, r3, r5⟩
          have HFIN := Lib.hid hfin
          clear g1 g2 g3 g4 g5 r1 r2 r3 r4 hfin hg
          go_wp2
          go_ret
          exact .inr ⟨by first | rfl | simp, HOKA.out, HFIN.out⟩
end
end Go.Proofs.Ytajhpfmfoolcjaa
