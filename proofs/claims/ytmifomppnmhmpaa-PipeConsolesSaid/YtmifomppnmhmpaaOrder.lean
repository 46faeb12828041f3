import Derived.Test.YtmifomppnmhmpaaPieces
/- PipeOrder. -/
namespace Go.Proofs.Ytmifomppnmhmpaa
open Go.RowKit
set_option linter.unusedVariables false
set_option linter.unusedSimpArgs false
attribute [local go_sem] szIs_lit row_at row_past row_alloc nf_alloc row_set nf_set row_cell nf_cell row_drew nf_drew row_drewN nf_drewN cell_setRow frozen_setRow nlt1 nlt2 nlt3 nlt4 nne1 nne2 nne3 nen1 nen2 nen3
attribute [local go_sem] rg_setf rg_setn rg_setm

theorem cut26h (A : Option Addr) (len cap c : Nat) (hc : c ≤ cap) : ∃ A', (∀ w : World, (Instr.slice 26 (.slice A len cap) none (some (.int .i64 (c : Int))) none).run Try.prog w = .ok (.slice A' c cap) w) ∧ (0 < c → A' = A) := by
  have h26 : Try.prog.underlying 26 = some (.slice (Try.prog.elem 26)) := by kernel_rfl
  have he : ∀ w : World, (sizeOf (Try.prog.elem 26)).run Try.prog w = .ok 1 w := fun w => by kernel_rfl
  refine ⟨if cap = 0 then A else A.map (·.add 0), fun w => ?_, fun h2 => by rw [if_neg (by omega)]; cases A <;> rfl⟩
  have := run_slice_h (P := Try.prog) w 26 A len cap h26 .i64 (c : Int) (by omega) (by omega)
  rw [this, he w]
  simp [sliced, Result.andThen]
set_option maxRecDepth 100000 in
set_option maxHeartbeats 4000000 in
theorem order_walk (A : Option Addr) (len cap : Nat) (o : Nat → OpV) (w : World) (hO : AreOp w w.heap.size A len cap o) (hsm : len ≤ 1048576) :
    Calls Try.prog 3 #[.slice A len cap] w fun e w' => e = .returned (.bool true) ∧ Below w.heap.size w w' := by
  have hlc : len ≤ cap := hO.1
  have hcm : cap ≤ 9223372036854775807 := hO.2.1
  have H0 := Lib.hid hO
  clear hO
  go_enter Try.func3, Try.ntmps3
  go_wp2_with fail
  refine (new_ok _).mono ?_
  rintro e w1 ⟨g, m, rfl, hg, hm, hP, hB⟩
  have HP1 := Lib.hid hP
  have HB1 := Lib.hid hB
  clear hP hB
  go_wp2_with fail
  refine (lives_ok _).mono ?_
  rintro e w2 ⟨rfl, hB⟩
  have HP2 := Lib.hid (HP1.out.below hB HP1.out.lt.1 HP1.out.lt.2)
  have HB2 := Lib.hid (HB1.out.trans (hB.mono HB1.out.size))
  clear hB HP1 HB1
  go_wp2_with fail
  go_loopg [4, 5, 6] len (fun k in_ out i_ wr => ∃ (I : Option Addr) (n1 c1 : Nat) (O : Option Addr) (n2 c2 i : Nat) (Y : Nat → Int), in_ = .slice I n1 c1 ∧ out = .slice O n2 c2 ∧ i_ = .int .i64 (i : Int) ∧ k = len - i ∧ i ≤ len ∧ n2 ≤ n1 ∧ n1 ≤ 512 * i ∧
    Own wr w.heap.size 5 I n1 c1 (fun j => .int .u8 (Y j)) ∧ Own wr w.heap.size 5 O n2 c2 (fun j => .int .u8 (Y j)) ∧ PipeAt wr g m (fun j => Y (n2 + j)) (n1 - n2) 1 1 ∧ inB I ≠ some g ∧ inB I ≠ some m ∧ inB O ≠ some g ∧ inB O ≠ some m ∧ (∀ b, inB I = some b → inB O ≠ some b) ∧ Below w.heap.size w wr)
  case atStart => exact ⟨none, 0, 0, none, 0, 0, 0, fun _ => 0, rfl, rfl, rfl, rfl, by omega, by omega, by omega, Own.nil _ _ _ _, Own.nil _ _ _ _, HP2.out, by simp [inB], by simp [inB], by simp [inB], by simp [inB], by simp [inB], HB2.out⟩
  case round =>
    obtain ⟨I, n1, c1, O, n2, c2, i, Y, rfl, rfl, rfl, hk, hil, h21, h512, hOI, hOO, hP, ng, nm, og, om, hno, hB⟩ := hrel
    have HI := Lib.hid hOI
    have HO := Lib.hid hOO
    have HP := Lib.hid hP
    have HB := Lib.hid hB
    have HN := Lib.hid (And.intro ng (And.intro nm (And.intro og (And.intro om hno))))
    have HK := Lib.hid hk
    clear hOI hOO hP hB ng nm og om hno hk
    by_cases hlt : i < len
    · obtain ⟨b, off, hA, hadB, hat⟩ := H0.out.2.2.2 (by omega)
      obtain ⟨e0, f0, e1, e2, f2, e3, f3, f4⟩ := (hat i hlt).below hadB HB.out
      subst hA
      clear hat
      have HF3 := Lib.hid f3
      clear f3 f4
      have ele : ((n1 - n2 : Nat) : Int) = (n1 : Int) - (n2 : Int) := by omega
      have HLE := Lib.hid ele
      clear ele
      obtain ⟨gl, ml⟩ := HP.out.lt
      have hp5 := HP.out.le5
      by_cases h3 : (o i).x0 = 3
      · have h3b : ((o i).x0 == 3) = true := beq_iff_eq.2 h3
        have h4b : ((o i).x0 == 4) = false := beq_eq_false_iff_ne.2 (by omega)
        clear h3
        go_wp2_with fail
        refine (read_any g m _ _ 1 1 wr HP.out (o i).x2 (by omega)).mono ?_
        rintro e w5 ⟨A5, rfl, hA5, _, hP, hK⟩
        have hT : took (n1 - n2) (o i).x2 ≤ n1 - n2 := by unfold took; split <;> omega
        generalize took (n1 - n2) (o i).x2 = T at *
        generalize tookE 1 (n1 - n2) (o i).x2 = E at *
        have HR5 := Lib.hid (show RdV w5 A5 T (fun i => .int .u8 (Y (n2 + i))) from fun hn => by
          obtain ⟨e, hblk⟩ := hA5 hn
          obtain ⟨ad, e2, hc⟩ := Rd.of_blk (Q := fun j => Y (n2 + j)) (fun _ => hblk) hn
          exact ⟨ad, e.trans e2, fun i hi => ⟨hc i hi, rfl⟩⟩)
        have HP5 := Lib.hid (show PipeAt w5 g m (fun j => Y (n2 + T + j)) (n1 - (n2 + T)) 1 1 from by
          have e : n1 - n2 - T = n1 - (n2 + T) := by omega
          rw [← e]
          exact hP.ext fun i hi => congrArg Y (by omega))
        have HI5 := Lib.hid (HI.out.heap (w' := w5) fun k hk => hK.block k (HI.out.lt k hk).2 (fun e => HN.out.1 (by rw [hk, e])) (fun e => HN.out.2.1 (by rw [hk, e])))
        have HO5 := Lib.hid (HO.out.heap (w' := w5) fun k hk => hK.block k (HO.out.lt k hk).2 (fun e => HN.out.2.2.1 (by rw [hk, e])) (fun e => HN.out.2.2.2.1 (by rw [hk, e])))
        have HB5 := Lib.hid (HB.out.trans (hK.below hg hm HB.out.size))
        have hz5 := hK.size
        have f0' := (HB5.out.cell (p := ⟨b, off + i * 4, none⟩) hadB).trans ((HB.out.cell (p := ⟨b, off + i * 4, none⟩) hadB).symm.trans e0)
        clear hP hK hA5 e0 e1 e2 e3
        have HL1 := Lib.hid (show n2 + T ≤ maxLen by unfold maxLen; omega)
        have HL2 := Lib.hid (show (n2 + T) * 1 ≤ 140737488355328 by omega)
        go_wp2_with (at_builtin; go_must (refine wpList_app rfl (.tmp 42) (.tmp 43) 26 5 rfl (.int .u8 0) 1 ty26 i5 rfl w.heap.size _ _ _ rfl _ _ _ rfl _ HO5.out _ HR5.out HL1.out HL2.out HB5.out.size ?_; intro A6 c6 w6 hO6 hg6 hb6; have HO6 := Lib.hid hO6; have HG6 := Lib.hid hg6; have HB6 := Lib.hid hb6; have f0'' := (World.cell?_of_block (a := ⟨b, off + i * 4, none⟩) (hg6.block b (by have := HB5.out.size; omega) (by intro e; exact absurd (HO5.out.lt b e.symm).1 (by omega)))).trans f0'; clear hO6 hg6 hb6))
        have hP6 : PipeAt w6 g m (fun j => Y (n2 + T + j)) (n1 - (n2 + T)) 1 1 := HP5.out.heap (HG6.out.block g (by omega) (fun e => HN.out.2.2.1 e.symm)) (HG6.out.block m (by omega) (fun e => HN.out.2.2.2.1 e.symm))
        have HP6 := Lib.hid hP6
        have HI6 := Lib.hid (HI5.out.kept HG6.out fun k hk e => HN.out.2.2.2.2 k hk e)
        have HB6' := Lib.hid (HB5.out.trans (Below.grown (Below.refl _ _) HG6.out HB5.out.size (fun k hk => (HO5.out.lt k hk).1)))
        clear hP6
        refine (len_ok g m _ _ 1 1 w6 HP6.out).mono ?_
        rintro e w7 ⟨rfl, rfl⟩
        have ele : ((n1 - (n2 + T) : Nat) : Int) = ((n1 : Nat) : Int) - (((n2 + T) : Nat) : Int) := by omega
        rw [ele]
        clear ele
        go_wp2_with fail
        refine (len_ok g m _ _ 1 1 w6 HP6.out).mono ?_
        rintro e w7 ⟨rfl, rfl⟩
        have ele : ((n1 - (n2 + T) : Nat) : Int) = ((n1 : Nat) : Int) - (((n2 + T) : Nat) : Int) := by omega
        rw [ele]
        clear ele
        go_wp2
        have hz6 := HG6.out.size
        go_roundg (len - (i + 1))
        case measure => have := HK.out; omega
        case rel =>
          exact ⟨I, n1, c1, A6, n2 + T, c6, i + 1, Y, rfl, rfl, by go_num, rfl, by omega, by omega, by omega, HI6.out, HO6.out.ext (fun j hj => by
            unfold catV
            by_cases h : j < n2
            · rw [if_pos h]
            · rw [if_neg h]; show Value.int .u8 (Y (n2 + (j - n2))) = _; rw [show n2 + (j - n2) = j by omega]), HP6.out, HN.out.1, HN.out.2.1,
            (by rcases HB6.out with e | e <;> rw [e]; exact HN.out.2.2.1; intro e; injection e; omega), (by rcases HB6.out with e | e <;> rw [e]; exact HN.out.2.2.2.1; intro e; injection e; omega),
            (by intro k hk; rcases HB6.out with e | e <;> rw [e]; exact HN.out.2.2.2.2 k hk; intro e; injection e with e; have := (HI.out.lt k hk).2; omega), HB6'.out⟩
      · have h3b : ((o i).x0 == 3) = false := beq_eq_false_iff_ne.2 h3
        by_cases h4 : (o i).x0 = 4
        · have h4b : ((o i).x0 == 4) = true := beq_iff_eq.2 h4
          clear h3 h4
          have hsrc : Src wr g (o i).a3 (o i).l3 (o i).y3 := fun hn => by
            obtain ⟨ad, e, hb, hc⟩ := HF3.out.2.2.2 hn
            exact ⟨ad, e, by omega, hc⟩
          have hlk := HF3.out.1
          have hkm : (o i).k3 ≤ 9223372036854775807 := HF3.out.2.1
          go_wp2_with fail
          refine (write_any g m _ _ 1 1 wr HP.out (o i).a3 (o i).l3 (o i).k3 (o i).y3 (by omega) hlk hkm hsrc).mono ?_
          rintro e w5 ⟨rfl, hP, hK⟩
          have hc1 : wrote 1 (n1 - n2) (o i).l3 ≤ (o i).l3 ∧ n1 - n2 + wrote 1 (n1 - n2) (o i).l3 ≤ 512 := by unfold wrote; rw [if_neg (by omega)]; omega
          generalize wrote 1 (n1 - n2) (o i).l3 = c at *
          generalize wroteE 1 (n1 - n2) (o i).l3 = E at *
          obtain ⟨hcl, hc5⟩ := hc1
          have hlt5 : n1 + c ≤ 512 * (i + 1) := by omega
          obtain ⟨A', hA, hA'⟩ := cut26h (o i).a3 (o i).l3 (o i).k3 c (by omega)
          have HR5 := Lib.hid (show RdV w5 A' c (fun j => .int .u8 ((o i).y3 j)) from fun hn => by
            obtain ⟨ad, e, hb, hc⟩ := HF3.out.2.2.2 (by omega)
            exact ⟨ad, (hA' hn).trans e, fun j hj => ⟨((hK.below hg hm HB.out.size).cell (by rw [block_of_add]; exact hb)).trans (hc j (by omega)), rfl⟩⟩)
          have HP5 := Lib.hid (show PipeAt w5 g m (fun j => cat Y n1 (o i).y3 (n2 + j)) (n1 + c - n2) 1 1 from by
            have e : n1 - n2 + c = n1 + c - n2 := by omega
            rw [← e]
            exact hP.ext fun j hj => by
              unfold cat
              by_cases h : j < n1 - n2
              · rw [if_pos h, if_pos (by omega)]
              · rw [if_neg h, if_neg (by omega)]; exact congrArg _ (by omega))
          have HI5 := Lib.hid (HI.out.heap (w' := w5) fun k hk => hK.block k (HI.out.lt k hk).2 (fun e => HN.out.1 (by rw [hk, e])) (fun e => HN.out.2.1 (by rw [hk, e])))
          have HO5 := Lib.hid (HO.out.heap (w' := w5) fun k hk => hK.block k (HO.out.lt k hk).2 (fun e => HN.out.2.2.1 (by rw [hk, e])) (fun e => HN.out.2.2.2.1 (by rw [hk, e])))
          have HB5 := Lib.hid (HB.out.trans (hK.below hg hm HB.out.size))
          have hz5 := hK.size
          have f3' := (HB5.out.cell (p := ⟨b, off + i * 4 + 3, none⟩) hadB).trans ((HB.out.cell (p := ⟨b, off + i * 4 + 3, none⟩) hadB).symm.trans e3)
          clear hP hK hA' hsrc e0 e1 e2 e3
          have HL1 := Lib.hid (show n1 + c ≤ maxLen by unfold maxLen; omega)
          have HL2 := Lib.hid (show (n1 + c) * 1 ≤ 140737488355328 by omega)
          go_wp2_with (at_builtin; go_must (refine wpList_app rfl (.tmp 73) (.tmp 80) 26 5 rfl (.int .u8 0) 1 ty26 i5 rfl w.heap.size _ _ _ rfl _ _ _ rfl _ HI5.out _ HR5.out HL1.out HL2.out HB5.out.size ?_; intro A6 c6 w6 hO6 hg6 hb6; have HI6 := Lib.hid hO6; have HG6 := Lib.hid hg6; have HB6 := Lib.hid hb6; clear hO6 hg6 hb6))
          have HP6 := Lib.hid (HP5.out.heap (HG6.out.block g (by omega) (fun e => HN.out.1 e.symm)) (HG6.out.block m (by omega) (fun e => HN.out.2.1 e.symm)))
          have HO6 := Lib.hid (HO5.out.kept HG6.out fun k hk e => HN.out.2.2.2.2 k e hk)
          have HB6' := Lib.hid (HB5.out.trans (Below.grown (Below.refl _ _) HG6.out HB5.out.size (fun k hk => (HI5.out.lt k hk).1)))
          refine (len_ok g m _ _ 1 1 w6 HP6.out).mono ?_
          rintro e w7 ⟨rfl, rfl⟩
          have ele : (((n1 + c) - n2 : Nat) : Int) = (((n1 + c) : Nat) : Int) - ((n2 : Nat) : Int) := by omega
          rw [ele]
          clear ele
          go_wp2_with fail
          refine (len_ok g m _ _ 1 1 w6 HP6.out).mono ?_
          rintro e w7 ⟨rfl, rfl⟩
          have ele : (((n1 + c) - n2 : Nat) : Int) = (((n1 + c) : Nat) : Int) - ((n2 : Nat) : Int) := by omega
          rw [ele]
          clear ele
          go_wp2
          have hz6 := HG6.out.size
          go_roundg (len - (i + 1))
          case measure => have := HK.out; omega
          case rel =>
            exact ⟨A6, n1 + c, c6, O, n2, c2, i + 1, cat Y n1 (o i).y3, rfl, rfl, by go_num, rfl, by omega, by omega, by omega, HI6.out.ext (fun j hj => by
              unfold catV cat
              by_cases h : j < n1
              · rw [if_pos h, if_pos h]
              · rw [if_neg h, if_neg h]), HO6.out.ext (fun j hj => by unfold cat; rw [if_pos (by omega)]), HP6.out,
              (by rcases HB6.out with e | e <;> rw [e]; exact HN.out.1; intro e; injection e; omega), (by rcases HB6.out with e | e <;> rw [e]; exact HN.out.2.1; intro e; injection e; omega), HN.out.2.2.1, HN.out.2.2.2.1,
              (by intro k hk; rcases HB6.out with e | e <;> rw [e] at hk; exact HN.out.2.2.2.2 k hk; injection hk with e; intro h; have := (HO.out.lt k h).2; omega), HB6'.out⟩
        · have h4b : ((o i).x0 == 4) = false := beq_eq_false_iff_ne.2 h4
          clear h3 h4
          go_wp2_with fail
          refine (len_ok g m _ _ 1 1 wr HP.out).mono ?_
          rintro e w7 ⟨rfl, rfl⟩
          have ele : ((n1 - n2 : Nat) : Int) = ((n1 : Nat) : Int) - ((n2 : Nat) : Int) := by omega
          rw [ele]
          clear ele
          go_wp2_with fail
          refine (len_ok g m _ _ 1 1 wr HP.out).mono ?_
          rintro e w7 ⟨rfl, rfl⟩
          have ele : ((n1 - n2 : Nat) : Int) = ((n1 : Nat) : Int) - ((n2 : Nat) : Int) := by omega
          rw [ele]
          clear ele
          go_wp2
          go_roundg (len - (i + 1))
          case measure => have := HK.out; omega
          case rel =>
            exact ⟨I, n1, c1, O, n2, c2, i + 1, Y, rfl, rfl, by go_num, rfl, by omega, by omega, by omega, HI.out, HO.out, HP.out, HN.out.1, HN.out.2.1, HN.out.2.2.1, HN.out.2.2.2.1, HN.out.2.2.2.2, HB.out⟩
    · have hn1 : n1 ≤ 536870912 := by omega
      have hnl : ¬ i < len := hlt
      have h512' := h512
      clear h512 hlt hil hsm HK
      go_wp2_with fail
      go_loopg [5] (n1 - n2) (fun k out ws => ∃ (O' : Option Addr) (n3 c3 : Nat), out = .slice O' n3 c3 ∧ k = n1 - n3 ∧ n3 ≤ n1 ∧ Own ws w.heap.size 5 I n1 c1 (fun j => .int .u8 (Y j)) ∧ Own ws w.heap.size 5 O' n3 c3 (fun j => .int .u8 (Y j)) ∧ PipeAt ws g m (fun j => Y (n3 + j)) (n1 - n3) 1 1 ∧ inB O' ≠ some g ∧ inB O' ≠ some m ∧ (∀ b, inB I = some b → inB O' ≠ some b) ∧ Below w.heap.size w ws)
      case atStart => exact ⟨O, n2, c2, rfl, rfl, h21, HI.out, HO.out, HP.out, HN.out.2.2.1, HN.out.2.2.2.1, HN.out.2.2.2.2, HB.out⟩
      case round =>
        have hng := HN.out.1
        have hnm := HN.out.2.1
        have HNN := Lib.hid (And.intro hng hnm)
        clear HI HO HP HN HB hng hnm
        obtain ⟨O', n3, c3, rfl, hk, h31, hOI, hOO, hP, og, om, hno, hB⟩ := hrel
        have HI := Lib.hid hOI
        have HO := Lib.hid hOO
        have HP := Lib.hid hP
        have HB := Lib.hid hB
        have HN := Lib.hid (And.intro og (And.intro om hno))
        have HK := Lib.hid hk
        clear hOI hOO hP hB og om hno hk
        obtain ⟨gl, ml⟩ := HP.out.lt
        have hp5 := HP.out.le5
        by_cases hlt : n3 < n1
        · have HL := Lib.hid (len_ok g m _ _ 1 1 wr HP.out)
          go_wp2_with fail
          refine (HL.out).mono ?_
          rintro e w7 ⟨rfl, rfl⟩
          go_wp2_with fail
          refine (read_any g m _ _ 1 1 wr HP.out 100 (by omega)).mono ?_
          rintro e w5 ⟨A5, rfl, hA5, _, hP, hK⟩
          have hT : took (n1 - n3) 100 ≤ n1 - n3 ∧ 0 < took (n1 - n3) 100 := by unfold took; rw [if_neg (by omega)]; simp; omega
          have hE : tookE 1 (n1 - n3) 100 = 0 := by unfold tookE; rw [if_neg (by omega), if_neg (by omega), if_neg (by omega)]
          rw [hE]
          clear hE
          generalize took (n1 - n3) 100 = T at *
          obtain ⟨hT1, hT0⟩ := hT
          have hTz : ((T : Int) == 0) = false := beq_eq_false_iff_ne.2 (by omega)
          have HR5 := Lib.hid (show RdV w5 A5 T (fun i => .int .u8 (Y (n3 + i))) from fun hn => by
            obtain ⟨e, hblk⟩ := hA5 hn
            obtain ⟨ad, e2, hc⟩ := Rd.of_blk (Q := fun j => Y (n3 + j)) (fun _ => hblk) hn
            exact ⟨ad, e.trans e2, fun i hi => ⟨hc i hi, rfl⟩⟩)
          have HP5 := Lib.hid (show PipeAt w5 g m (fun j => Y (n3 + T + j)) (n1 - (n3 + T)) 1 1 from by
            have e : n1 - n3 - T = n1 - (n3 + T) := by omega
            rw [← e]
            exact hP.ext fun i hi => congrArg Y (by omega))
          have HI5 := Lib.hid (HI.out.heap (w' := w5) fun k hk => hK.block k (HI.out.lt k hk).2 (fun e => HNN.out.1 (by rw [hk, e])) (fun e => HNN.out.2 (by rw [hk, e])))
          have HO5 := Lib.hid (HO.out.heap (w' := w5) fun k hk => hK.block k (HO.out.lt k hk).2 (fun e => HN.out.1 (by rw [hk, e])) (fun e => HN.out.2.1 (by rw [hk, e])))
          have HB5 := Lib.hid (HB.out.trans (hK.below hg hm HB.out.size))
          have hz5 := hK.size
          clear hP hK hA5
          have HL1 := Lib.hid (show n3 + T ≤ maxLen by unfold maxLen; omega)
          have HL2 := Lib.hid (show (n3 + T) * 1 ≤ 140737488355328 by omega)
          go_wp2_with (at_builtin; go_must (refine wpList_app rfl (.tmp 110) (.tmp 111) 26 5 rfl (.int .u8 0) 1 ty26 i5 rfl w.heap.size _ _ _ rfl _ _ _ rfl _ HO5.out _ HR5.out HL1.out HL2.out HB5.out.size ?_; intro A6 c6 w6 hO6 hg6 hb6; have HO6 := Lib.hid hO6; have HG6 := Lib.hid hg6; have HB6 := Lib.hid hb6; clear hO6 hg6 hb6))
          have HP6 := Lib.hid (HP5.out.heap (HG6.out.block g (by omega) (fun e => HN.out.1 e.symm)) (HG6.out.block m (by omega) (fun e => HN.out.2.1 e.symm)))
          have HI6 := Lib.hid (HI5.out.kept HG6.out fun k hk e => HN.out.2.2 k hk e)
          have HB6' := Lib.hid (HB5.out.trans (Below.grown (Below.refl _ _) HG6.out HB5.out.size (fun k hk => (HO5.out.lt k hk).1)))
          go_roundg (n1 - (n3 + T))
          case measure => have := HK.out; omega
          case rel =>
            exact ⟨A6, n3 + T, c6, rfl, rfl, by omega, HI6.out, HO6.out.ext (fun j hj => by
              unfold catV
              by_cases h : j < n3
              · rw [if_pos h]
              · rw [if_neg h]; show Value.int .u8 (Y (n3 + (j - n3))) = _; rw [show n3 + (j - n3) = j by omega]), HP6.out,
              (by rcases HB6.out with e | e <;> rw [e]; exact HN.out.1; intro e; injection e; omega), (by rcases HB6.out with e | e <;> rw [e]; exact HN.out.2.1; intro e; injection e; omega),
              (by intro k hk; rcases HB6.out with e | e <;> rw [e]; exact HN.out.2.2 k hk; intro e; injection e with e; have := (HI.out.lt k hk).2; omega), HB6'.out⟩
        · obtain rfl : n3 = n1 := by omega
          have HL := Lib.hid (len_ok g m _ _ 1 1 wr HP.out)
          have HR := Lib.hid (show Rd wr I n3 Y from fun hn => by obtain ⟨g0, h1, h2⟩ := HI.out.cells hn; exact ⟨_, h1, h2⟩)
          have HR2 := Lib.hid (show Rd wr O' n3 Y from fun hn => by obtain ⟨g0, h1, h2⟩ := HO.out.cells hn; exact ⟨_, h1, h2⟩)
          go_wp2_with fail
          refine (HL.out).mono ?_
          rintro e w7 ⟨rfl, rfl⟩
          rw [Nat.sub_self]
          go_wp2_with fail
          refine (same_yes I O' n3 c1 c3 Y Y wr HR.out HR2.out (fun i hi => rfl)).mono ?_
          rintro e w3 ⟨rfl, rfl⟩
          go_wp2
          go_ret
          exact ⟨by simp, HB.out⟩
end Go.Proofs.Ytmifomppnmhmpaa
