import Derived.Test.YtliliimdkkaocaaRefLook
/- The reference: lets. -/
namespace Go.Proofs.Ytliliimdkkaocaa
open Go.RowKit
set_option linter.unusedVariables false
set_option linter.unusedSimpArgs false
attribute [local go_sem] szIs_lit row_at row_past row_alloc nf_alloc row_set nf_set row_cell nf_cell row_drew nf_drew row_drewN nf_drewN cell_setRow frozen_setRow nlt1 nlt2 nlt3 nlt4 nne1 nne2 nne3 nen1 nen2 nen3

set_option maxRecDepth 100000 in
set_option maxHeartbeats 4000000 in
theorem rlets_ok (base g c : Nat) (A : Option Addr) (size live : Int) (L : List Seat) (w : World) (h : GateA w base g A c size live L) (hw : WF size live L) (hb : base ≤ w.heap.size) : Calls Try.prog 39 #[.pointer (some ⟨g, 0, none⟩)] w fun e w' => ∃ O co, e = .returned (.slice O (admit size live L).2.length co) ∧ Own w' w.heap.size 3 O (admit size live L).2.length co (fun i => .int .i64 ((admit size live L).2.getD i 0)) ∧ GateA w' base g A c size live (admit size live L).1 ∧ FrG w w' g A A := by
  have hlen := hw.len
  have h1 := hw.s1
  have h2 := hw.s2
  have h3 := hw.l0
  have h4 := hw.fit
  have h5 := res_nonneg L (fun s hs => (hw.b s hs).1)
  have HH := Lib.hid h
  have HW := Lib.hid hw
  have HN0 := Lib.hid (show ∀ k, foot g A k → k < w.heap.size from fun k hk => (HH.out.foot_lt hk).2)
  have hgl := h.blk.lt
  clear h hw
  go_enter Try.func39, Try.ntmps39
  go_wp2_with fail
  go_loopg [3, 4] L.length (fun k in_ i_ wr => ∃ (O : Option Addr) (co : Nat) (o : List Int) (L' : List Seat) (j : Nat), in_ = .slice O o.length co ∧ i_ = .int .i64 (j : Int) ∧ k = L.length - j ∧ j ≤ L.length ∧ L'.length = L.length ∧ o.length ≤ j ∧ WF size live L' ∧
    Own wr w.heap.size 3 O o.length co (fun i => .int .i64 (o.getD i 0)) ∧ GateA wr base g A c size live L' ∧ FrG w wr g A A ∧ L'.take j ++ (adm (size - live - res L') (L'.drop j)).1 = (adm (size - live - res L) L).1 ∧ o ++ (adm (size - live - res L') (L'.drop j)).2 = (adm (size - live - res L) L).2)
  case atStart => exact ⟨none, 0, [], L, 0, rfl, rfl, rfl, by omega, rfl, by simp, HW.out, Own.nil _ _ _ _, HH.out, FrG.refl _ _ _, by simp, by simp⟩
  case round =>
    obtain ⟨O, co, o, L', j, rfl, rfl, hk, hj, hl, ho, hwf, hO, hG, hF, e1, e2⟩ := hrel
    have HK := Lib.hid hk
    have HL := Lib.hid hl
    have HO := Lib.hid hO
    have HG := Lib.hid hG
    have HF := Lib.hid hF
    have HWF := Lib.hid hwf
    have HE := Lib.hid (And.intro e1 e2)
    obtain ⟨gr, gn, gc, gf⟩ := hG.blk.all
    have cs := (gc 0).trans (show _ = some (.int .i64 size) from rfl)
    have cl := (gc 1).trans (show _ = some (.int .i64 live) from rfl)
    have cq := (gc 2).trans (show _ = some (.slice A L'.length c) from rfl)
    rw [hl] at cq
    clear hk hl hO hG hF e1 e2 gr gn gc gf hwf
    by_cases hlt : j < L.length
    · obtain ⟨s, hs⟩ : ∃ s, L'[j]? = some s := ⟨_, List.getElem?_eq_getElem (by rw [HL.out]; exact hlt)⟩
      have HS := Lib.hid hs
      have hdrop : L'.drop j = s :: L'.drop (j + 1) := by
        have hi := (List.getElem?_eq_some_iff.1 hs).1
        rw [List.drop_eq_getElem_cons hi]
        congr 1
        exact (List.getElem?_eq_some_iff.1 hs).2
      have htake : L'.take (j + 1) = L'.take j ++ [s] := by rw [List.take_add_one, hs]; rfl
      have HD := Lib.hid (And.intro hdrop htake)
      obtain ⟨b, hA, hbb, hbl, hfz, e0, e1, e2, e3⟩ := HG.out.seats.at_ hs
      obtain ⟨b1, b2, _, _⟩ := HWF.out.b s (List.mem_of_getElem? hs)
      subst hA
      clear hs hdrop htake
      have fz := hfz (j * 4 + 3)
      clear hfz
      cases hsw : s.w
      · rw [hsw] at e3
        have HSW := Lib.hid hsw
        clear hsw
        go_wp2_with fail
        go_roundg (L.length - (j + 1))
        case measure => have := HK.out; omega
        case rel =>
          obtain ⟨q1, q2⟩ := HE.out
          obtain ⟨q3, q4⟩ := HD.out
          rw [q3, adm_in _ s _ HSW.out] at q1 q2
          exact ⟨O, co, o, L', j + 1, rfl, by go_num, rfl, by omega, HL.out, by omega, HWF.out, HO.out, HG.out, HF.out, by rw [q4, List.append_assoc]; exact q1, q2⟩
      · rw [hsw] at e3
        have HSW := Lib.hid hsw
        clear hsw
        have hr0 := res_nonneg L' (fun s hs => (HWF.out.b s hs).1)
        have hr1 := HWF.out.fit
        have HR := Lib.hid (fun w' (h' : GateA w' base g (some ⟨b, 0, none⟩) c size live L') => rres_ok base g c (some ⟨b, 0, none⟩) size live L' w' h' HWF.out)
        generalize hrr : res L' = rr at *
        have HRR := Lib.hid hrr
        clear hrr
        have hx1 : IntKind.i64.wrap (live + rr) = live + rr := IntWalk.i64_in _ (by omega)
        have hx2 : IntKind.i64.wrap (live + rr + s.b) = live + rr + s.b := IntWalk.i64_in _ (by omega)
        by_cases hfit : size < live + rr + s.b
        · go_wp2_with fail
          go_quiet ((go_at_call 34; (refine Calls.quiet_of_same ((HR.out _ ?_).mono fun _ _ ⟨a, b⟩ => ⟨a, b.symm⟩); exact HG.out.kept fun _ _ => rfl)))
          go_wp2_with fail
          go_ret
          obtain ⟨q1, q2⟩ := HE.out
          obtain ⟨q3, q4⟩ := HD.out
          have hfit2 : size - live - rr < s.b := by omega
          rw [q3, adm_stop _ s _ HSW.out hfit2] at q1 q2
          have q5 : (adm (size - live - res L) L).1 = L' := by rw [← q1, ← q3, List.take_append_drop]
          have q6 : (adm (size - live - res L) L).2 = o := by rw [← q2]; simp
          unfold admit
          rw [q5, q6]
          exact ⟨O, co, by first | rfl | simp, HO.out.heap fun _ _ => rfl, HG.out.drewN _, ⟨HF.out.os, HF.out.tape, HF.out.output, HF.out.size, HF.out.block, HF.out.new⟩⟩
        · go_wp2_with fail
          go_quiet ((go_at_call 34; (refine Calls.quiet_of_same ((HR.out _ ?_).mono fun _ _ ⟨a, b⟩ => ⟨a, b.symm⟩); exact HG.out.kept fun _ _ => rfl)))
          clear hx1 hx2
          generalize hwx : wr.drewN _ = wx at *
          have HGX := Lib.hid (show GateA wx base g (some ⟨b, 0, none⟩) c size live L' from by rw [← hwx]; exact HG.out.drewN _)
          have HFX := Lib.hid (show FrG w wx g (some ⟨b, 0, none⟩) (some ⟨b, 0, none⟩) from by rw [← hwx]; exact ⟨HF.out.os, HF.out.tape, HF.out.output, HF.out.size, HF.out.block, HF.out.new⟩)
          have HOX := Lib.hid (show Own wx w.heap.size 3 O o.length co (fun i => .int .i64 (o.getD i 0)) from by rw [← hwx]; exact HO.out.heap fun _ _ => rfl)
          clear hwx
          have HP := Lib.hid (HGX.out.put (j := 3) (s' := { s with w := false }) (u := .bool false) HS.out (by omega) rfl)
          have HWF2 := Lib.hid (show WF size live (L'.set j { s with w := false }) from by
            have hw := HWF.out
            refine ⟨hw.s1, hw.s2, hw.l0, ?_, by simpa using hw.len, fun x hx => ?_⟩
            · rw [res_set L' j s _ HS.out, if_pos HSW.out, HRR.out]; simp; omega
            · rcases List.mem_or_eq_of_mem_set hx with hx | rfl
              · exact hw.b x hx
              · exact hw.b s (List.mem_of_getElem? HS.out))
          have HR2 := Lib.hid (show res (L'.set j { s with w := false }) = rr + s.b from by rw [res_set L' j s _ HS.out, if_pos HSW.out, HRR.out]; simp)
          have hz5 := HFX.out.size
          have hbw : b < w.heap.size := HN0.out b (.inr rfl)
          have ho64 := HWF.out.len
          have hl64 := HL.out
          have HO1 := Lib.hid ((HOX.out.heap (w' := wx.setCell ⟨b, j * 4 + 3, none⟩ (.bool false)) fun k e => heap_setCell_other wx ⟨b, j * 4 + 3, none⟩ k _ (fun (e2 : k = b) => by have := (HOX.out.lt k e).1; omega)))
          have HL1 := Lib.hid (show o.length + 1 ≤ maxLen by unfold maxLen; omega)
          have HL2 := Lib.hid (show (o.length + 1) * 8 ≤ 140737488355328 by omega)
          obtain ⟨gr, gn, gc, gf⟩ := HGX.out.blk.all
          have cqx := (gc 2).trans (show _ = some (.slice (some ⟨b, 0, none⟩) L'.length c) from rfl)
          rw [hl64] at cqx
          obtain ⟨b', hA', _, _, hfz, f0, f1, f2, f3⟩ := HGX.out.seats.at_ HS.out
          obtain rfl : b = b' := by injection hA' with hA'; injection hA'
          have fzx := hfz (j * 4 + 3)
          have hgb : ¬ g = b := fun e => HGX.out.ag (by rw [e]; rfl)
          have hgb2 : ¬ b = g := fun e => hgb e.symm
          clear gr gn gc gf hA' hfz hl64 ho64 f1 f2 e0 e1 e2 e3 fz cq
          go_wp2_with (at_builtin; go_must (refine wpList_app rfl (.tmp 51) (.tmp 60) 29 3 rfl (.int .i64 0) 8 ty29 i3 rfl w.heap.size _ _ _ rfl _ _ _ rfl (fun i => .int .i64 (o.getD i 0)) (HO1.out.kept (World.grownBy_alloc _ _ none) (by intro k _ e; cases e)) (fun _ => .int .i64 s.id) ?_ HL1.out HL2.out (by simp; omega) ?_; (focus (intro _; exact ⟨_, rfl, fun i hi => by obtain rfl : i = 0 := (by omega); exact ⟨(cell_of_row _ _ 0 _ _ _ (heap_at (by simp))).trans rfl, rfl⟩⟩)); intro A6 c6 w6 hO6 hg6 hb6; have HO6 := Lib.hid hO6; have HG6 := Lib.hid hg6; have HB6 := Lib.hid hb6; clear hO6 hg6 hb6))
          have hno : ∀ k, foot g (some ⟨b, 0, none⟩) k → some k ≠ inB O := fun k hk e => by
            have := HN0.out k hk
            have := (HO.out.lt k e.symm).1
            omega
          have hblk6 : ∀ k, k < wx.heap.size → some k ≠ inB O → w6.heap[k]? = (wx.setCell ⟨b, j * 4 + 3, none⟩ (.bool false)).heap[k]? := fun k hk e => (HG6.out.block k (by simp; omega) e).trans (heap_past (by simpa using hk))
          have HG7 := Lib.hid (HP.out.1.kept (w' := w6) fun k hk => hblk6 k (by have := HN0.out k hk; omega) (hno k hk))
          have HF7 := Lib.hid (show FrG w w6 g (some ⟨b, 0, none⟩) (some ⟨b, 0, none⟩) from ⟨HG6.out.os.trans HFX.out.os, HG6.out.tape.trans HFX.out.tape, HG6.out.output.trans HFX.out.output, by have := HG6.out.size; simp at this; omega, fun k hk hf => (hblk6 k (by omega) (fun e => by have := (HO.out.lt k e.symm).1; omega)).trans ((HP.out.2.block k (by omega) hf).trans (HFX.out.block k hk hf)), fun k hk => .inl hk⟩)
          clear hno hblk6
          go_wp2_with fail
          go_roundg (L.length - (j + 1))
          case measure => have := HK.out; omega
          case rel =>
            obtain ⟨q1, q2⟩ := HE.out
            obtain ⟨q3, q4⟩ := HD.out
            rw [q3, adm_let _ s _ HSW.out (by omega)] at q1 q2
            have hlen1 := HL.out
            have q5 : (L'.set j { s with w := false }).drop (j + 1) = L'.drop (j + 1) := by rw [List.drop_set, if_pos (by omega)]
            have q6 : (L'.set j { s with w := false }).take (j + 1) = L'.take j ++ [{ s with w := false }] := by
              rw [List.take_add_one, List.take_set, List.getElem?_set, if_pos rfl]
              simp [show j < L'.length by omega]
              exact List.set_eq_of_length_le (by simp; omega)
            have q7 : size - live - res (L'.set j { s with w := false }) = size - live - rr - s.b := by rw [HR2.out]; omega
            refine ⟨A6, c6, o ++ [s.id], L'.set j { s with w := false }, j + 1, by simp, by go_num, rfl, by omega, by rw [List.length_set]; exact HL.out, by simp; omega, HWF2.out, ?_, HG7.out, HF7.out, ?_, ?_⟩
            · rw [List.length_append]
              exact HO6.out.ext fun i hi => by
                unfold catV
                by_cases h : i < o.length
                · rw [if_pos h]; simp [List.getD, List.getElem?_append_left h]
                · obtain rfl : i = o.length := by omega
                  rw [if_neg h]; simp [List.getD]
            · rw [q5, q6, q7, List.append_assoc]; exact q1
            · rw [q5, q7, List.append_assoc]; exact q2
    · obtain rfl : j = L.length := by omega
      go_wp2_with fail
      go_ret
      obtain ⟨q1, q2⟩ := HE.out
      have hl := HL.out
      rw [List.take_of_length_le (by omega), List.drop_of_length_le (by omega)] at q1
      rw [List.drop_of_length_le (by omega)] at q2
      have q5 : (adm (size - live - res L) L).1 = L' := by rw [← q1]; simp [adm]
      have q6 : (adm (size - live - res L) L).2 = o := by rw [← q2]; simp [adm]
      unfold admit
      rw [q5, q6]
      exact ⟨O, co, by first | rfl | simp, HO.out, HG.out, HF.out⟩
end Go.Proofs.Ytliliimdkkaocaa
