import Derived.Test.YtliliimdkkaocaaLook
import Derived.Deep.RegionHeld3
import Derived.Deep.RegionWith
import Derived.IntWalk
/- admit: those who fit are let in. -/
namespace Go.Proofs.Ytliliimdkkaocaa
open Go.RowKit
set_option linter.unusedVariables false
set_option linter.unusedSimpArgs false
attribute [local go_sem] szIs_lit row_at row_past row_alloc nf_alloc row_set nf_set row_cell nf_cell row_drew nf_drew row_drewN nf_drewN cell_setRow frozen_setRow nlt1 nlt2 nlt3 nlt4 nne1 nne2 nne3 nen1 nen2 nen3
theorem adm_len (f : Int) (L : List Seat) : (adm f L).1.length = L.length := by
  induction L generalizing f with
  | nil => rfl
  | cons s r ih =>
    unfold adm
    split
    · simp [ih]
    · split
      · rfl
      · simp [ih]
theorem adm_in (f : Int) (s : Seat) (r : List Seat) (h : s.w = false) : adm f (s :: r) = (s :: (adm f r).1, (adm f r).2) := by
  rw [adm, if_pos h]
theorem adm_stop (f : Int) (s : Seat) (r : List Seat) (h : s.w = true) (hf : f < s.b) : adm f (s :: r) = (s :: r, []) := by
  rw [adm, if_neg (by rw [h]; decide), if_pos hf]
theorem adm_let (f : Int) (s : Seat) (r : List Seat) (h : s.w = true) (hf : ¬ f < s.b) : adm f (s :: r) = ({ s with w := false } :: (adm (f - s.b) r).1, s.id :: (adm (f - s.b) r).2) := by
  rw [adm, if_neg (by rw [h]; decide), if_neg hf]
theorem ty29 : Try.prog.underlying 29 = some (.slice 3) := by kernel_rfl
theorem i3 : (Try.prog.info? 3).map (fun i => (i.zero, i.size, i.bytes)) = some (some (.int .i64 0), 1, 8) := by kernel_rfl
theorem GateA.put {w : World} {base g b c : Nat} {size live : Int} {L : List Seat} (h : GateA w base g (some ⟨b, 0, none⟩) c size live L) {i j : Nat} {s s' : Seat} {u : Value} (hi : L[i]? = some s) (hj : j < 4) (hu : s'.cs = s.cs.set j u) :
    GateA (w.setCell ⟨b, i * 4 + j, none⟩ u) base g (some ⟨b, 0, none⟩) c size live (L.set i s') ∧ FrG w (w.setCell ⟨b, i * 4 + j, none⟩ u) g (some ⟨b, 0, none⟩) (some ⟨b, 0, none⟩) := by
  have hst : ∀ k, k ≠ b → (w.setCell ⟨b, i * 4 + j, none⟩ u).heap[k]? = w.heap[k]? := fun k hk => heap_setCell_other w ⟨b, i * 4 + j, none⟩ k u hk
  have hgb : g ≠ b := fun e => h.ag (by rw [e]; rfl)
  have e := hst g hgb
  refine ⟨⟨⟨?_, (nf_heap e).trans h.blk.2⟩, h.seats.put hi hj hu, h.base, h.ag⟩, ⟨rfl, rfl, rfl, by simp, fun k hk hf => hst k (fun e => hf (.inr (by rw [e]; rfl))), fun k hk => .inl hk⟩⟩
  rw [List.length_set]
  exact (row_heap e).trans h.blk.1
set_option maxRecDepth 100000 in
set_option maxHeartbeats 2000000 in
theorem admit_ok (base g c : Nat) (A : Option Addr) (size live : Int) (L : List Seat) (w : World) (h : GateA w base g A c size live L) (hw : WF size live L) (hb : base ≤ w.heap.size) : Calls Try.prog 25 #[.pointer (some ⟨g, 0, none⟩)] w fun e w' => ∃ O co, e = .returned (.slice O (admit size live L).2.length co) ∧ Own w' w.heap.size 3 O (admit size live L).2.length co (fun i => .int .i64 ((admit size live L).2.getD i 0)) ∧ GateA w' base g A c size live (admit size live L).1 ∧ FrG w w' g A A := by
  have HR := Lib.hid (reserved_ok base g c A size live L w h hw)
  have hlen := hw.len
  have h1 := hw.s1
  have h2 := hw.s2
  have h3 := hw.l0
  have h4 := hw.fit
  have h5 := res_nonneg L (fun s hs => (hw.b s hs).1)
  have HW := Lib.hid hw
  clear hw
  obtain ⟨gr, gn, gc, gf⟩ := h.blk.all
  have cs := (gc 0).trans (show _ = some (.int .i64 size) from rfl)
  have cl := (gc 1).trans (show _ = some (.int .i64 live) from rfl)
  have cq := (gc 2).trans (show _ = some (.slice A L.length c) from rfl)
  have HH := Lib.hid h
  clear gr gn gc gf h
  have hx1 : IntKind.i64.wrap (size - live) = size - live := IntWalk.i64_in _ (by omega)
  have hx2 : IntKind.i64.wrap (size - live - res L) = size - live - res L := IntWalk.i64_in _ (by omega)
  go_enter Try.func25, Try.ntmps25
  go_wp2_with fail
  go_step3
  go_wp2_with fail
  go_region_held3 (fun w' => w'.cell? ⟨g, 0, none⟩ = some (.int .i64 size) ∧ w'.cell? ⟨g, 1, none⟩ = some (.int .i64 live)) (go_keep)
    ((go_at_call 28; go_must (refine (reserved_ok base g c A size live L _ ?_ HW.out).mono ?_; (focus (exact HH.out.drew)); rintro e w5 ⟨rfl, hB⟩; have HB5 := Lib.hid hB; have c0 := (hB.cell (p := ⟨g, 0, none⟩) HH.out.blk.lt).trans cs; have c1 := (hB.cell (p := ⟨g, 1, none⟩) HH.out.blk.lt).trans cl; clear hB)))
  clear hx1 hx2
  have hB5 : Below w.heap.size w w5 := ⟨HB5.out.os, HB5.out.tape, HB5.out.output, HB5.out.size, HB5.out.block⟩
  have HG5 := Lib.hid (HH.out.below hB5)
  have HF5 := Lib.hid (FrG.of_below g A hB5)
  have c2 := (hB5.cell (p := ⟨g, 2, none⟩) HH.out.blk.lt).trans cq
  have hbs : ∀ s ∈ L, 0 ≤ s.b ∧ s.b ≤ size := fun s hs => ⟨(HW.out.b s hs).1, (HW.out.b s hs).2.1⟩
  have HBS := Lib.hid hbs
  have HN0 := Lib.hid (show ∀ k, foot g A k → k < w.heap.size from fun k hk => (HH.out.foot_lt hk).2)
  have hgl := HH.out.blk.lt
  clear HB5 hB5 hbs
  go_wp2_with fail
  (try go_step3)
  go_wp2_with fail
  go_loopg [3, 4, 24] L.length (fun k in_ fr i_ wr => ∃ (O : Option Addr) (co : Nat) (o : List Int) (f : Int) (L' : List Seat) (j : Nat), in_ = .slice O o.length co ∧ fr = .int .i64 f ∧ i_ = .int .i64 (j : Int) ∧ k = L.length - j ∧ j ≤ L.length ∧ L'.length = L.length ∧ o.length ≤ j ∧ 0 ≤ f ∧ f ≤ size ∧ (∀ s ∈ L', 0 ≤ s.b ∧ s.b ≤ size) ∧
    Own wr w.heap.size 3 O o.length co (fun i => .int .i64 (o.getD i 0)) ∧ GateA wr base g A c size live L' ∧ FrG w wr g A A ∧ L'.take j ++ (adm f (L'.drop j)).1 = (adm (size - live - res L) L).1 ∧ o ++ (adm f (L'.drop j)).2 = (adm (size - live - res L) L).2)
  case atStart => exact ⟨none, 0, [], size - live - res L, L, 0, rfl, rfl, rfl, rfl, by omega, rfl, by simp, by omega, by omega, HBS.out, Own.nil _ _ _ _, HG5.out, HF5.out, by simp, by simp⟩
  case round =>
    obtain ⟨O, co, o, f, L', j, rfl, rfl, rfl, hk, hj, hl, ho, hf0, hf1, hbs, hO, hG, hF, e1, e2⟩ := hrel
    have HK := Lib.hid hk
    have HL := Lib.hid hl
    have HBS2 := Lib.hid hbs
    have HO := Lib.hid hO
    have HG := Lib.hid hG
    have HF := Lib.hid hF
    have HE := Lib.hid (And.intro e1 e2)
    clear hk hl hbs hO hG hF e1 e2 c2
    have cq5 := (HG.out.blk.all.2.2.1 2).trans (show _ = some (.slice A L'.length c) from rfl)
    rw [HL.out] at cq5
    by_cases hlt : j < L.length
    · obtain ⟨s, hs⟩ : ∃ s, L'[j]? = some s := ⟨_, List.getElem?_eq_getElem (by rw [HL.out]; exact hlt)⟩
      have HS := Lib.hid hs
      have hdrop : L'.drop j = s :: L'.drop (j + 1) := by
        have hi := (List.getElem?_eq_some_iff.1 hs).1
        rw [List.drop_eq_getElem_cons hi]
        congr 1
        have := List.getElem?_eq_getElem hi
        rw [hs] at this; injection this with this; exact this.symm
      have htake : L'.take (j + 1) = L'.take j ++ [s] := by rw [List.take_add_one, hs]; rfl
      have HD := Lib.hid (And.intro hdrop htake)
      obtain ⟨b, hA, hbb, hbl, hfz, e0, e1, e2, e3⟩ := HG.out.seats.at_ hs
      obtain ⟨b1, b2⟩ := HBS2.out s (List.mem_of_getElem? hs)
      subst hA
      clear hs hdrop htake
      have fz := hfz (j * 4 + 3)
      have FZ := Lib.hid hfz
      clear hfz
      cases hsw : s.w
      · rw [hsw] at e3
        have HSW := Lib.hid hsw
        clear hsw
        go_wp2_with fail
        go_roundg (L.length - (j + 1))
        case measure => have := HK.out; omega
        case rel =>
          obtain ⟨q1, q2⟩ := HE.out
          obtain ⟨q3, q4⟩ := HD.out
          rw [q3, adm_in f s _ HSW.out] at q1 q2
          exact ⟨O, co, o, f, L', j + 1, rfl, rfl, by go_num, rfl, by omega, HL.out, by omega, hf0, hf1, HBS2.out, HO.out, HG.out, HF.out, by rw [q4, List.append_assoc]; exact q1, q2⟩
      · rw [hsw] at e3
        have HSW := Lib.hid hsw
        clear hsw
        by_cases hfit : f < s.b
        · go_wp2_with fail
          (try rw [Exit.noGoto_ret])
          go_ret
          obtain ⟨q1, q2⟩ := HE.out
          obtain ⟨q3, q4⟩ := HD.out
          rw [q3, adm_stop f s _ HSW.out hfit] at q1 q2
          have q5 : (adm (size - live - res L) L).1 = L' := by rw [← q1, ← q3, List.take_append_drop]
          have q6 : (adm (size - live - res L) L).2 = o := by rw [← q2]; simp
          unfold admit
          rw [q5, q6]
          exact ⟨O, co, by first | rfl | simp, HO.out, HG.out, HF.out⟩
        · have HP := Lib.hid (HG.out.put (j := 3) (s' := { s with w := false }) (u := .bool false) HS.out (by omega) rfl)
          have hz5 := HF.out.size
          have hbw : b < w.heap.size := HN0.out b (.inr rfl)
          have HO1 := Lib.hid ((HO.out.heap (w' := wr.setCell ⟨b, j * 4 + 3, none⟩ (.bool false)) fun k e => heap_setCell_other wr ⟨b, j * 4 + 3, none⟩ k _ (fun (e2 : k = b) => by have := (HO.out.lt k e).1; omega)))
          have HL1 := Lib.hid (show o.length + 1 ≤ maxLen by unfold maxLen; omega)
          have HL2 := Lib.hid (show (o.length + 1) * 8 ≤ 140737488355328 by omega)
          go_wp2_with (at_builtin; go_must (refine wpList_app rfl (.tmp 42) (.tmp 47) 29 3 rfl (.int .i64 0) 8 ty29 i3 rfl w.heap.size _ _ _ rfl _ _ _ rfl (fun i => .int .i64 (o.getD i 0)) (HO1.out.kept (World.grownBy_alloc _ _ none) (by intro k _ e; cases e)) (fun _ => .int .i64 s.id) ?_ HL1.out HL2.out (by simp; omega) ?_; (focus (intro _; exact ⟨_, rfl, fun i hi => by obtain rfl : i = 0 := (by omega); exact ⟨(cell_of_row _ _ 0 _ _ _ (heap_at (by simp))).trans rfl, rfl⟩⟩)); intro A6 c6 w6 hO6 hg6 hb6; have HO6 := Lib.hid hO6; have HG6 := Lib.hid hg6; have HB6 := Lib.hid hb6; clear hO6 hg6 hb6))
          have hno : ∀ k, foot g (some ⟨b, 0, none⟩) k → some k ≠ inB O := fun k hk e => by
            have := HN0.out k hk
            have := (HO.out.lt k e.symm).1
            omega
          have hblk6 : ∀ k, k < wr.heap.size → some k ≠ inB O → w6.heap[k]? = (wr.setCell ⟨b, j * 4 + 3, none⟩ (.bool false)).heap[k]? := fun k hk e => (HG6.out.block k (by simp; omega) e).trans (heap_past (by simpa using hk))
          have HG7 := Lib.hid (HP.out.1.kept (w' := w6) fun k hk => hblk6 k (by have := HN0.out k hk; omega) (hno k hk))
          have HF7 := Lib.hid (show FrG w w6 g (some ⟨b, 0, none⟩) (some ⟨b, 0, none⟩) from ⟨HG6.out.os.trans HF.out.os, HG6.out.tape.trans HF.out.tape, HG6.out.output.trans HF.out.output, by have := HG6.out.size; simp at this; omega, fun k hk hf => (hblk6 k (by omega) (fun e => by have := (HO.out.lt k e.symm).1; omega)).trans ((HP.out.2.block k (by omega) hf).trans (HF.out.block k hk hf)), fun k hk => .inl hk⟩)
          clear hno hblk6
          go_wp2_with fail
          go_roundg (L.length - (j + 1))
          case measure => have := HK.out; omega
          case rel =>
            obtain ⟨q1, q2⟩ := HE.out
            obtain ⟨q3, q4⟩ := HD.out
            rw [q3, adm_let f s _ HSW.out (by omega)] at q1 q2
            have q5 : (L'.set j { s with w := false }).drop (j + 1) = L'.drop (j + 1) := by rw [List.drop_set, if_pos (by omega)]
            have q6 : (L'.set j { s with w := false }).take (j + 1) = L'.take j ++ [{ s with w := false }] := by
              rw [List.take_add_one, List.take_set, List.getElem?_set, if_pos rfl]
              have := HL.out
              simp [show j < L'.length by omega]
              exact List.set_eq_of_length_le (by simp; omega)
            refine ⟨A6, c6, o ++ [s.id], f - s.b, L'.set j { s with w := false }, j + 1, by simp, rfl, by go_num, rfl, by omega, by rw [List.length_set]; exact HL.out, by simp; omega, by omega, by omega, ?_, ?_, HG7.out, HF7.out, ?_, ?_⟩
            · intro y hy
              rcases List.mem_or_eq_of_mem_set hy with hy | rfl
              · exact HBS2.out y hy
              · exact ⟨b1, b2⟩
            · rw [List.length_append]
              exact HO6.out.ext fun i hi => by
                unfold catV
                by_cases h : i < o.length
                · rw [if_pos h]; simp [List.getD, List.getElem?_append_left h]
                · obtain rfl : i = o.length := by omega
                  rw [if_neg h]; simp [List.getD]
            · rw [q5, q6, List.append_assoc]; exact q1
            · rw [q5, List.append_assoc]; exact q2
    · obtain rfl : j = L.length := by omega
      go_wp2_with fail
      (try rw [Exit.noGoto_ret])
      go_ret
      obtain ⟨q1, q2⟩ := HE.out
      have hl := HL.out
      rw [List.take_of_length_le (by omega), List.drop_of_length_le (by omega)] at q1
      rw [List.drop_of_length_le (by omega)] at q2
      have q5 : (adm (size - live - res L) L).1 = L' := by rw [← q1]; simp [adm]
      have q6 : (adm (size - live - res L) L).2 = o := by rw [← q2]; simp [adm]
      unfold admit
      rw [q5, q6]
      exact ⟨O, co, by first | rfl | simp, HO.out, HG.out, HF.out⟩
end Go.Proofs.Ytliliimdkkaocaa
