import Derived.Test.YtliliimdkkaocaaRefEnter
import Derived.Deep.RegionLaw
/- The reference: Leave, Give. -/
namespace Go.Proofs.Ytliliimdkkaocaa
open Go.RowKit
set_option linter.unusedVariables false
set_option linter.unusedSimpArgs false
attribute [local go_sem] szIs_lit row_at row_past row_alloc nf_alloc row_set nf_set row_cell nf_cell row_drew nf_drew row_drewN nf_drewN cell_setRow frozen_setRow nlt1 nlt2 nlt3 nlt4 nne1 nne2 nne3 nen1 nen2 nen3

-- RLEAVE
theorem SeatsAt.lower {w : World} {base base' c : Nat} {A : Option Addr} {L : List Seat} (h : SeatsAt w base A c L) (hb : base' ≤ base) : SeatsAt w base' A c L :=
  ⟨h.1, h.2.imp (fun h => h) fun ⟨a, b, c, d, e, f⟩ => ⟨a, b, c, d, by omega, f⟩⟩
theorem step_appS {ops : Array Oper} {Q : Exit → Act → World → Prop} {o : Oper} {a : Act} {w : World} {K : Act → World → Prop} {E : Prop} (hgd : o.guard = none) (s x : Operand) (ho : o.op = .call { callee := .builtin .append, args := #[s, x], argTypes := #[36, 36] })
    (base c n m c' : Nat) (A : Option Addr) (L T : List Seat) (A' : Option Addr) (hs : a.eval s = .slice A n c) (hx : a.eval x = .slice A' m c') (hn : L.length = n) (hm : T.length = m) (h : SeatsAt w base A c L)
    (hA' : A'.isSome = true) (hr : ∀ ad, A' = some ad → ∀ j u, (flat T)[j]? = some u → w.cell? (ad.add j) = some u) (hlen : L.length + T.length ≤ 1000) (hb : base ≤ w.heap.size)
    (hK : ∀ A2 c2 w', SeatsAt w' base A2 c2 (L ++ T) → w.grownBy w' (inB A) → (inB A2 = inB A ∨ inB A2 = some w.heap.size) → K (a.put o.dst (.slice A2 (n + m) c2)) w') :
    if Region.wanted o (yielded ops a.tmps) = true then Oper.wp Try.prog o a w K Q else E := by
  have hw : Region.wanted o (yielded ops a.tmps) = true := by simp [Region.wanted, hgd]
  rw [if_pos hw]
  subst hn hm
  obtain ⟨ad, rfl⟩ := Option.isSome_iff_exists.1 hA'
  obtain ⟨A2, c2, w', hrun, h1, h2, h3⟩ := app_seats h o.type ad T c' (hr ad rfl) hlen hb
  rw [List.length_append] at hrun
  unfold Oper.wp
  simp [execOp, ho, resolve, invoke, builtin, hs, hx, hrun, Result.andThen]
  exact hK A2 c2 w' h1 h2 h3
theorem rleave_no (base g c : Nat) (A : Option Addr) (size live : Int) (L : List Seat) (w : World) (h : GateA w base g A c size live L) (id : Int) (hlen : L.length ≤ 64) (hk : findI L id < 0) : Calls Try.prog 33 #[.pointer (some ⟨g, 0, none⟩), .int .i64 id] w fun e w' => e = .returned (.tuple #[.slice none 0 0, .int .i64 4]) ∧ Below w.heap.size w w' := by
  have HF := Lib.hid (rfind_ok base g c A size live L w h id hlen)
  have hbl := h.blk.lt
  clear h
  go_enter Try.func33, Try.ntmps33
  go_wp2_with fail
  refine HF.out.mono ?_
  rintro e w1 ⟨rfl, hB⟩
  have HB := Lib.hid hB
  clear hB
  go_wp2
  go_ret2
  exact ⟨by simp, HB.out⟩
set_option maxHeartbeats 2000000 in
theorem rleave_in (base g c : Nat) (A : Option Addr) (size live : Int) (L : List Seat) (w : World) (h : GateA w base g A c size live L) (hw : WF size live L) (hb : base ≤ w.heap.size) (id : Int) (i : Nat) (hi : findI L id = i) : Calls Try.prog 33 #[.pointer (some ⟨g, 0, none⟩), .int .i64 id] w fun e w' => ∃ A' c' O co, e = .returned (.tuple #[.slice O (admit size live (L.eraseIdx i)).2.length co, .int .i64 0]) ∧ Own w' w.heap.size 3 O (admit size live (L.eraseIdx i)).2.length co (fun j => .int .i64 ((admit size live (L.eraseIdx i)).2.getD j 0)) ∧ GateA w' base g A' c' size live (admit size live (L.eraseIdx i)).1 ∧ FrG w w' g A A' := by
  have HF := Lib.hid (rfind_ok base g c A size live L w h id hw.len)
  rw [hi] at HF
  have hir := (findI_range L id).2
  rw [hi] at hir
  have HW := Lib.hid (hw.erase i)
  have h64 := hw.len
  obtain ⟨gr, gn, gc, gf⟩ := h.blk.all
  have cs := (gc 0).trans (show _ = some (.int .i64 size) from rfl)
  have cl := (gc 1).trans (show _ = some (.int .i64 live) from rfl)
  have cq := (gc 2).trans (show _ = some (.slice A L.length c) from rfl)
  have HH := Lib.hid h
  have hbl := h.blk.lt
  have HB1 := Lib.hid h.blk
  have HAG := Lib.hid h.ag

  clear gr gn gc gf h hw hi
  go_enter Try.func33, Try.ntmps33
  go_wp2_with fail
  refine HF.out.mono ?_
  rintro e w1 ⟨rfl, hB⟩
  have HB := Lib.hid hB
  have HG := Lib.hid (HH.out.below hB)
  have c2 := (hB.cell (p := ⟨g, 2, none⟩) hbl).trans cq
  have hsz := hB.size
  obtain ⟨b, hA, hbb, hblb, _⟩ := HG.out.seats.some_ (by omega)
  subst hA
  obtain ⟨m, hN⟩ : ∃ m, L.length = i + 1 + m := ⟨L.length - (i + 1), by omega⟩
  have hgb : g ≠ b := fun e => HAG.out (by rw [e]; rfl)
  have HN := Lib.hid hN
  have hi1 : i + 1 ≤ L.length := by omega
  have hcl := HG.out.seats.le.1
  have hic : i ≤ c := by omega
  have cA := cut36h ⟨b, 0, none⟩ L.length c i (by omega)
  obtain ⟨A2, cB, hA2, hA3⟩ := cut36l b L.length c (i + 1) (by omega)
  have cB : ∀ w : World, (Instr.slice 36 (.slice (some ⟨b, 0, none⟩) L.length c) (some (.int .i64 ((i : Int) + 1))) none none).run Try.prog w = .ok (.slice A2 m (c - (i + 1))) w := fun w => by
    have := cB w; rwa [show (((i + 1 : Nat) : Int)) = (i : Int) + 1 by omega, show L.length - (i + 1) = m by omega] at this
  have hx1 : IntKind.i64.wrap ((i : Int) + 1) = (i : Int) + 1 := IntWalk.i64_in _ (by omega)
  have hA2' : ∀ ad, A2 = some ad → 0 < m → ad = ⟨b, (i + 1) * 4, none⟩ := fun ad e hm => by
    have := hA2 (by omega) (by omega)
    rw [e] at this; injection this
  have HCELL := Lib.hid (fun j (hj : j < L.length * 4) => World.ownsRow.cellAt HG.out.seats j hj)
  have hgl1 : g < w1.heap.size := HG.out.blk.lt
  have hbl1 : b < w1.heap.size := hblb
  have h0 : SeatsAt (w1.alloc (.cells #[] 39)) w1.heap.size (some ⟨w1.heap.size, 0, none⟩) 0 [] := SeatsAt.of_row (cur := #[]) (Nat.le_refl _) (heap_alloc_new w1 _) (by simp) (by unfold maxLen; omega) rfl rfl
  have H0 := Lib.hid h0
  have HT1 := Lib.hid (show (L.take i).length = i by simp; omega)
  have HT2 := Lib.hid (show (L.drop (i + 1)).length = m by simp; omega)
  have HA3 := Lib.hid hA3
  have RD1 := Lib.hid (show ∀ w' : World, w'.heap[b]? = w1.heap[b]? → ∀ ad, (some ⟨b, 0, none⟩ : Option Addr) = some ad → ∀ j u, (flat (L.take i))[j]? = some u → w'.cell? (ad.add j) = some u from fun w' hw' ad e j u hu => by
    injection e with e
    subst e
    have hj : j < i * 4 := by have := (List.getElem?_eq_some_iff.1 hu).1; rwa [flat_len, HT1.out] at this
    have e2 : (⟨b, 0, none⟩ : Addr).add j = ⟨b, j, none⟩ := by unfold Addr.add; split <;> simp_all
    rw [e2, World.cell?_of_block (a := ⟨b, j, none⟩) hw', HCELL.out j (by omega), ← hu, ← flat_take, List.getElem?_take, if_pos hj])
  have RD2 := Lib.hid (show ∀ w' : World, w'.heap[b]? = w1.heap[b]? → ∀ ad, A2 = some ad → ∀ j u, (flat (L.drop (i + 1)))[j]? = some u → w'.cell? (ad.add j) = some u from fun w' hw' ad e j u hu => by
    have hj : j < m * 4 := by have := (List.getElem?_eq_some_iff.1 hu).1; rwa [flat_len, HT2.out] at this
    have e3 := hA2' ad e (by omega)
    subst e3
    have e2 : (⟨b, (i + 1) * 4, none⟩ : Addr).add j = ⟨b, (i + 1) * 4 + j, none⟩ := by unfold Addr.add; split <;> simp_all
    rw [e2, World.cell?_of_block (a := ⟨b, (i + 1) * 4 + j, none⟩) hw', HCELL.out ((i + 1) * 4 + j) (by omega), ← hu, ← flat_drop, List.getElem?_drop])
  have RG := Lib.hid (show ∀ w' : World, w'.heap[g]? = w1.heap[g]? → w'.cell? ⟨g, 2, none⟩ = some (.slice (some ⟨b, 0, none⟩) L.length c) ∧ w'.frozen? ⟨g, 2, none⟩ = false from fun w' hw' => ⟨(World.cell?_of_block (a := ⟨g, 2, none⟩) hw').trans c2, (World.frozen?_of_block (a := ⟨g, 2, none⟩) hw').trans (HG.out.blk.all.2.2.2 2)⟩)
  have HA2 := Lib.hid hA2'
  clear hB hN h0 hA2 hA2' hA3
  go_wp2_with fail
  go_region_law
    (first
      | (refine step_appS (by rfl) (.tmp 13) (.tmp 19) (by rfl) w1.heap.size 0 0 i c (some ⟨w1.heap.size, 0, none⟩) [] (L.take i) (some ⟨b, 0, none⟩) (by rfl) (by rfl) rfl HT1.out (H0.out.heap fun _ _ => rfl) rfl ?_ ?_ ?_ ?_; go_must ((focus (exact RD1.out _ (heap_past hbl1))); (focus (have := HT1.out; simp at *; omega)); (focus (simp)); intro A6 c6 w6 hS6 hG6 hb6; have HK6 := Lib.hid (show ∀ k, k < w1.heap.size → w6.heap[k]? = w1.heap[k]? from fun k hk => (hG6.block k (by (try simp); omega) (fun e => by have : k = w1.heap.size := Option.some.inj e; omega)).trans (heap_past hk)); have HS6 := Lib.hid hS6; have HG6 := Lib.hid hG6; have HB6 := Lib.hid hb6; have c26 := (RG.out w6 (HK6.out g hgl1)).1; clear hS6 hG6 hb6))
      | (refine step_appS (by rfl) (.tmp 20) (.tmp 27) (by rfl) w1.heap.size _ _ m (c - (i + 1)) _ ([] ++ L.take i) (L.drop (i + 1)) A2 (by rfl) (by rfl) (by have := HT1.out; simp at *; omega) HT2.out (HS6.out.heap fun _ _ => rfl) HA3.out ?_ ?_ ?_ ?_; go_must ((focus (exact RD2.out _ (HK6.out b hbl1))); (focus (have := HT1.out; have := HT2.out; simp at *; omega)); (focus (exact (show w1.heap.size ≤ w6.heap.size from by have := HG6.out.size; (try simp at this); omega))); intro A7 c7 w7 hS7 hG7 hb7; have hz6 : w1.heap.size ≤ w6.heap.size := (by have := HG6.out.size; (try simp at this); omega); have HK7 := Lib.hid (show ∀ k, k < w1.heap.size → w7.heap[k]? = w1.heap[k]? from fun k hk => (hG7.block k (Nat.lt_of_lt_of_le hk hz6) (fun e => HB6.out.elim (fun h => absurd (Option.some.inj (e.trans h) : k = w1.heap.size) (by omega)) (fun h => absurd (Option.some.inj (e.trans h)) (by show ¬ k = (w1.alloc (.cells #[] 39)).heap.size; simp; omega)))).trans (HK6.out k hk)); have HS7 := Lib.hid hS7; have HG7 := Lib.hid hG7; have HB7 := Lib.hid hb7; have c27 := (RG.out w7 (HK7.out g hgl1)).1; have f27 := (RG.out w7 (HK7.out g hgl1)).2; clear hS7 hG7 hb7))
      | fail)
  all_goals
    have hS8 := HS7.out
    rw [show ([] ++ L.take i ++ L.drop (i + 1)) = L.eraseIdx i by rw [List.nil_append, List.eraseIdx_eq_take_drop_succ]] at hS8
    have hl8 : (L.eraseIdx i).length = i + m := by rw [List.length_eraseIdx, if_pos (by omega)]; have := HN.out; omega
    have hz7 : w1.heap.size ≤ w7.heap.size := Nat.le_trans hz6 HG7.out.size
    obtain ⟨hG3, hF3⟩ := HG.out.regate (w2 := w7) ⟨HG7.out.os.trans HG6.out.os, HG7.out.tape.trans HG6.out.tape, HG7.out.output.trans HG6.out.output, hz7, fun k hk _ => HK7.out k hk⟩ (hS8.lower (by have := HG.out.seats.lt b rfl; omega)) (by
      rcases HB7.out with h | h
      · rcases HB6.out with h6 | h6
        · exact .inr ⟨w1.heap.size, h.trans h6, Nat.le_refl _⟩
        · exact .inr ⟨_, h.trans h6, by show w1.heap.size ≤ (w1.alloc (.cells #[] 39)).heap.size; simp⟩
      · exact .inr ⟨_, h, hz6⟩)
    rw [hl8] at hG3 hF3
    have HF3 := Lib.hid ((FrG.of_below g (some ⟨b, 0, none⟩) HB.out).trans hF3)
    have hA := rlets_ok base g c7 A7 size live _ _ hG3 HW.out (by have := hF3.size; have := HB.out.size; omega)
    have HA := Lib.hid hA
    have HZ := Lib.hid (Nat.le_trans HB.out.size hF3.size)
    clear hG3 hF3 hS8 hl8 hz7 hA cA cB hx1
    go_wp2_with fail
    refine HA.out.mono ?_
    rintro e w9 ⟨O, co, rfl, hO, hG4, hF4⟩
    have HO := Lib.hid hO
    have HG4 := Lib.hid hG4
    have HF4 := Lib.hid (HF3.out.trans hF4)
    clear hO hG4 hF4
    go_wp2
    go_ret2
    refine ⟨A7, c7, O, co, by simp, ?_, HG4.out, HF4.out⟩
    have := HZ.out
    exact HO.out.lower (by omega)
theorem rgive_no (base g c : Nat) (A : Option Addr) (size live : Int) (L : List Seat) (w : World) (h : GateA w base g A c size live L) (n : Int) (hk : n < 0 ∨ live < n) : Calls Try.prog 31 #[.pointer (some ⟨g, 0, none⟩), .int .i64 n] w fun e w' => e = .returned (.tuple #[.slice none 0 0, .int .i64 1]) ∧ w = w' := by
  obtain ⟨gr, gn, gc, gf⟩ := h.blk.all
  have cs := (gc 0).trans (show _ = some (.int .i64 size) from rfl)
  have cl := (gc 1).trans (show _ = some (.int .i64 live) from rfl)
  have cq := (gc 2).trans (show _ = some (.slice A L.length c) from rfl)
  have HH := Lib.hid h
  have hbl := h.blk.lt
  have HB1 := Lib.hid h.blk
  have HAG := Lib.hid h.ag

  clear gr gn gc gf h
  by_cases h1 : n < 0
  · clear hk
    go_enter Try.func31, Try.ntmps31
    go_wp2
    go_ret2
    exact ⟨by simp, rfl⟩
  · have h2 : live < n := by omega
    clear hk
    go_enter Try.func31, Try.ntmps31
    go_wp2
    go_ret2
    exact ⟨by simp, rfl⟩
set_option maxHeartbeats 2000000 in
theorem rgive_in (base g c : Nat) (A : Option Addr) (size live : Int) (L : List Seat) (w : World) (h : GateA w base g A c size live L) (hw : WF size live L) (hb : base ≤ w.heap.size) (n : Int) (h1 : ¬ n < 0) (h2 : ¬ live < n) : Calls Try.prog 31 #[.pointer (some ⟨g, 0, none⟩), .int .i64 n] w fun e w' => ∃ O co, e = .returned (.tuple #[.slice O (admit size (live - n) L).2.length co, .int .i64 0]) ∧ Own w' w.heap.size 3 O (admit size (live - n) L).2.length co (fun j => .int .i64 ((admit size (live - n) L).2.getD j 0)) ∧ GateA w' base g A c size (live - n) (admit size (live - n) L).1 ∧ FrG w w' g A A := by
  have HW := Lib.hid (hw.give n (by omega) (by omega))
  have h3 := hw.s2
  have h4 := hw.fit
  have h5 := res_nonneg L (fun s hs => (hw.b s hs).1)
  obtain ⟨gr, gn, gc, gf⟩ := h.blk.all
  have cs := (gc 0).trans (show _ = some (.int .i64 size) from rfl)
  have cl := (gc 1).trans (show _ = some (.int .i64 live) from rfl)
  have cq := (gc 2).trans (show _ = some (.slice A L.length c) from rfl)
  have HH := Lib.hid h
  have hbl := h.blk.lt
  have HB1 := Lib.hid h.blk
  have HAG := Lib.hid h.ag

  have f1 := gf 1
  have hlt : live ≤ 1073741824 := by omega
  obtain ⟨hG3, hF3⟩ := h.live (live - n)
  have HF3 := Lib.hid hF3
  have HA := Lib.hid (rlets_ok base g c A size (live - n) _ _ hG3 HW.out (by have := hF3.size; omega))
  clear gr gn gc gf h hw hG3 hF3 h3 h4 h5
  go_enter Try.func31, Try.ntmps31
  go_wp2_with fail
  refine HA.out.mono ?_
  rintro e w4 ⟨O, co, rfl, hO, hG4, hF4⟩
  have HO := Lib.hid hO
  have HG4 := Lib.hid hG4
  have HF4 := Lib.hid (HF3.out.trans hF4)
  clear hO hG4 hF4
  go_wp2
  go_ret2
  refine ⟨O, co, by simp, ?_, HG4.out, HF4.out⟩
  have := HF3.out.size
  exact HO.out.lower this
/-- Leave, whatever comes. -/
theorem rleave_ok (base g c : Nat) (A : Option Addr) (size live : Int) (L : List Seat) (w : World) (h : GateA w base g A c size live L) (hw : WF size live L) (hb : base ≤ w.heap.size) (id : Int) : Calls Try.prog 33 #[.pointer (some ⟨g, 0, none⟩), .int .i64 id] w fun e w' => ∃ A' c' O co, e = .returned (.tuple #[.slice O (lea size live L id).1.length co, .int .i64 (lea size live L id).2.1]) ∧ Own w' w.heap.size 3 O (lea size live L id).1.length co (fun j => .int .i64 ((lea size live L id).1.getD j 0)) ∧ GateA w' base g A' c' size live (lea size live L id).2.2 ∧ FrG w w' g A A' := by
  unfold lea
  by_cases h1 : findI L id < 0
  · rw [if_pos h1]
    exact (rleave_no base g c A size live L w h id hw.len h1).mono fun e w' q => ⟨A, c, none, 0, q.1, Own.nil _ _ _ _, h.below q.2, FrG.of_below g A q.2⟩
  · rw [if_neg h1]
    exact rleave_in base g c A size live L w h hw hb id (findI L id).toNat (by omega)
/-- Give, whatever comes. -/
theorem rgive_ok (base g c : Nat) (A : Option Addr) (size live : Int) (L : List Seat) (w : World) (h : GateA w base g A c size live L) (hw : WF size live L) (hb : base ≤ w.heap.size) (n : Int) : Calls Try.prog 31 #[.pointer (some ⟨g, 0, none⟩), .int .i64 n] w fun e w' => ∃ O co, e = .returned (.tuple #[.slice O (giv size live L n).1.length co, .int .i64 (giv size live L n).2.1]) ∧ Own w' w.heap.size 3 O (giv size live L n).1.length co (fun j => .int .i64 ((giv size live L n).1.getD j 0)) ∧ GateA w' base g A c size (giv size live L n).2.2.1 (giv size live L n).2.2.2 ∧ FrG w w' g A A := by
  unfold giv
  by_cases h1 : n < 0 ∨ live < n
  · rw [if_pos h1]
    exact (rgive_no base g c A size live L w h n h1).mono fun e w' q => ⟨none, 0, q.1, Own.nil _ _ _ _, by rw [← q.2]; exact h, by rw [← q.2]; exact FrG.refl _ _ _⟩
  · rw [if_neg h1]
    exact rgive_in base g c A size live L w h hw hb n (by omega) (by omega)
end Go.Proofs.Ytliliimdkkaocaa
