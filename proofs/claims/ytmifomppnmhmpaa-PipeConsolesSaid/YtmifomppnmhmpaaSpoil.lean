import Derived.Test.YtmifomppnmhmpaaTakes
/- The reference's Read; spoils. -/
namespace Go.Proofs.Ytmifomppnmhmpaa
open Go.RowKit
set_option linter.unusedVariables false
set_option linter.unusedSimpArgs false
attribute [local go_sem] szIs_lit row_at row_past row_alloc nf_alloc row_set nf_set row_cell nf_cell row_drew nf_drew row_drewN nf_drewN cell_setRow frozen_setRow nlt1 nlt2 nlt3 nlt4 nne1 nne2 nne3 nen1 nen2 nen3
attribute [local go_sem] rg_setf rg_setn rg_setm

theorem rread_a (x n c : Nat) (A : Option Addr) (r s : Int) (w : World) (h : Blk w x (rp A n c r s)) (Q : Nat → Int) (base : Nat) (hO : Own w base 5 A n c (fun i => .int .u8 (Q i))) (hby : n ≤ 140737488355328) (hn : 0 < n) (C : Nat) (hN : 0 < C) (hc : C ≤ n) :
    Calls Try.prog 33 #[.pointer (some ⟨x, 0, none⟩), .int .i64 (C : Nat)] w fun e w' => ∃ A1 c1 A2 c2, e = .returned (.tuple #[.slice A1 C c1, .int .i64 0]) ∧ Own w' w.heap.size 5 A1 C c1 (fun i => .int .u8 (Q i)) ∧ Own w' w.heap.size 5 A2 (n - C) c2 (fun i => .int .u8 (Q (C + i))) ∧ Blk w' x (rp A2 (n - C) c2 r s) ∧ w.grownBy w' (some x) := by
  have hnc : n ≤ c := hO.le.1
  have hcm : c ≤ 9223372036854775807 := hO.le.2
  have HR := Lib.hid (show RdV w A n (fun i => .int .u8 (Q i)) from fun hn => by
    obtain ⟨g, e, hc⟩ := hO.cells hn
    exact ⟨_, e, fun i hi => ⟨hc i hi, rfl⟩⟩)
  obtain ⟨gr, gn, gc, gf⟩ := h.all
  have c0 := (gc 0).trans (show _ = some (.slice A n c) from rfl)
  have hxl := h.lt
  have n0 : (((C : Nat) : Int) == 0) = false := beq_eq_false_iff_ne.2 (by omega)
  have n1 : ((n : Int) == 0) = false := beq_eq_false_iff_ne.2 (by omega)
  have n2 : ¬ (((C : Nat) : Int) < 0) := by omega
  have HB := Lib.hid h
  have HT := Lib.hid (takes_a A n c C Q w hc hnc hcm hby HR.out)
  clear gc gr gn gf h hO
  go_enter Try.func33, Try.ntmps33
  go_wp2_with fail
  refine (HT.out).mono ?_
  rintro e w5 ⟨A1, c1, A2, c2, rfl, hO1, hO2, hB⟩
  have hb5 := HB.out.below hB hxl
  obtain ⟨gr, gn, gc, gf⟩ := hb5.all
  have f0 := gf 0
  have c5 := (gc 0).trans (show _ = some (.slice A n c) from rfl)
  have HB5 := Lib.hid hb5
  have HO1 := Lib.hid hO1
  have HO2 := Lib.hid hO2
  have HBW := Lib.hid hB
  have HNE := Lib.hid (show ∀ k, w.heap.size ≤ k → k ≠ x from fun k hk e => by omega)
  clear hb5 hO1 hO2 hB gr gn gc gf
  go_wp2
  go_ret2
  have hset : ∀ v, ∀ k, k ≠ x → (w5.setCell ⟨x, 0, none⟩ v).heap[k]? = w5.heap[k]? := fun v k hk => heap_setCell_other w5 ⟨x, 0, none⟩ k v hk
  exact ⟨A1, c1, A2, c2, by simp, HO1.out.heap fun k hk => hset _ k (HNE.out k (HO1.out.lt k hk).1), HO2.out.heap fun k hk => hset _ k (HNE.out k (HO2.out.lt k hk).1), HB5.out.put 0 _,
    below_only_r HBW.out (only_cell (only_refl w5 x) 0 _)⟩
theorem rread_b (x n c : Nat) (A : Option Addr) (r s : Int) (w : World) (h : Blk w x (rp A n c r s)) (Q : Nat → Int) (base : Nat) (hO : Own w base 5 A n c (fun i => .int .u8 (Q i))) (hby : n ≤ 140737488355328) (hn : 0 < n) (N : Int) (hc : (n : Int) < N) :
    Calls Try.prog 33 #[.pointer (some ⟨x, 0, none⟩), .int .i64 N] w fun e w' => ∃ A1 c1 A2 c2, e = .returned (.tuple #[.slice A1 n c1, .int .i64 0]) ∧ Own w' w.heap.size 5 A1 n c1 (fun i => .int .u8 (Q i)) ∧ Own w' w.heap.size 5 A2 (n - n) c2 (fun i => .int .u8 (Q (n + i))) ∧ Blk w' x (rp A2 (n - n) c2 r s) ∧ w.grownBy w' (some x) := by
  have hnc : n ≤ c := hO.le.1
  have hcm : c ≤ 9223372036854775807 := hO.le.2
  have HR := Lib.hid (show RdV w A n (fun i => .int .u8 (Q i)) from fun hn => by
    obtain ⟨g, e, hc⟩ := hO.cells hn
    exact ⟨_, e, fun i hi => ⟨hc i hi, rfl⟩⟩)
  obtain ⟨gr, gn, gc, gf⟩ := h.all
  have c0 := (gc 0).trans (show _ = some (.slice A n c) from rfl)
  have hxl := h.lt
  have n0 : ((N : Int) == 0) = false := beq_eq_false_iff_ne.2 (by omega)
  have n1 : ((n : Int) == 0) = false := beq_eq_false_iff_ne.2 (by omega)
  have n2 : ¬ ((N : Int) < 0) := by omega
  have HB := Lib.hid h
  have HT := Lib.hid (takes_b A n c N Q w hc hnc hcm hby HR.out)
  clear gc gr gn gf h hO
  go_enter Try.func33, Try.ntmps33
  go_wp2_with fail
  refine (HT.out).mono ?_
  rintro e w5 ⟨A1, c1, A2, c2, rfl, hO1, hO2, hB⟩
  have hb5 := HB.out.below hB hxl
  obtain ⟨gr, gn, gc, gf⟩ := hb5.all
  have f0 := gf 0
  have c5 := (gc 0).trans (show _ = some (.slice A n c) from rfl)
  have HB5 := Lib.hid hb5
  have HO1 := Lib.hid hO1
  have HO2 := Lib.hid hO2
  have HBW := Lib.hid hB
  have HNE := Lib.hid (show ∀ k, w.heap.size ≤ k → k ≠ x from fun k hk e => by omega)
  clear hb5 hO1 hO2 hB gr gn gc gf
  go_wp2
  go_ret2
  have hset : ∀ v, ∀ k, k ≠ x → (w5.setCell ⟨x, 0, none⟩ v).heap[k]? = w5.heap[k]? := fun v k hk => heap_setCell_other w5 ⟨x, 0, none⟩ k v hk
  exact ⟨A1, c1, A2, c2, by simp, HO1.out.heap fun k hk => hset _ k (HNE.out k (HO1.out.lt k hk).1), HO2.out.heap fun k hk => hset _ k (HNE.out k (HO2.out.lt k hk).1), (by rw [Nat.sub_self]; exact HB5.out.put 0 _),
    below_only_r HBW.out (only_cell (only_refl w5 x) 0 _)⟩
set_option maxHeartbeats 1000000 in
theorem spoils_ok (A : Option Addr) (n c : Nat) (w : World) (hm : n ≤ 9223372036854775807) (h : 0 < n → ∃ g cur, A = some ⟨g, 0, none⟩ ∧ Blk w g cur ∧ ∀ i, i < n → ∃ v, cur[i]? = some (.int .u8 v)) :
    Calls Try.prog 34 #[.slice A n c] w fun e w' => e = .returned (.tuple #[]) ∧ w.grownBy w' (inB A) ∧ w'.heap.size = w.heap.size := by
  rcases Nat.eq_zero_or_pos n with rfl | hn
  · clear h
    go_enter Try.func34, Try.ntmps34
    go_wp2_with fail
    go_loopg [2] 0 (fun k i wr => i = .int .i64 0 ∧ wr = w)
    case atStart => exact ⟨rfl, rfl⟩
    case round =>
      obtain ⟨rfl, rfl⟩ := hrel
      go_wp2
      go_end0
      exact ⟨rfl, ⟨rfl, rfl, rfl, Nat.le_refl _, fun _ _ _ => rfl⟩, rfl⟩
  · obtain ⟨g, cur, rfl, hb, hv⟩ := h hn
    have HB := Lib.hid hb
    have HV := Lib.hid hv
    clear h hb hv
    go_enter Try.func34, Try.ntmps34
    go_wp2_with fail
    go_loopg [2] n (fun k i wr => ∃ (j : Nat) (d : Array Value), i = .int .i64 (j : Int) ∧ k = n - j ∧ j ≤ n ∧ Blk wr g d ∧ (∀ i, i < n → ∃ v, d[i]? = some (.int .u8 v)) ∧ w.grownBy wr (some g) ∧ wr.heap.size = w.heap.size)
    case atStart => exact ⟨0, cur, rfl, rfl, by omega, HB.out, HV.out, only_refl w g, rfl⟩
    case round =>
      obtain ⟨j, d, rfl, hk, hj, hb, hv, hg, hs⟩ := hrel
      have HK := Lib.hid hk
      have HG := Lib.hid hg
      have HS := Lib.hid hs
      have HV2 := Lib.hid hv
      have HB2 := Lib.hid hb
      by_cases hlt : j < n
      · obtain ⟨v, hv⟩ := hv j hlt
        obtain ⟨gr, gn, gc, gf⟩ := hb.all
        have cj := (gc j).trans hv
        have fj := gf j
        clear gr gn gc gf hk hg hs hb hv
        go_wp2
        go_roundg (n - (j + 1))
        case measure => have := HK.out; omega
        case rel =>
          exact ⟨j + 1, d.setIfInBounds j _, by go_num, rfl, by omega, HB2.out.put j _, fun i hi => by
            rw [Array.getElem?_setIfInBounds]
            by_cases e : j = i
            · subst e
              obtain ⟨u, hu⟩ := HV2.out j hi
              rw [if_pos rfl, if_pos (Array.getElem?_eq_some_iff.1 hu).1]; exact ⟨_, rfl⟩
            · rw [if_neg e]; exact HV2.out i hi, only_cell HG.out _ _, by have := HS.out; simpa using this⟩
      · obtain rfl : j = n := by omega
        clear hk hg hs hb hv
        go_wp2
        go_end0
        exact ⟨rfl, HG.out, HS.out⟩
end Go.Proofs.Ytmifomppnmhmpaa
