import Derived.Test.YtliliimdkkaocaaSeats
import Derived.Deep.LoopGhost
import Derived.Deep.Cut
import Derived.Deep.CutRange
import Derived.Deep.DeepMust
import Derived.Deep.QuietTactic
import Derived.BigQuiet
/- What only looks: reserved, find, Inside, Stalled; New. -/
namespace Go.Proofs.Ytliliimdkkaocaa
open Go.RowKit
set_option linter.unusedVariables false
set_option linter.unusedSimpArgs false
attribute [local go_sem] szIs_lit row_at row_past row_alloc nf_alloc row_set nf_set row_cell nf_cell row_drew nf_drew row_drewN nf_drewN cell_setRow frozen_setRow nlt1 nlt2 nlt3 nlt4 nne1 nne2 nne3 nen1 nen2 nen3
theorem new_bad (n : Int) (w : World) (hn : n < 1 ∨ 1073741824 < n) : Calls Try.prog 12 #[.int .i64 n] w fun e w' => e = .returned (.tuple #[.pointer none, .int .i64 1]) ∧ w = w' := by
  rcases hn with hn | hn
  · go_enter Try.func12, Try.ntmps12
    go_wp2
    go_ret2
    exact ⟨by simp, rfl⟩
  · have h1 : ¬ n < 1 := by omega
    go_enter Try.func12, Try.ntmps12
    go_wp2
    go_ret2
    exact ⟨by simp, rfl⟩
theorem new_ok (n : Int) (w : World) (h1 : 1 ≤ n) (h2 : n ≤ 1073741824) : Calls Try.prog 12 #[.int .i64 n] w fun e w' => e = .returned (.tuple #[.pointer (some ⟨w.heap.size, 0, none⟩), .int .i64 0]) ∧ GateA w' w.heap.size w.heap.size none 0 n 0 [] ∧ Below w.heap.size w w' := by
  go_enter Try.func12, Try.ntmps12
  go_wp2
  go_ret2
  exact ⟨by simp, ⟨Blk.of_heap (heap_at rfl), SeatsAt.nil _ _, Nat.le_refl _, by simp [inB]⟩, (Below.refl _ _).alloc (Nat.le_refl _) _⟩
set_option maxHeartbeats 1000000 in
theorem reserved_ok (base g c : Nat) (A : Option Addr) (size live : Int) (L : List Seat) (w : World) (h : GateA w base g A c size live L) (hw : WF size live L) : Calls Try.prog 28 #[.pointer (some ⟨g, 0, none⟩)] w fun e w' => e = .returned (.int .i64 (res L)) ∧ Below w.heap.size w w' := by
  have hlen := hw.len
  have hr1 : ∀ i, 0 ≤ res (L.take i) ∧ res (L.take i) ≤ 1073741824 := fun i => by
    have := res_take_le L i (fun s hs => (hw.b s hs).1)
    have := hw.fit; have := hw.s2; have := hw.l0
    omega
  have HW := Lib.hid hw
  have HR := Lib.hid hr1
  clear hw hr1
  obtain ⟨gr, gn, gc, gf⟩ := h.blk.all
  have cq := (gc 2).trans (show _ = some (.slice A L.length c) from rfl)
  have HH := Lib.hid h
  clear gr gn gc gf h
  go_enter Try.func28, Try.ntmps28
  go_wp2_with fail
  go_loopg [3, 11] L.length (fun k n i wr => ∃ (j : Nat), n = .int .i64 (res (L.take j)) ∧ i = .int .i64 (j : Int) ∧ k = L.length - j ∧ j ≤ L.length ∧ Below w.heap.size w wr)
  case atStart => exact ⟨0, rfl, rfl, rfl, by omega, Below.refl _ _⟩
  case round =>
    obtain ⟨j, rfl, rfl, hk, hj, hB⟩ := hrel
    have HB := Lib.hid hB
    have HK := Lib.hid hk
    clear hB hk
    by_cases hlt : j < L.length
    · obtain ⟨s, hs⟩ : ∃ s, L[j]? = some s := ⟨_, List.getElem?_eq_getElem hlt⟩
      have HS := Lib.hid hs
      obtain ⟨b, hA, hb, hbl, hf, e0, e1, e2, e3⟩ := (HH.out.below HB.out).seats.at_ hs
      obtain ⟨r1, r2⟩ := HR.out j
      obtain ⟨r3, r4⟩ := HR.out (j + 1)
      have ht := res_take L j s hs
      have hsb := HW.out.b s (List.mem_of_getElem? hs)
      obtain ⟨b1, b2, _, _⟩ := hsb
      subst hA
      cases hsw : s.w
      · rw [hsw] at e3 ht
        have HT := Lib.hid ht
        have hsum : res (L.take j) + s.b ≤ 1073741824 := by simp at ht; omega
        clear hs ht hf
        go_wp2_with fail
        go_roundg (L.length - (j + 1))
        case measure => have := HK.out; omega
        case rel =>
          have ht := HT.out
          simp at ht
          exact ⟨j + 1, by rw [ht], by go_num, rfl, by omega, (HB.out.alloc HB.out.size _)⟩
      · rw [hsw] at e3 ht
        have HT := Lib.hid ht
        clear hs ht hf
        go_wp2_with fail
        go_roundg (L.length - (j + 1))
        case measure => have := HK.out; omega
        case rel =>
          have ht := HT.out
          simp at ht
          exact ⟨j + 1, by rw [ht], by go_num, rfl, by omega, (HB.out.alloc HB.out.size _)⟩
    · obtain rfl : j = L.length := by omega
      go_wp2
      go_ret
      exact ⟨by first | rfl | simp, HB.out⟩
theorem same_id (s : Seat) (id : Int) (a : Addr) (w : World) (ha : w.cell? a = some (.int .i64 id)) : Calls Try.prog 37 #[.agg #[.int .i64 s.id, .int .i64 s.b, .int .i64 s.t, .bool s.w], .pointer (some a)] w fun e w' => e = .returned (.bool (decide (s.id = id))) ∧ Below w.heap.size w w' := by
  have hal := cell_lt ha
  have ha2 : (w.alloc (.cells #[.int .i64 s.id, .int .i64 s.b, .int .i64 s.t, .bool s.w] 39)).cell? a = some (.int .i64 id) := (World.cell?_alloc_lt w _ a hal).trans ha
  go_enter Try.func37, Try.ntmps37
  go_wp2
  go_ret
  exact ⟨by simp; rfl, (Below.refl _ _).alloc (Nat.le_refl _) _⟩
set_option maxHeartbeats 1000000 in
theorem index_ok (base g c : Nat) (A : Option Addr) (size live : Int) (L : List Seat) (w : World) (h : GateA w base g A c size live L) (id : Int) (a : Addr) (hlen : L.length ≤ 64) (ha : w.cell? a = some (.int .i64 id)) : Calls Try.prog 36 #[.slice A L.length c, .func (.func 37) #[] #[.pointer (some a)]] w fun e w' => e = .returned (.int .i64 (findI L id)) ∧ Below w.heap.size w w' := by
  have HH := Lib.hid h
  have HA := Lib.hid ha
  have hal := cell_lt ha
  clear h ha
  go_enter Try.func36, Try.ntmps36
  go_wp2_with fail
  go_loopg [8] L.length (fun k i wr => ∃ (j : Nat), i = .int .i64 (j : Int) ∧ k = L.length - j ∧ j ≤ L.length ∧ (findI L id = if findI (L.drop j) id < 0 then -1 else findI (L.drop j) id + (j : Int)) ∧ Below w.heap.size w wr)
  case atStart => exact ⟨0, rfl, rfl, by omega, by have := (findI_range L id).1; simp only [List.drop_zero]; split <;> omega, Below.refl _ _⟩
  case round =>
    obtain ⟨j, rfl, hk, hj, hf, hB⟩ := hrel
    have HB := Lib.hid hB
    have HK := Lib.hid hk
    have HF := Lib.hid hf
    clear hB hk hf
    by_cases hlt : j < L.length
    · obtain ⟨s, hs⟩ : ∃ s, L[j]? = some s := ⟨_, List.getElem?_eq_getElem hlt⟩
      have HD := Lib.hid (findI_drop L id j s hs)
      obtain ⟨b, hA, hb, hbl, hf, e0, e1, e2, e3⟩ := (HH.out.below HB.out).seats.at_ hs
      have HA2 := Lib.hid ((HB.out.cell (p := a) hal).trans HA.out)
      subst hA
      clear hs hf
      go_wp2_with fail
      refine (same_id s id a wr HA2.out).mono ?_
      rintro e w5 ⟨rfl, hB⟩
      have HB5 := Lib.hid (HB.out.trans (hB.mono HB.out.size))
      clear hB
      by_cases he : s.id = id
      · have hd : decide (s.id = id) = true := decide_eq_true he
        have hres : findI L id = j := by
          have h1 := HF.out; have h2 := HD.out
          rw [if_pos he] at h2; rw [h2] at h1; simpa using h1
        have HRES := Lib.hid hres
        clear he hres
        rw [hd]
        go_wp2
        go_ret
        exact ⟨by rw [HRES.out]; first | rfl | simp, HB5.out⟩
      · have hd : decide (s.id = id) = false := decide_eq_false he
        have hres : findI L id = if findI (L.drop (j + 1)) id < 0 then -1 else findI (L.drop (j + 1)) id + ((j : Int) + 1) := by
          have h1 := HF.out; have h2 := HD.out
          rw [if_neg he] at h2; rw [h2] at h1; rw [h1]
          split <;> split <;> omega
        have HRES := Lib.hid hres
        clear he hres
        rw [hd]
        go_wp2_with fail
        go_roundg (L.length - (j + 1))
        case measure => have := HK.out; omega
        case rel => exact ⟨j + 1, by go_num, rfl, by omega, HRES.out, HB5.out⟩
    · obtain rfl : j = L.length := by omega
      have hres : findI L id = -1 := by have h1 := HF.out; rw [List.drop_of_length_le (Nat.le_refl _)] at h1; simpa [findI] using h1
      have HRES := Lib.hid hres
      clear hres
      go_wp2
      go_ret
      exact ⟨by rw [HRES.out]; first | rfl | simp, HB.out⟩
set_option maxHeartbeats 1000000 in
theorem find_ok (base g c : Nat) (A : Option Addr) (size live : Int) (L : List Seat) (w : World) (h : GateA w base g A c size live L) (id : Int) (hlen : L.length ≤ 64) : Calls Try.prog 24 #[.pointer (some ⟨g, 0, none⟩), .int .i64 id] w fun e w' => e = .returned (.int .i64 (findI L id)) ∧ Below w.heap.size w w' := by
  obtain ⟨gr, gn, gc, gf⟩ := h.blk.all
  have cq := (gc 2).trans (show _ = some (.slice A L.length c) from rfl)
  have HH := Lib.hid h
  clear gr gn gc gf h
  have cq2 : (w.alloc (.cells #[.int .i64 id] 3)).cell? ⟨g, 2, none⟩ = some (.slice A L.length c) := (World.cell?_alloc_lt w _ _ HH.out.blk.lt).trans cq
  have hal : Below w.heap.size w (w.alloc (.cells #[.int .i64 id] 3)) := (Below.refl _ _).alloc (Nat.le_refl _) _
  have HI := Lib.hid (index_ok base g c A size live L _ (HH.out.below hal) id ⟨w.heap.size, 0, none⟩ hlen ((cell_of_row _ _ 0 _ _ _ (heap_alloc_new w _)).trans rfl))
  have HL := Lib.hid hal
  clear hal
  go_enter Try.func24, Try.ntmps24
  go_wp2_with fail
  refine (HI.out).mono ?_
  rintro e w5 ⟨rfl, hB⟩
  have HB5 := Lib.hid (HL.out.trans (hB.mono HL.out.size))
  clear hB
  go_wp2
  go_ret
  exact ⟨by first | rfl | simp, HB5.out⟩
set_option maxHeartbeats 1000000 in
theorem inside_no (base g c : Nat) (A : Option Addr) (size live : Int) (L : List Seat) (w : World) (h : GateA w base g A c size live L) (id : Int) (hlen : L.length ≤ 64) (hn : findI L id < 0) : Calls Try.prog 23 #[.pointer (some ⟨g, 0, none⟩), .int .i64 id] w fun e w' => e = .returned (.bool false) ∧ Below w.heap.size w w' := by
  have HF := Lib.hid (find_ok base g c A size live L w h id hlen)
  have h0 : findI L id = -1 := by have := (findI_range L id).1; omega
  rw [h0] at HF
  clear h0 hn h
  go_enter Try.func23, Try.ntmps23
  go_wp2_with fail
  refine (HF.out).mono ?_
  rintro e w5 ⟨rfl, hB⟩
  have HB5 := Lib.hid hB
  clear hB
  go_wp2
  go_ret
  exact ⟨by first | rfl | simp, HB5.out⟩
set_option maxHeartbeats 1000000 in
theorem inside_at (base g c : Nat) (A : Option Addr) (size live : Int) (L : List Seat) (w : World) (h : GateA w base g A c size live L) (id : Int) (hlen : L.length ≤ 64) (k : Nat) (s : Seat) (hk : findI L id = k) (hs : L[k]? = some s) : Calls Try.prog 23 #[.pointer (some ⟨g, 0, none⟩), .int .i64 id] w fun e w' => e = .returned (.bool (!s.w)) ∧ Below w.heap.size w w' := by
  have HF := Lib.hid (find_ok base g c A size live L w h id hlen)
  rw [hk] at HF
  have hkl := (List.getElem?_eq_some_iff.1 hs).1
  have HS := Lib.hid hs
  clear hk hs
  obtain ⟨gr, gn, gc, gf⟩ := h.blk.all
  have HH := Lib.hid h
  clear gr gn gc gf h
  go_enter Try.func23, Try.ntmps23
  go_wp2_with fail
  refine (HF.out).mono ?_
  rintro e w5 ⟨rfl, hB⟩
  have HB5 := Lib.hid hB
  have HG5 := HH.out.below hB
  have cq := (HG5.blk.all.2.2.1 2).trans (show _ = some (.slice A L.length c) from rfl)
  obtain ⟨b, hA, hb, hbl, hf, e0, e1, e2, e3⟩ := HG5.seats.at_ HS.out
  subst hA
  clear hB HG5 hf
  go_wp2
  go_ret
  exact ⟨by first | rfl | simp, HB5.out⟩
theorem stalled_no (base g c : Nat) (A : Option Addr) (size live : Int) (L : List Seat) (w : World) (h : GateA w base g A c size live L) (hL : L = []) : Calls Try.prog 15 #[.pointer (some ⟨g, 0, none⟩)] w fun e w' => e = .returned (.bool false) ∧ w = w' := by
  subst hL
  obtain ⟨gr, gn, gc, gf⟩ := h.blk.all
  have cq := (gc 2).trans (show _ = some (.slice A 0 c) from rfl)
  have HH := Lib.hid h
  clear gr gn gc gf h
  go_enter Try.func15, Try.ntmps15
  go_wp2
  go_ret
  exact ⟨by first | rfl | simp, rfl⟩
theorem stalled_at (base g c : Nat) (A : Option Addr) (size live : Int) (L : List Seat) (w : World) (h : GateA w base g A c size live L) (s : Seat) (hs : L[0]? = some s) : Calls Try.prog 15 #[.pointer (some ⟨g, 0, none⟩)] w fun e w' => e = .returned (.bool s.w) ∧ w = w' := by
  have hkl := (List.getElem?_eq_some_iff.1 hs).1
  obtain ⟨b, hA, hb, hbl, hf, e0, e1, e2, e3⟩ := h.seats.at_ hs
  subst hA
  simp only [Nat.zero_mul, Nat.zero_add] at e0 e1 e2 e3
  clear hs hf
  obtain ⟨gr, gn, gc, gf⟩ := h.blk.all
  have cq := (gc 2).trans (show _ = some (.slice (some ⟨b, 0, none⟩) L.length c) from rfl)
  have HH := Lib.hid h
  clear gr gn gc gf h
  go_enter Try.func15, Try.ntmps15
  go_wp2
  go_ret
  exact ⟨by first | rfl | simp, rfl⟩
end Go.Proofs.Ytliliimdkkaocaa
