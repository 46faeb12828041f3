import Derived.Test.YtliliimdkkaocaaOrder
/- The reference: New, Reserved, find, Stalled, lets. -/
namespace Go.Proofs.Ytliliimdkkaocaa
open Go.RowKit
set_option linter.unusedVariables false
set_option linter.unusedSimpArgs false
attribute [local go_sem] szIs_lit row_at row_past row_alloc nf_alloc row_set nf_set row_cell nf_cell row_drew nf_drew row_drewN nf_drewN cell_setRow frozen_setRow nlt1 nlt2 nlt3 nlt4 nne1 nne2 nne3 nen1 nen2 nen3

theorem rnew_bad (n : Int) (w : World) (hn : ¬ (1 ≤ n ∧ n ≤ 1073741824)) : Calls Try.prog 20 #[.int .i64 n] w fun e w' => e = .returned (.tuple #[.pointer none, .int .i64 1]) ∧ w = w' := by
  by_cases h1 : n < 1
  · clear hn
    go_enter Try.func20, Try.ntmps20
    go_wp2
    go_ret2
    exact ⟨by simp, rfl⟩
  · have h2 : 1073741824 < n := by omega
    clear hn
    go_enter Try.func20, Try.ntmps20
    go_wp2
    go_ret2
    exact ⟨by simp, rfl⟩
theorem rnew_ok (n : Int) (w : World) (h1 : 1 ≤ n) (h2 : n ≤ 1073741824) : Calls Try.prog 20 #[.int .i64 n] w fun e w' => e = .returned (.tuple #[.pointer (some ⟨w.heap.size, 0, none⟩), .int .i64 0]) ∧ GateA w' w.heap.size w.heap.size none 0 n 0 [] ∧ Below w.heap.size w w' := by
  go_enter Try.func20, Try.ntmps20
  go_wp2
  go_ret2
  exact ⟨by simp, ⟨Blk.of_heap (heap_at rfl), SeatsAt.nil _ _, Nat.le_refl _, by simp [inB]⟩, (Below.refl _ _).alloc (Nat.le_refl _) _⟩
set_option maxHeartbeats 2000000 in
theorem rres_ok (base g c : Nat) (A : Option Addr) (size live : Int) (L : List Seat) (w : World) (h : GateA w base g A c size live L) (hw : WF size live L) : Calls Try.prog 34 #[.pointer (some ⟨g, 0, none⟩)] w fun e w' => e = .returned (.int .i64 (res L)) ∧ w = w' := by
  have hlen := hw.len
  have hr1 : ∀ i, 0 ≤ res (L.take i) ∧ res (L.take i) ≤ 1073741824 := fun i => by
    have := res_take_le L i (fun s hs => (hw.b s hs).1)
    have := hw.fit; have := hw.s2; have := hw.l0
    omega
  have HW := Lib.hid hw
  have HR := Lib.hid hr1
  clear hw hr1
  obtain ⟨gr, gn, gc, gf⟩ := h.blk.all
  have cs := (gc 0).trans (show _ = some (.int .i64 size) from rfl)
  have cl := (gc 1).trans (show _ = some (.int .i64 live) from rfl)
  have cq := (gc 2).trans (show _ = some (.slice A L.length c) from rfl)
  have HH := Lib.hid h
  have hbl := h.blk.lt

  clear gr gn gc gf h
  go_enter Try.func34, Try.ntmps34
  go_wp2_with fail
  go_loopg [3, 4] L.length (fun k n_ i_ wr => ∃ (j : Nat), n_ = .int .i64 (res (L.take j)) ∧ i_ = .int .i64 (j : Int) ∧ k = L.length - j ∧ j ≤ L.length ∧ wr = w)
  case atStart => exact ⟨0, rfl, rfl, rfl, by omega, rfl⟩
  case round =>
    obtain ⟨j, rfl, rfl, hk, hj, rfl⟩ := hrel
    have HK := Lib.hid hk
    clear hk
    by_cases hlt : j < L.length
    · obtain ⟨s, hs⟩ : ∃ s, L[j]? = some s := ⟨_, List.getElem?_eq_getElem hlt⟩
      obtain ⟨b, hA, hb, hbl, hf, e0, e1, e2, e3⟩ := HH.out.seats.at_ hs
      obtain ⟨r1, r2⟩ := HR.out j
      obtain ⟨r3, r4⟩ := HR.out (j + 1)
      have ht := res_take L j s hs
      obtain ⟨b1, b2, _, _⟩ := HW.out.b s (List.mem_of_getElem? hs)
      subst hA
      cases hsw : s.w
      · rw [hsw] at e3 ht
        have HT := Lib.hid ht
        have hsum : res (L.take j) + s.b ≤ 1073741824 := by simp at ht; omega
        clear hs ht hf
        go_wp2_with fail
        go_roundg (L.length - (j + 1))
        case measure => have := HK.out; omega
        case rel =>
          have ht := HT.out
          simp at ht
          exact ⟨j + 1, by rw [ht], by go_num, rfl, by omega, rfl⟩
      · rw [hsw] at e3 ht
        have HT := Lib.hid ht
        clear hs ht hf
        go_wp2_with fail
        go_roundg (L.length - (j + 1))
        case measure => have := HK.out; omega
        case rel =>
          have ht := HT.out
          simp at ht
          exact ⟨j + 1, by rw [ht], by go_num, rfl, by omega, rfl⟩
    · obtain rfl : j = L.length := by omega
      go_wp2
      go_ret
      exact ⟨by first | rfl | simp, rfl⟩
set_option maxHeartbeats 2000000 in
theorem rfind_ok (base g c : Nat) (A : Option Addr) (size live : Int) (L : List Seat) (w : World) (h : GateA w base g A c size live L) (id : Int) (hlen : L.length ≤ 64) : Calls Try.prog 38 #[.pointer (some ⟨g, 0, none⟩), .int .i64 id] w fun e w' => e = .returned (.int .i64 (findI L id)) ∧ Below w.heap.size w w' := by
  obtain ⟨gr, gn, gc, gf⟩ := h.blk.all
  have cs := (gc 0).trans (show _ = some (.int .i64 size) from rfl)
  have cl := (gc 1).trans (show _ = some (.int .i64 live) from rfl)
  have cq := (gc 2).trans (show _ = some (.slice A L.length c) from rfl)
  have HH := Lib.hid h
  have hbl := h.blk.lt

  clear gr gn gc gf h
  go_enter Try.func38, Try.ntmps38
  go_wp2_with fail
  go_loopg [5] L.length (fun k i_ wr => ∃ (j : Nat), i_ = .int .i64 (j : Int) ∧ k = L.length - j ∧ j ≤ L.length ∧ (findI L id = if findI (L.drop j) id < 0 then -1 else findI (L.drop j) id + (j : Int)) ∧ wr = w)
  case atStart => exact ⟨0, rfl, rfl, by omega, by have := (findI_range L id).1; simp only [List.drop_zero]; split <;> omega, rfl⟩
  case round =>
    obtain ⟨j, rfl, hk, hj, hf, rfl⟩ := hrel
    have HK := Lib.hid hk
    have HF := Lib.hid hf
    clear hk hf
    by_cases hlt : j < L.length
    · obtain ⟨s, hs⟩ : ∃ s, L[j]? = some s := ⟨_, List.getElem?_eq_getElem hlt⟩
      have HD := Lib.hid (findI_drop L id j s hs)
      obtain ⟨b, hA, hb, hbl, hf, e0, e1, e2, e3⟩ := HH.out.seats.at_ hs
      subst hA
      clear hs hf
      by_cases he : s.id = id
      · have hd : (s.id == id) = true := by simp [he]
        have hres : findI L id = j := by
          have h1 := HF.out; have h2 := HD.out
          rw [if_pos he] at h2; rw [h2] at h1; simpa using h1
        have HRES := Lib.hid hres
        clear hres
        obtain rfl : id = s.id := he.symm
        clear he
        go_wp2
        go_ret
        exact ⟨by rw [HRES.out]; first | rfl | simp, Below.refl _ _⟩
      · have hd : (s.id == id) = false := by simp [he]
        have hres : findI L id = if findI (L.drop (j + 1)) id < 0 then -1 else findI (L.drop (j + 1)) id + ((j : Int) + 1) := by
          have h1 := HF.out; have h2 := HD.out
          rw [if_neg he] at h2; rw [h2] at h1; rw [h1]
          split <;> split <;> omega
        have HRES := Lib.hid hres
        clear hres
        go_wp2_with fail
        go_roundg (L.length - (j + 1))
        case measure => have := HK.out; omega
        case rel => exact ⟨j + 1, by go_num, rfl, by omega, HRES.out, rfl⟩
    · obtain rfl : j = L.length := by omega
      have hres : findI L id = -1 := by have h1 := HF.out; rw [List.drop_of_length_le (Nat.le_refl _)] at h1; simpa [findI] using h1
      have HRES := Lib.hid hres
      clear hres
      go_wp2
      go_ret
      exact ⟨by rw [HRES.out]; first | rfl | simp, Below.refl _ _⟩
theorem rstalled_no (base g c : Nat) (A : Option Addr) (size live : Int) (L : List Seat) (w : World) (h : GateA w base g A c size live L) (hL : L = []) : Calls Try.prog 35 #[.pointer (some ⟨g, 0, none⟩)] w fun e w' => e = .returned (.bool false) ∧ w = w' := by
  subst hL
  obtain ⟨gr, gn, gc, gf⟩ := h.blk.all
  have cq := (gc 2).trans (show _ = some (.slice A 0 c) from rfl)
  have HH := Lib.hid h
  clear gr gn gc gf h
  go_enter Try.func35, Try.ntmps35
  go_wp2
  go_ret
  exact ⟨by first | rfl | simp, rfl⟩
theorem rstalled_at (base g c : Nat) (A : Option Addr) (size live : Int) (L : List Seat) (w : World) (h : GateA w base g A c size live L) (s : Seat) (hs : L[0]? = some s) : Calls Try.prog 35 #[.pointer (some ⟨g, 0, none⟩)] w fun e w' => e = .returned (.bool s.w) ∧ w = w' := by
  have hkl := (List.getElem?_eq_some_iff.1 hs).1
  obtain ⟨b, hA, hb, hbl, hf, e0, e1, e2, e3⟩ := h.seats.at_ hs
  subst hA
  simp only [Nat.zero_mul, Nat.zero_add] at e0 e1 e2 e3
  clear hs hf
  obtain ⟨gr, gn, gc, gf⟩ := h.blk.all
  have cq := (gc 2).trans (show _ = some (.slice (some ⟨b, 0, none⟩) L.length c) from rfl)
  have HH := Lib.hid h
  clear gr gn gc gf h
  go_enter Try.func35, Try.ntmps35
  go_wp2
  go_ret
  exact ⟨by first | rfl | simp, rfl⟩
end Go.Proofs.Ytliliimdkkaocaa
