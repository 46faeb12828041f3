import Derived.Test.YtliliimdkkaocaaLives
/- Victim, twice; ResvVictim. -/
namespace Go.Proofs.Ytliliimdkkaocaa
open Go.RowKit
set_option linter.unusedVariables false
set_option linter.unusedSimpArgs false
attribute [local go_sem] szIs_lit row_at row_past row_alloc nf_alloc row_set nf_set row_cell nf_cell row_drew nf_drew row_drewN nf_drewN cell_setRow frozen_setRow nlt1 nlt2 nlt3 nlt4 nne1 nne2 nne3 nen1 nen2 nen3

def vstep (sp : Int) (st : Bool × Int × Int) (o : OwnerV) : Bool × Int × Int :=
  if o.x0 = sp then st else if o.x1 ≤ 0 then st else if st.1 = false then (true, o.x0, o.x1) else if st.2.2 < o.x1 then (true, o.x0, o.x1) else if o.x1 = st.2.2 then (if st.2.1 < o.x0 then (true, o.x0, o.x1) else st) else st
def vic (sp : Int) (o : Nat → OwnerV) : Nat → Bool × Int × Int
  | 0 => (false, 0, 0)
  | n + 1 => vstep sp (vic sp o n) (o n)
theorem AreOwner.at_ {w : World} {B len cap : Nat} {a : Option Addr} {o : Nat → OwnerV} (h : AreOwner w B a len cap o) (i : Nat) (hi : i < len) : ∃ b off, a = some ⟨b, off, none⟩ ∧ b < B ∧ w.cell? ⟨b, off + i * 2, none⟩ = some (.int .i64 (o i).x0) ∧ w.cell? ⟨b, off + i * 2 + 1, none⟩ = some (.int .i64 (o i).x1) := by
  obtain ⟨b, off, e, hb, hc⟩ := h.2.2.2 (by omega)
  obtain ⟨h1, _, h2, _⟩ := hc i hi
  exact ⟨b, off, e, hb, h1, h2⟩
def bestRow (st : Bool × Int × Int) : Array Value := #[.int .i64 st.2.1, .int .i64 st.2.2]
set_option maxHeartbeats 4000000 in
theorem victim_ok (B : Nat) (a : Option Addr) (len cap : Nat) (o : Nat → OwnerV) (sp : Int) (w : World) (h : AreOwner w B a len cap o) (hB : B ≤ w.heap.size) : Calls Try.prog 9 #[.slice a len cap, .int .i64 sp] w fun e w' => e = .returned (.tuple #[.int .i64 (vic sp o len).2.1, .bool (vic sp o len).1]) ∧ Below w.heap.size w w' := by
  have hlen := h.2.2.1
  have hlr : len ≤ 9223372036854775806 := by unfold reachBytes at hlen; omega
  have HH := Lib.hid h
  clear h hlen
  go_enter Try.func9, Try.ntmps9
  go_wp2_with fail
  go_loopg [7, 13] len (fun k f_ i_ wr => ∃ (j : Nat), f_ = .bool (vic sp o j).1 ∧ i_ = .int .i64 (j : Int) ∧ k = len - j ∧ j ≤ len ∧ Blk wr w.heap.size (bestRow (vic sp o j)) ∧ Below w.heap.size w wr)
  case atStart => exact ⟨0, rfl, rfl, rfl, by omega, Blk.of_heap (heap_at rfl), (Below.refl _ _).alloc (Nat.le_refl _) _⟩
  case round =>
    obtain ⟨j, rfl, rfl, hk, hj, hbk, hBl⟩ := hrel
    have HK := Lib.hid hk
    have HBK := Lib.hid hbk
    have HBl := Lib.hid hBl
    obtain ⟨gr, gn, gc, gf⟩ := hbk.all
    have b0 := (gc 0).trans (show _ = some (.int .i64 (vic sp o j).2.1) from rfl)
    have b1 := (gc 1).trans (show _ = some (.int .i64 (vic sp o j).2.2) from rfl)
    have z0 := gf 0
    have z1 := gf 1
    have hlw := hbk.lt
    have hnw : ¬ w.heap.size = wr.heap.size := by omega
    have hnw2 : ¬ wr.heap.size = w.heap.size := by omega
    have hsz := hBl.size
    clear hk hBl gc gf gr gn hbk
    by_cases hlt : j < len
    · obtain ⟨b, off, ha, hbB, c0, c1⟩ := (HH.out.below (HBl.out.mono hB)).at_ j hlt
      subst ha
      have HV := Lib.hid (show vic sp o (j + 1) = vstep sp (vic sp o j) (o j) from rfl)
      generalize hs : vic sp o j = st at *
      obtain ⟨fd, bi, bb⟩ := st
      have HS := Lib.hid hs
      clear hs
      generalize hx : (o j).x0 = x at *
      generalize hy : (o j).x1 = y at *
      have HX := Lib.hid hx
      have HY := Lib.hid hy
      clear hx hy
      simp only at b0 b1
      by_cases h1 : x = sp
      · have k1 : (x == sp) = true := by simp [h1]
        have hv : vic sp o (j + 1) = (fd, bi, bb) := by rw [HV.out]; unfold vstep; simp only [HX.out, HY.out]; rw [if_pos h1]
        have HV2 := Lib.hid hv
        clear hv
        go_wp2_with fail
        go_roundg (len - (j + 1))
        case measure => have := HK.out; omega
        case rel => exact ⟨j + 1, by rw [HV2.out], by go_num, rfl, by omega, by rw [HV2.out]; exact HBK.out.below (B := wr.heap.size) ((Below.refl _ _).alloc (Nat.le_refl _) _) hlw, HBl.out.alloc hsz _⟩
      · have k1 : (x == sp) = false := by simp [h1]
        by_cases h2 : y ≤ 0
        · skip
          have hv : vic sp o (j + 1) = (fd, bi, bb) := by rw [HV.out]; unfold vstep; simp only [HX.out, HY.out]; rw [if_neg h1, if_pos h2]
          have HV2 := Lib.hid hv
          clear hv
          go_wp2_with fail
          go_roundg (len - (j + 1))
          case measure => have := HK.out; omega
          case rel => exact ⟨j + 1, by rw [HV2.out], by go_num, rfl, by omega, by rw [HV2.out]; exact HBK.out.below (B := wr.heap.size) ((Below.refl _ _).alloc (Nat.le_refl _) _) hlw, HBl.out.alloc hsz _⟩
        · cases fd
          · skip
            have hv : vic sp o (j + 1) = (true, x, y) := by rw [HV.out]; unfold vstep; simp only [HX.out, HY.out]; rw [if_neg h1, if_neg h2]; simp
            have HV2 := Lib.hid hv
            clear hv
            go_wp2_with fail
            go_roundg (len - (j + 1))
            case measure => have := HK.out; omega
            case rel => exact ⟨j + 1, by rw [HV2.out], by go_num, rfl, by omega, by rw [HV2.out]; exact (by have q := ((HBK.out.put 0 (.int .i64 x)).put 1 (.int .i64 y)).below ((Below.refl _ _).alloc (Nat.le_refl _) (.cells #[.int .i64 x, .int .i64 y] 27)) (by simpa using hlw); simpa [bestRow] using q), (below_put (below_put HBl.out (Nat.le_refl _) 0 _) (Nat.le_refl _) 1 _).alloc (by simpa using hsz) _⟩
          · by_cases h3 : bb < y
            · skip
              have hv : vic sp o (j + 1) = (true, x, y) := by rw [HV.out]; unfold vstep; simp only [HX.out, HY.out]; rw [if_neg h1, if_neg h2]; simp [h3]
              have HV2 := Lib.hid hv
              clear hv
              go_wp2_with fail
              go_roundg (len - (j + 1))
              case measure => have := HK.out; omega
              case rel => exact ⟨j + 1, by rw [HV2.out], by go_num, rfl, by omega, by rw [HV2.out]; exact (by have q := ((HBK.out.put 0 (.int .i64 x)).put 1 (.int .i64 y)).below ((Below.refl _ _).alloc (Nat.le_refl _) (.cells #[.int .i64 x, .int .i64 y] 27)) (by simpa using hlw); simpa [bestRow] using q), (below_put (below_put HBl.out (Nat.le_refl _) 0 _) (Nat.le_refl _) 1 _).alloc (by simpa using hsz) _⟩
            · by_cases h4 : y = bb
              · obtain rfl : y = bb := h4
                have k4 : (y == y) = true := by simp
                clear h3
                by_cases h5 : bi < x
                · skip
                  have hv : vic sp o (j + 1) = (true, x, y) := by rw [HV.out]; unfold vstep; simp only [HX.out, HY.out]; rw [if_neg h1, if_neg h2]; simp [h5]
                  have HV2 := Lib.hid hv
                  clear hv
                  go_wp2_with fail
                  go_roundg (len - (j + 1))
                  case measure => have := HK.out; omega
                  case rel => exact ⟨j + 1, by rw [HV2.out], by go_num, rfl, by omega, by rw [HV2.out]; exact (by have q := ((HBK.out.put 0 (.int .i64 x)).put 1 (.int .i64 y)).below ((Below.refl _ _).alloc (Nat.le_refl _) (.cells #[.int .i64 x, .int .i64 y] 27)) (by simpa using hlw); simpa [bestRow] using q), (below_put (below_put HBl.out (Nat.le_refl _) 0 _) (Nat.le_refl _) 1 _).alloc (by simpa using hsz) _⟩
                · skip
                  have hv : vic sp o (j + 1) = (true, bi, y) := by rw [HV.out]; unfold vstep; simp only [HX.out, HY.out]; rw [if_neg h1, if_neg h2]; simp [h5]
                  have HV2 := Lib.hid hv
                  clear hv
                  go_wp2_with fail
                  go_roundg (len - (j + 1))
                  case measure => have := HK.out; omega
                  case rel => exact ⟨j + 1, by rw [HV2.out], by go_num, rfl, by omega, by rw [HV2.out]; exact HBK.out.below (B := wr.heap.size) ((Below.refl _ _).alloc (Nat.le_refl _) _) hlw, HBl.out.alloc hsz _⟩
              · have k4 : (y == bb) = false := by simp [h4]
                have hv : vic sp o (j + 1) = (true, bi, bb) := by rw [HV.out]; unfold vstep; simp only [HX.out, HY.out]; rw [if_neg h1, if_neg h2]; simp [h3, h4]
                have HV2 := Lib.hid hv
                clear hv
                go_wp2_with fail
                go_roundg (len - (j + 1))
                case measure => have := HK.out; omega
                case rel => exact ⟨j + 1, by rw [HV2.out], by go_num, rfl, by omega, by rw [HV2.out]; exact HBK.out.below (B := wr.heap.size) ((Below.refl _ _).alloc (Nat.le_refl _) _) hlw, HBl.out.alloc hsz _⟩
    · obtain rfl : j = len := by omega
      generalize hs : vic sp o j = st at *
      obtain ⟨fd, bi, bb⟩ := st
      go_wp2
      go_ret2
      exact ⟨by first | rfl | simp, HBl.out⟩
set_option maxHeartbeats 4000000 in
theorem rvictim_ok (B : Nat) (a : Option Addr) (len cap : Nat) (o : Nat → OwnerV) (sp : Int) (w : World) (h : AreOwner w B a len cap o) (hB : B ≤ w.heap.size) : Calls Try.prog 10 #[.slice a len cap, .int .i64 sp] w fun e w' => e = .returned (.tuple #[.int .i64 (vic sp o len).2.1, .bool (vic sp o len).1]) ∧ Below w.heap.size w w' := by
  have hlen := h.2.2.1
  have hlr : len ≤ 9223372036854775806 := by unfold reachBytes at hlen; omega
  have HH := Lib.hid h
  clear h hlen
  go_enter Try.func10, Try.ntmps10
  go_wp2_with fail
  go_loopg [7, 8] len (fun k f_ i_ wr => ∃ (j : Nat), f_ = .bool (vic sp o j).1 ∧ i_ = .int .i64 (j : Int) ∧ k = len - j ∧ j ≤ len ∧ Blk wr w.heap.size (bestRow (vic sp o j)) ∧ Below w.heap.size w wr)
  case atStart => exact ⟨0, rfl, rfl, rfl, by omega, Blk.of_heap (heap_at rfl), (Below.refl _ _).alloc (Nat.le_refl _) _⟩
  case round =>
    obtain ⟨j, rfl, rfl, hk, hj, hbk, hBl⟩ := hrel
    have HK := Lib.hid hk
    have HBK := Lib.hid hbk
    have HBl := Lib.hid hBl
    obtain ⟨gr, gn, gc, gf⟩ := hbk.all
    have b0 := (gc 0).trans (show _ = some (.int .i64 (vic sp o j).2.1) from rfl)
    have b1 := (gc 1).trans (show _ = some (.int .i64 (vic sp o j).2.2) from rfl)
    have z0 := gf 0
    have z1 := gf 1
    have hlw := hbk.lt
    have hnw : ¬ w.heap.size = wr.heap.size := by omega
    have hnw2 : ¬ wr.heap.size = w.heap.size := by omega
    have hsz := hBl.size
    clear hk hBl gc gf gr gn hbk
    by_cases hlt : j < len
    · obtain ⟨b, off, ha, hbB, c0, c1⟩ := (HH.out.below (HBl.out.mono hB)).at_ j hlt
      subst ha
      have HV := Lib.hid (show vic sp o (j + 1) = vstep sp (vic sp o j) (o j) from rfl)
      generalize hs : vic sp o j = st at *
      obtain ⟨fd, bi, bb⟩ := st
      have HS := Lib.hid hs
      clear hs
      generalize hx : (o j).x0 = x at *
      generalize hy : (o j).x1 = y at *
      have HX := Lib.hid hx
      have HY := Lib.hid hy
      clear hx hy
      simp only at b0 b1
      by_cases h1 : x = sp
      · have k1 : (x == sp) = true := by simp [h1]
        have hv : vic sp o (j + 1) = (fd, bi, bb) := by rw [HV.out]; unfold vstep; simp only [HX.out, HY.out]; rw [if_pos h1]
        have HV2 := Lib.hid hv
        clear hv
        go_wp2_with fail
        go_roundg (len - (j + 1))
        case measure => have := HK.out; omega
        case rel => exact ⟨j + 1, by rw [HV2.out], by go_num, rfl, by omega, by rw [HV2.out]; exact HBK.out.below (B := wr.heap.size) ((Below.refl _ _).alloc (Nat.le_refl _) _) hlw, HBl.out.alloc hsz _⟩
      · have k1 : (x == sp) = false := by simp [h1]
        by_cases h2 : y ≤ 0
        · skip
          have hv : vic sp o (j + 1) = (fd, bi, bb) := by rw [HV.out]; unfold vstep; simp only [HX.out, HY.out]; rw [if_neg h1, if_pos h2]
          have HV2 := Lib.hid hv
          clear hv
          go_wp2_with fail
          go_roundg (len - (j + 1))
          case measure => have := HK.out; omega
          case rel => exact ⟨j + 1, by rw [HV2.out], by go_num, rfl, by omega, by rw [HV2.out]; exact HBK.out.below (B := wr.heap.size) ((Below.refl _ _).alloc (Nat.le_refl _) _) hlw, HBl.out.alloc hsz _⟩
        · cases fd
          · skip
            have hv : vic sp o (j + 1) = (true, x, y) := by rw [HV.out]; unfold vstep; simp only [HX.out, HY.out]; rw [if_neg h1, if_neg h2]; simp
            have HV2 := Lib.hid hv
            clear hv
            go_wp2_with fail
            go_roundg (len - (j + 1))
            case measure => have := HK.out; omega
            case rel => exact ⟨j + 1, by rw [HV2.out], by go_num, rfl, by omega, by rw [HV2.out]; exact (by have q := ((HBK.out.put 0 (.int .i64 x)).put 1 (.int .i64 y)).below ((Below.refl _ _).alloc (Nat.le_refl _) (.cells #[.int .i64 x, .int .i64 y] 27)) (by simpa using hlw); simpa [bestRow] using q), (below_put (below_put HBl.out (Nat.le_refl _) 0 _) (Nat.le_refl _) 1 _).alloc (by simpa using hsz) _⟩
          · by_cases h3 : bb < y
            · skip
              have hv : vic sp o (j + 1) = (true, x, y) := by rw [HV.out]; unfold vstep; simp only [HX.out, HY.out]; rw [if_neg h1, if_neg h2]; simp [h3]
              have HV2 := Lib.hid hv
              clear hv
              go_wp2_with fail
              go_roundg (len - (j + 1))
              case measure => have := HK.out; omega
              case rel => exact ⟨j + 1, by rw [HV2.out], by go_num, rfl, by omega, by rw [HV2.out]; exact (by have q := ((HBK.out.put 0 (.int .i64 x)).put 1 (.int .i64 y)).below ((Below.refl _ _).alloc (Nat.le_refl _) (.cells #[.int .i64 x, .int .i64 y] 27)) (by simpa using hlw); simpa [bestRow] using q), (below_put (below_put HBl.out (Nat.le_refl _) 0 _) (Nat.le_refl _) 1 _).alloc (by simpa using hsz) _⟩
            · by_cases h4 : y = bb
              · obtain rfl : y = bb := h4
                have k4 : (y == y) = true := by simp
                clear h3
                by_cases h5 : bi < x
                · skip
                  have hv : vic sp o (j + 1) = (true, x, y) := by rw [HV.out]; unfold vstep; simp only [HX.out, HY.out]; rw [if_neg h1, if_neg h2]; simp [h5]
                  have HV2 := Lib.hid hv
                  clear hv
                  go_wp2_with fail
                  go_roundg (len - (j + 1))
                  case measure => have := HK.out; omega
                  case rel => exact ⟨j + 1, by rw [HV2.out], by go_num, rfl, by omega, by rw [HV2.out]; exact (by have q := ((HBK.out.put 0 (.int .i64 x)).put 1 (.int .i64 y)).below ((Below.refl _ _).alloc (Nat.le_refl _) (.cells #[.int .i64 x, .int .i64 y] 27)) (by simpa using hlw); simpa [bestRow] using q), (below_put (below_put HBl.out (Nat.le_refl _) 0 _) (Nat.le_refl _) 1 _).alloc (by simpa using hsz) _⟩
                · skip
                  have hv : vic sp o (j + 1) = (true, bi, y) := by rw [HV.out]; unfold vstep; simp only [HX.out, HY.out]; rw [if_neg h1, if_neg h2]; simp [h5]
                  have HV2 := Lib.hid hv
                  clear hv
                  go_wp2_with fail
                  go_roundg (len - (j + 1))
                  case measure => have := HK.out; omega
                  case rel => exact ⟨j + 1, by rw [HV2.out], by go_num, rfl, by omega, by rw [HV2.out]; exact HBK.out.below (B := wr.heap.size) ((Below.refl _ _).alloc (Nat.le_refl _) _) hlw, HBl.out.alloc hsz _⟩
              · have k4 : (y == bb) = false := by simp [h4]
                have hv : vic sp o (j + 1) = (true, bi, bb) := by rw [HV.out]; unfold vstep; simp only [HX.out, HY.out]; rw [if_neg h1, if_neg h2]; simp [h3, h4]
                have HV2 := Lib.hid hv
                clear hv
                go_wp2_with fail
                go_roundg (len - (j + 1))
                case measure => have := HK.out; omega
                case rel => exact ⟨j + 1, by rw [HV2.out], by go_num, rfl, by omega, by rw [HV2.out]; exact HBK.out.below (B := wr.heap.size) ((Below.refl _ _).alloc (Nat.le_refl _) _) hlw, HBl.out.alloc hsz _⟩
    · obtain rfl : j = len := by omega
      generalize hs : vic sp o j = st at *
      obtain ⟨fd, bi, bb⟩ := st
      go_wp2
      go_ret2
      exact ⟨by first | rfl | simp, HBl.out⟩
end Go.Proofs.Ytliliimdkkaocaa
