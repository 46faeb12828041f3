import Derived.Test.YtliliimdkkaocaaOrd
/- ResvOrder. -/
namespace Go.Proofs.Ytliliimdkkaocaa
open Go.RowKit
set_option linter.unusedVariables false
set_option linter.unusedSimpArgs false
attribute [local go_sem] szIs_lit row_at row_past row_alloc nf_alloc row_set nf_set row_cell nf_cell row_drew nf_drew row_drewN nf_drewN cell_setRow frozen_setRow nlt1 nlt2 nlt3 nlt4 nne1 nne2 nne3 nen1 nen2 nen3

def stl : List Seat → Bool
  | [] => false
  | s :: _ => s.w
theorem stalledO {w0 wr : World} {g c : Nat} {A : Option Addr} {n live : Int} {L : List Seat} (h : Inv w0 wr g A c n live L) : Calls Try.prog 15 #[.pointer (some ⟨g, 0, none⟩)] wr fun e w' => e = .returned (.bool (stl L)) ∧ wr = w' := by
  cases L with
  | nil => exact stalled_no _ _ _ _ _ _ _ wr h.ga rfl
  | cons s r => exact stalled_at _ _ _ _ _ _ _ wr h.ga s rfl
def Asc (last : Int) : List Int → Prop
  | [] => True
  | x :: r => last < x ∧ Asc x r
theorem asc_add : ∀ (l : List Int) (last y : Int), Asc last l → (∀ x ∈ l, x < y) → last < y → Asc last (l ++ [y])
  | [], last, y, _, _, h => ⟨h, trivial⟩
  | x :: r, last, y, h, h2, h3 => ⟨h.1, asc_add r x y h.2 (fun z hz => h2 z (by simp [hz])) (h2 x (by simp))⟩
set_option maxRecDepth 100000 in
set_option maxHeartbeats 2000000 in
theorem order_bad (n : Int) (a : Option Addr) (len cap : Nat) (w : World) (hn : ¬ (1 ≤ n ∧ n ≤ 1073741824)) : Calls Try.prog 4 #[.int .i64 n, .slice a len cap] w fun e w' => e = .returned (.bool true) ∧ Below w.heap.size w w' := by
  have HN := Lib.hid (new_any n w hn)
  clear hn
  go_enter Try.func4, Try.ntmps4
  go_wp2_with fail
  refine HN.out.mono ?_
  rintro e w1 ⟨rfl, rfl⟩
  go_wp2_with fail
  refine (lives_ok w).mono ?_
  rintro e w1 ⟨rfl, hB⟩
  have HB := Lib.hid hB
  clear hB
  go_wp2
  go_ret
  exact ⟨by first | rfl | simp, HB.out⟩
/-- What holds in the first loop. -/
structure Lo (w wr : World) (A : Option Addr) (c : Nat) (n : Int) (L : List Seat) (waits : Bool) (j : Nat) : Prop where
  inv : Inv w wr w.heap.size A c n 0 L
  ord : OrdW n L waits
  asc : Asc 0 (ids L)
  lt : ∀ x ∈ ids L, x ≤ (j : Int)
  len : L.length ≤ j
theorem Lo.fresh {w wr : World} {A : Option Addr} {c j : Nat} {n : Int} {L : List Seat} {b : Bool} (h : Lo w wr A c n L b j) : findI L ((j : Int) + 1) < 0 := findI_no L _ fun hm => by have := h.lt _ hm; omega
theorem Lo.next {w wr : World} {A : Option Addr} {c j : Nat} {n : Int} {L : List Seat} {b : Bool} (h : Lo w wr A c n L b j) : Lo w wr A c n L b (j + 1) := ⟨h.inv, h.ord, h.asc, fun x hx => by have := h.lt x hx; omega, by have := h.len; omega⟩
set_option maxRecDepth 100000 in
set_option maxHeartbeats 8000000 in
theorem order_ok (n : Int) (a : Option Addr) (len cap : Nat) (Y : Nat → Int) (w : World) (h : Nums .i64 w w.heap.size a len cap Y) (n1 : 1 ≤ n) (n2 : n ≤ 1073741824) (hsm : len * 8 ≤ reachBytes) : Calls Try.prog 4 #[.int .i64 n, .slice a len cap] w fun e w' => e = .returned (.bool true) ∧ Below w.heap.size w w' := by
  have hlr : len ≤ 9223372036854775806 := by unfold reachBytes at hsm; omega
  have HH := Lib.hid h
  clear h hsm
  go_enter Try.func4, Try.ntmps4
  go_wp2_with fail
  refine (newI w n1 n2).mono ?_
  rintro e w1 ⟨rfl, hI⟩
  have HI1 := Lib.hid hI
  clear hI
  go_wp2_with fail
  refine (livesI HI1.out).mono ?_
  rintro e w2 ⟨rfl, hI⟩
  have HI2 := Lib.hid hI
  clear hI
  go_wp2_with fail
  go_loopg [7, 8, 9, 10, 11] len (fun k wt_ n_ i_ p10 p11 wr => ∃ (j : Nat) (A : Option Addr) (c : Nat) (L : List Seat) (b : Bool), wt_ = .bool b ∧ n_ = .int .i64 (L.length : Int) ∧ i_ = .int .i64 (j : Int) ∧ k = len - j ∧ j ≤ len ∧ Lo w wr A c n L b j)
  case atStart => exact ⟨0, none, 0, [], false, rfl, rfl, rfl, rfl, by omega, ⟨HI2.out, ⟨[], [], rfl, by simp [In], by simp [Wt], by simp, rfl⟩, trivial, by simp [ids], by simp⟩⟩
  case round =>
    obtain ⟨j, A, c, L, b, rfl, rfl, rfl, hk, hj, hL⟩ := hrel
    have HK := Lib.hid hk
    have HL := Lib.hid hL
    have hl64 := hL.inv.wf.len
    clear hk hL
    by_cases hlt : j < len ∧ j < 64
    · obtain ⟨hlt, h64⟩ := hlt
      obtain ⟨ad, ha, hbB, hcc⟩ := HH.out.2.2.2 (by omega)
      subst ha
      have cc := (HL.out.inv.bl.cell (p := ad.add j) (by rw [block_of_add]; exact hbB)).trans (hcc j hlt)
      clear hcc
      have HC := Lib.hid (enterI HL.out.inv ((j : Int) + 1) (Y j))
      generalize hm : Y j = m at *
      have HM := Lib.hid hm
      clear hm
      by_cases m1 : m < 0
      · have he : ent n 0 L ((j : Int) + 1) m = (false, 1, L) := by unfold ent; rw [if_pos m1]
        rw [he] at HC
        clear he
        go_wp2_with fail
        refine HC.out.mono ?_
        rintro e w3 ⟨A3, c3, rfl, hI⟩
        have HL3 := Lib.hid (show Lo w w3 A3 c3 n L b j from ⟨hI, HL.out.ord, HL.out.asc, HL.out.lt, HL.out.len⟩)
        have cc := (hI.bl.cell (p := ad.add j) (by rw [block_of_add]; exact hbB)).trans ((HL.out.inv.bl.cell (p := ad.add j) (by rw [block_of_add]; exact hbB)).symm.trans cc)
        clear hI
        go_wp2_with fail
        go_roundg (len - (j + 1))
        case measure => have := HK.out; omega
        case rel => exact ⟨j + 1, A3, c3, L, b, rfl, rfl, by go_num, rfl, by omega, HL3.out.next⟩
      · by_cases m2 : n < m
        · have hfr := HL.out.fresh
          have he : ent n 0 L ((j : Int) + 1) m = (false, 3, L) := by unfold ent; rw [if_neg m1, if_neg (by omega), if_pos m2]
          rw [he] at HC
          clear he hfr
          go_wp2_with fail
          refine HC.out.mono ?_
          rintro e w3 ⟨A3, c3, rfl, hI⟩
          have HL3 := Lib.hid (show Lo w w3 A3 c3 n L b j from ⟨hI, HL.out.ord, HL.out.asc, HL.out.lt, HL.out.len⟩)
          have cc := (hI.bl.cell (p := ad.add j) (by rw [block_of_add]; exact hbB)).trans ((HL.out.inv.bl.cell (p := ad.add j) (by rw [block_of_add]; exact hbB)).symm.trans cc)
          clear hI
          go_wp2_with fail
          go_roundg (len - (j + 1))
          case measure => have := HK.out; omega
          case rel => exact ⟨j + 1, A3, c3, L, b, rfl, rfl, by go_num, rfl, by omega, HL3.out.next⟩
        · have hll := HL.out.len
          have h4 : ¬ 64 ≤ L.length := by omega
          obtain ⟨hno, hord⟩ := ent_ord n L b HL.out.ord ((j : Int) + 1) m m1 HL.out.fresh m2 h4
          have hids := ent_ids n 0 L ((j : Int) + 1) m m1 HL.out.fresh m2 h4
          have hcode := ent_code n 0 L ((j : Int) + 1) m m1 HL.out.fresh m2 h4
          rw [hcode] at HC
          generalize hres : ent n 0 L ((j : Int) + 1) m = R at *
          obtain ⟨inn, code, L2⟩ := R
          simp only at hno hord hids hcode HC
          have hl2 : L2.length = L.length + 1 := by have := congrArg List.length hids; simpa [ids] using this
          have HNX := Lib.hid (And.intro hord (And.intro hids hl2))
          have HNO := Lib.hid hno
          clear hres hord hids hcode hl2
          go_wp2_with fail
          refine HC.out.mono ?_
          rintro e w3 ⟨A3, c3, rfl, hI⟩
          have HL3 := Lib.hid (show Lo w w3 A3 c3 n L2 (b || !inn) (j + 1) from ⟨hI, HNX.out.1, by rw [HNX.out.2.1]; exact asc_add _ _ _ HL.out.asc (fun x hx => by have := HL.out.lt x hx; omega) (by omega), fun x hx => by
            rw [HNX.out.2.1] at hx
            rcases List.mem_append.1 hx with hx | hx
            · have := HL.out.lt x hx; omega
            · obtain rfl := List.mem_singleton.1 hx; omega, by have := HNX.out.2.2; have := HL.out.len; omega⟩)
          have hn8 : (L.length : Int) + 1 = (L2.length : Int) := by have := HNX.out.2.2; omega
          have HN8 := Lib.hid hn8
          clear hI hn8 hno
          cases inn with
          | false =>
            cases b with
            | false =>
              go_wp2_with fail
              go_roundg (len - (j + 1))
              case measure => have := HK.out; omega
              case rel => exact ⟨j + 1, A3, c3, L2, true, rfl, by rw [← HN8.out], by go_num, rfl, by omega, HL3.out⟩
            | true =>
              go_wp2_with fail
              go_roundg (len - (j + 1))
              case measure => have := HK.out; omega
              case rel => exact ⟨j + 1, A3, c3, L2, true, rfl, by rw [← HN8.out], by go_num, rfl, by omega, HL3.out⟩
          | true =>
            cases b with
            | false =>
              go_wp2_with fail
              go_roundg (len - (j + 1))
              case measure => have := HK.out; omega
              case rel => exact ⟨j + 1, A3, c3, L2, false, rfl, by rw [← HN8.out], by go_num, rfl, by omega, HL3.out⟩
            | true => exact absurd HNO.out (by decide)
    · have hOrd := HL.out.ord.ord
      have hAsc := HL.out.asc
      have hI := HL.out.inv
      have HK0 := Lib.hid (And.intro hOrd (And.intro hAsc hI))
      generalize hNN : L.length = N at *
      have HNN := Lib.hid hNN
      clear hOrd hAsc hI hNN
      have hcond : ((decide (j < len) : Bool) && decide (j < 64)) = false := by
        by_cases h1 : j < len
        · by_cases h2 : j < 64
          · exact absurd ⟨h1, h2⟩ hlt
          · simp [h2]
        · simp [h1]
      by_cases hjl : j < len
      · have hj64 : ¬ j < 64 := fun h2 => hlt ⟨hjl, h2⟩
        clear hcond hlt
        go_wp2_with fail
        go_loopg [12, 13, 14, 15, 16, 17] N (fun k last_ gone_ i_ p15 p16 p17 wx => ∃ (A : Option Addr) (c : Nat) (L' : List Seat) (last : Int), last_ = .int .i64 last ∧ gone_ = .int .i64 ((N : Int) - (L'.length : Int)) ∧ i_ = .int .i64 ((N : Int) - (L'.length : Int)) ∧ k = L'.length ∧ L'.length ≤ N ∧ Inv w wx w.heap.size A c n 0 L' ∧ Ord n L' ∧ Asc last (ids L'))
        case atStart => exact ⟨A, c, L, 0, rfl, by rw [HNN.out]; simp, by rw [HNN.out]; simp, by rw [HNN.out], by rw [HNN.out]; exact Nat.le_refl _, HK0.out.2.2, HK0.out.1, HK0.out.2.1⟩
        case round =>
          obtain ⟨A, c, L', last, rfl, rfl, rfl, hk, hle, hI, hO, hAs⟩ := hrel
          have HK2 := Lib.hid hk
          have HI := Lib.hid hI
          have HO := Lib.hid (And.intro hO hAs)
          have HS := Lib.hid (seatsA hI)
          have hw64 := hI.wf.len
          clear hk hI hO hAs
          cases L' with
          | nil =>
            have HLE := Lib.hid hle
            simp only [List.length_nil, Int.ofNat_zero, Int.sub_zero] at hle ⊢
            clear hle
            go_wp2_with fail
            refine HS.out.mono ?_
            rintro e w3 ⟨A3, c3, rfl, hS3, hI3, hB3⟩
            have HS := Lib.hid (seatsA hI3)
            clear hS3 hI3 hB3
            go_wp2_with fail
            refine HS.out.mono ?_
            rintro e w4 ⟨A4, c4, rfl, hS4, hI4, hB4⟩
            have HC := Lib.hid (heapI hI4)
            clear hS4 hI4 hB4
            go_wp2_with fail
            refine HC.out.mono ?_
            rintro e w5 ⟨rfl, hI5, hsz⟩
            unfold heapV
            have hr0 : res ([] : List Seat) = 0 := rfl
            rw [hr0]
            have HI5 := Lib.hid hI5
            clear hI5 hsz hr0
            go_wp2
            go_ret
            exact ⟨by first | rfl | simp, HI5.out.bl⟩
          | cons s r =>
            have hsb := HI.out.wf.b s (by simp)
            have hsw := ord_head n s r HO.out.1 hsb.2.1
            have HSW := Lib.hid hsw
            have hsid : last < s.id := HO.out.2.1
            have hle2 : r.length + 1 ≤ N := by simpa using hle
            have hN64 : (r.length : Int) + 1 ≤ N := by omega
            have hk1 : (((s :: r).length : Nat) : Int) = (r.length : Int) + 1 := by simp
            rw [hk1]
            generalize hgg : (N : Int) - ((r.length : Int) + 1) = G at *
            have HGG := Lib.hid hgg
            have hG0 : 0 ≤ G := by omega
            have hG1 : G ≤ N := by omega
            have HN := Lib.hid hle2
            clear hle hle2 hN64 hk1 hgg hsb hw64
            go_wp2_with fail
            refine HS.out.mono ?_
            rintro e w3 ⟨A3, c3, rfl, hS3, hI3, hB3⟩
            obtain ⟨b, hA, hbb, hbl, hfz, e0, e1, e2, e3⟩ := hS3.at_.at_ (i := 0) rfl
            subst hA
            simp only [Nat.zero_mul, Nat.zero_add] at e0 e1 e2 e3
            rw [hsw] at e3
            have HC := Lib.hid (stalledO hI3)
            have HD := Lib.hid (leaveI hI3 s.id)
            rw [lea_head] at HD
            clear hS3 hI3 hB3 hfz hsw e1 e2
            go_wp2_with fail
            refine HC.out.mono ?_
            rw [show stl (s :: r) = false from HSW.out]
            rintro e w4 ⟨rfl, rfl⟩
            go_wp2_with fail
            refine HD.out.mono ?_
            rintro e w5 ⟨A', c', O, co, rfl, hOw, hI5⟩
            have HI5 := Lib.hid hI5
            clear hOw hI5
            go_wp2_with fail
            go_roundg r.length
            case measure => have := HK2.out; simp at this; omega
            case rel =>
              have q := HGG.out
              have q2 := HN.out
              refine ⟨A', c', (admit n 0 r).1, s.id, rfl, ?_, ?_, by rw [admit_len], by rw [admit_len]; omega, HI5.out, ord_tail n s r HO.out.1 HSW.out, ?_⟩
              · rw [admit_len]; congr 1; omega
              · rw [admit_len]; congr 1; omega
              · show Asc s.id (ids (adm _ r).1)
                rw [adm_ids]; exact HO.out.2.2
      · clear hcond hlt
        go_wp2_with fail
        go_loopg [12, 13, 14, 15, 16, 17] N (fun k last_ gone_ i_ p15 p16 p17 wx => ∃ (A : Option Addr) (c : Nat) (L' : List Seat) (last : Int), last_ = .int .i64 last ∧ gone_ = .int .i64 ((N : Int) - (L'.length : Int)) ∧ i_ = .int .i64 ((N : Int) - (L'.length : Int)) ∧ k = L'.length ∧ L'.length ≤ N ∧ Inv w wx w.heap.size A c n 0 L' ∧ Ord n L' ∧ Asc last (ids L'))
        case atStart => exact ⟨A, c, L, 0, rfl, by rw [HNN.out]; simp, by rw [HNN.out]; simp, by rw [HNN.out], by rw [HNN.out]; exact Nat.le_refl _, HK0.out.2.2, HK0.out.1, HK0.out.2.1⟩
        case round =>
          obtain ⟨A, c, L', last, rfl, rfl, rfl, hk, hle, hI, hO, hAs⟩ := hrel
          have HK2 := Lib.hid hk
          have HI := Lib.hid hI
          have HO := Lib.hid (And.intro hO hAs)
          have HS := Lib.hid (seatsA hI)
          have hw64 := hI.wf.len
          clear hk hI hO hAs
          cases L' with
          | nil =>
            have HLE := Lib.hid hle
            simp only [List.length_nil, Int.ofNat_zero, Int.sub_zero] at hle ⊢
            clear hle
            go_wp2_with fail
            refine HS.out.mono ?_
            rintro e w3 ⟨A3, c3, rfl, hS3, hI3, hB3⟩
            have HS := Lib.hid (seatsA hI3)
            clear hS3 hI3 hB3
            go_wp2_with fail
            refine HS.out.mono ?_
            rintro e w4 ⟨A4, c4, rfl, hS4, hI4, hB4⟩
            have HC := Lib.hid (heapI hI4)
            clear hS4 hI4 hB4
            go_wp2_with fail
            refine HC.out.mono ?_
            rintro e w5 ⟨rfl, hI5, hsz⟩
            unfold heapV
            have hr0 : res ([] : List Seat) = 0 := rfl
            rw [hr0]
            have HI5 := Lib.hid hI5
            clear hI5 hsz hr0
            go_wp2
            go_ret
            exact ⟨by first | rfl | simp, HI5.out.bl⟩
          | cons s r =>
            have hsb := HI.out.wf.b s (by simp)
            have hsw := ord_head n s r HO.out.1 hsb.2.1
            have HSW := Lib.hid hsw
            have hsid : last < s.id := HO.out.2.1
            have hle2 : r.length + 1 ≤ N := by simpa using hle
            have hN64 : (r.length : Int) + 1 ≤ N := by omega
            have hk1 : (((s :: r).length : Nat) : Int) = (r.length : Int) + 1 := by simp
            rw [hk1]
            generalize hgg : (N : Int) - ((r.length : Int) + 1) = G at *
            have HGG := Lib.hid hgg
            have hG0 : 0 ≤ G := by omega
            have hG1 : G ≤ N := by omega
            have HN := Lib.hid hle2
            clear hle hle2 hN64 hk1 hgg hsb hw64
            go_wp2_with fail
            refine HS.out.mono ?_
            rintro e w3 ⟨A3, c3, rfl, hS3, hI3, hB3⟩
            obtain ⟨b, hA, hbb, hbl, hfz, e0, e1, e2, e3⟩ := hS3.at_.at_ (i := 0) rfl
            subst hA
            simp only [Nat.zero_mul, Nat.zero_add] at e0 e1 e2 e3
            rw [hsw] at e3
            have HC := Lib.hid (stalledO hI3)
            have HD := Lib.hid (leaveI hI3 s.id)
            rw [lea_head] at HD
            clear hS3 hI3 hB3 hfz hsw e1 e2
            go_wp2_with fail
            refine HC.out.mono ?_
            rw [show stl (s :: r) = false from HSW.out]
            rintro e w4 ⟨rfl, rfl⟩
            go_wp2_with fail
            refine HD.out.mono ?_
            rintro e w5 ⟨A', c', O, co, rfl, hOw, hI5⟩
            have HI5 := Lib.hid hI5
            clear hOw hI5
            go_wp2_with fail
            go_roundg r.length
            case measure => have := HK2.out; simp at this; omega
            case rel =>
              have q := HGG.out
              have q2 := HN.out
              refine ⟨A', c', (admit n 0 r).1, s.id, rfl, ?_, ?_, by rw [admit_len], by rw [admit_len]; omega, HI5.out, ord_tail n s r HO.out.1 HSW.out, ?_⟩
              · rw [admit_len]; congr 1; omega
              · rw [admit_len]; congr 1; omega
              · show Asc s.id (ids (adm _ r).1)
                rw [adm_ids]; exact HO.out.2.2
theorem order_walk (n : Int) (hn : n ≤ 9223372036854775807) (a : Option Addr) (len cap : Nat) (Y : Nat → Int) (w : World) (h : Nums .i64 w w.heap.size a len cap Y) (hsm : len * 8 ≤ reachBytes) : Calls Try.prog 4 #[.int .i64 n, .slice a len cap] w fun e w' => e = .returned (.bool true) ∧ Below w.heap.size w w' := by
  by_cases h1 : 1 ≤ n ∧ n ≤ 1073741824
  · exact order_ok n a len cap Y w h h1.1 h1.2 hsm
  · exact order_bad n a len cap w h1
end Go.Proofs.Ytliliimdkkaocaa
