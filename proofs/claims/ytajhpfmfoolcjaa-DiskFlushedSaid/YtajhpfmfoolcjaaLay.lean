import Derived.Test.YtajhpfmfoolcjaaDo
/- filled, sameInts; Flush. -/
namespace Go.Proofs.Ytajhpfmfoolcjaa
open Go.RowKit Go.BigFrame
set_option linter.unusedVariables false
set_option linter.unusedSimpArgs false
attribute [local go_sem] szIs_lit row_at row_past row_alloc nf_alloc row_set nf_set row_cell nf_cell row_drew nf_drew row_drewN nf_drewN cell_setRow frozen_setRow nlt1 nlt2 nlt3 nlt4 nne1 nne2 nne3 nen1 nen2 nen3
section
variable {w : World} {a : DA} {S : DS}
/-- Byte i of what a byte begins. -/
def fb (c : Int) (i : Nat) : Int := (c + (i : Int) % 256 * 7) % 256
def fil (n : Nat) (c : Int) : List Int := (List.range n).map (fb c)
theorem fil_len (n : Nat) (c : Int) : (fil n c).length = n := by simp [fil]
theorem fil_get {n i : Nat} (c : Int) (h : i < n) : (fil n c)[i]? = some (fb c i) := by simp [fil, h]
set_option maxRecDepth 100000 in
set_option maxHeartbeats 1000000 in
theorem filled_ok (n : Nat) (hn : n ≤ 1048576) (c : Int) (w : World) : Calls Try.prog 11 #[.int .i64 (n : Int), .int .u8 c] w fun e w' => ∃ b, e = .returned (.slice (some ⟨b, 0, none⟩) n n) ∧ Rw w' 5 1 (some ⟨b, 0, none⟩) n n (bv (fil n c)) ∧ Below w.heap.size w w' ∧ w.heap.size ≤ b := by
  obtain ⟨e1, e2⟩ := make_one (P := Try.prog) byT rfl n (by omega) (by omega) w
  rw [← bv_rep] at e2
  have hb1 : Below w.heap.size w (w.alloc (.cells (madeCells #[.int .u8 0] n) 5)) := (Below.refl _ _).alloc (Nat.le_refl _) _
  have HE := Lib.hid (And.intro e2 hb1)
  clear e2 hb1
  go_enter Try.func11, Try.ntmps11
  go_wp2_with fail
  generalize w.alloc (.cells (madeCells #[.int .u8 0] n) 5) = w1 at *
  generalize hwb : w.heap.size = wb at *
  go_loopg [12] n (fun k i_ wr => ∃ (j : Nat) (cur : List Int), i_ = .int .i64 (j : Int) ∧ k = n - j ∧ j ≤ n ∧ Rw wr 5 1 (some ⟨wb, 0, none⟩) n n (bv cur) ∧ cur.length = n ∧ (∀ i, i < j → cur[i]? = some (fb c i)) ∧ Below wb w wr)
  case atStart => exact ⟨0, _, rfl, rfl, by omega, HE.out.1, by simp, by omega, HE.out.2⟩
  case round =>
    obtain ⟨j, cur, rfl, hk, hj, hr, hl, hg, hb⟩ := hrel
    have HK := Lib.hid hk
    have HR := Lib.hid hr
    have HG := Lib.hid hg
    have HB := Lib.hid hb
    have HL := Lib.hid hl
    clear hk hr hg hb hl
    by_cases hlt : j < n
    · obtain ⟨y, hy⟩ : ∃ y, wr.cell? ⟨wb, j, none⟩ = some y := by
        rw [HR.out.cell j (by omega)]
        have : j < (bv cur).length := by rw [bv_len, HL.out]; exact hlt
        exact ⟨_, List.getElem?_eq_getElem this⟩
      have hz := HR.out.frozen j
      have hsz := HB.out.size
      go_wp2_with fail
      go_roundg (n - (j + 1))
      case measure => have := HK.out; omega
      case rel =>
        refine ⟨j + 1, cur.set j (fb c j), by go_num, rfl, by omega, ?_, by simpa using HL.out, fun i hi => ?_, HB.out.setCell (Nat.le_refl _) _⟩
        · have := HR.out.put j (.int .u8 (fb c j))
          have e : (bv cur).set j (.int .u8 (fb c j)) = bv (cur.set j (fb c j)) := by simp [bv, List.map_set]
          rw [e] at this
          exact this
        · by_cases e : i = j
          · subst e; rw [List.getElem?_set_self (by rw [HL.out]; exact hlt)]
          · rw [List.getElem?_set_ne (fun q => e q.symm)]; exact HG.out i (by omega)
    · obtain rfl : j = n := by omega
      have hcur : cur = fil j c := by
        apply List.ext_getElem?
        intro i
        by_cases hi : i < j
        · rw [HG.out i hi, fil_get c hi]
        · rw [List.getElem?_eq_none (by rw [HL.out]; omega), List.getElem?_eq_none (by rw [fil_len]; omega)]
      have HC := Lib.hid hcur
      clear hcur
      go_wp2_with fail
      go_ret
      rw [hwb]
      exact ⟨wb, by first | rfl | simp, by rw [← HC.out]; exact HR.out, HB.out, Nat.le_refl _⟩
set_option maxRecDepth 100000 in
set_option maxHeartbeats 1000000 in
theorem same_yes (w : World) (A A2 : Option Addr) (n c c2 : Nat) (l : List Int) (h : Rw w 3 1 A n c (iv l)) (h2 : Rw w 3 1 A2 n c2 (iv l)) (hn : n ≤ 2 ^ 46) : Calls Try.prog 20 #[.slice A n c, .slice A2 n c2] w fun e w' => e = .returned (.bool true) ∧ ∃ k, w' = w.drewN k := by
  have HH := Lib.hid h
  have HH2 := Lib.hid h2
  have hl := h.len
  rw [iv_len, Nat.mul_one] at hl
  have HL := Lib.hid hl
  clear h h2 hl
  go_enter Try.func20, Try.ntmps20
  go_wp2_with fail
  go_loopg [13] n (fun k i_ wr => ∃ (j : Nat), i_ = .int .i64 (j : Int) ∧ k = n - j ∧ j ≤ n ∧ ∃ m, wr = w.drewN m)
  case atStart => exact ⟨0, rfl, rfl, by omega, 0, rfl⟩
  case round =>
    obtain ⟨j, rfl, hk, hj, m, rfl⟩ := hrel
    have HK := Lib.hid hk
    clear hk
    by_cases hlt : j < n
    · obtain ⟨x, hx⟩ : ∃ x, l[j]? = some x := ⟨_, List.getElem?_eq_getElem (by rw [HL.out]; exact hlt)⟩
      obtain ⟨b, rfl⟩ := HH.out.some_ (by omega)
      obtain ⟨b2, rfl⟩ := HH2.out.some_ (by omega)
      have d1 : w.cell? ⟨b, j, none⟩ = some (.int .i64 x) := (HH.out.cell j (by omega)).trans (iv_get hx)
      have d2 : w.cell? ⟨b2, j, none⟩ = some (.int .i64 x) := (HH2.out.cell j (by omega)).trans (iv_get hx)
      clear hx
      go_wp2_with fail
      go_quiet (fail)
      go_wp2_with fail
      go_roundg (n - (j + 1))
      case measure => have := HK.out; omega
      case rel => exact ⟨j + 1, by go_num, rfl, by omega, _, rfl⟩
    · obtain rfl : j = n := by omega
      go_wp2_with fail
      go_ret
      exact ⟨by first | rfl | simp, m, rfl⟩
def lay1 (q : List Int) (p : PW) : List Int := lay q (p.n * 512) p.bs
def DS.setP (S : DS) (q : List Int) : DS := { S with plat := q }
/-- The platter is another. -/
theorem DR.lay (H : DR w a S) {w' : World} {q : List Int} (hq : q.length = S.plat.length) (hr : Rw w' 5 1 (some ⟨a.pb, 0, none⟩) S.plat.length a.pc (bv q)) (hc : Ch (· = a.pb) w w') : DR w' a (S.setP q) ∧ Mv w a S w' a (S.setP q) := by
  obtain ⟨M, hm, hM⟩ := H.map
  refine ⟨⟨?_, by show Rw w' 5 1 _ q.length a.pc (bv q); rw [hq]; exact hr, H.pend.ch hc fun k e e2 => H.ag.2.1 (e2 ▸ e), ⟨M, hm.ch hc (fun e => H.gp.2.2 e.symm), hM⟩, fun p hp => (H.rows p hp).ch hc fun k e e2 => (H.ar p hp).2.1 (by injection e with e; simp only at e e2 ⊢; omega), hq.trans H.size, H.c1, H.ins, H.lft, H.gp, H.ag, H.ar⟩, hc.mono fun k _ e => .inr (.inl e), rfl, fun k q => .inl q, fun k q => .inl q⟩
  have := H.blk.ch hc H.gp.1
  have e : dcells a (S.setP q) = dcells a S := by simp [dcells, DS.setP, hq]
  rw [e]; exact this
theorem rep_len (S : DS) (h : ∀ p ∈ S.pend, p.n < S.cnt ∧ p.bs.length = 512) : ∀ (l : List PW) (q : List Int), (∀ p ∈ l, p ∈ S.pend) → q.length = S.cnt * 512 → (l.foldl lay1 q).length = S.cnt * 512
  | [], q, _, hq => hq
  | p :: l, q, hl, hq => rep_len S h l _ (fun x hx => hl x (by simp [hx])) (by
    obtain ⟨h1, h2⟩ := h p (hl p (by simp))
    unfold lay1
    rw [lay_len _ _ _ (by omega)]; exact hq)
theorem DR.bsl (H : DR w a S) {p : PW} (hp : p ∈ S.pend) : p.bs.length = 512 := by
  have := (H.rows p hp).len
  rwa [bv_len, Nat.mul_one] at this
def DS.flush (S : DS) : DS := { S with plat := S.pend.foldl lay1 S.plat, pend := [] }
theorem flush_nil (w : World) : Calls Try.prog 12 #[.pointer none] w fun e w' => e = .returned (.int .i64 0) ∧ w = w' := by
  go_enter Try.func12, Try.ntmps12
  go_wp2
  go_ret
  exact ⟨by first | rfl | simp, rfl⟩
theorem flush_off (H : DR w a S) (ho : S.off = true) : Calls Try.prog 12 #[.pointer (some ⟨a.g, 0, none⟩)] w fun e w' => e = .returned (.int .i64 0) ∧ w = w' := by
  have HD := Lib.hid (does_off H ho)
  clear H ho
  go_enter Try.func12, Try.ntmps12
  go_wp2_with fail
  refine HD.out.mono ?_
  rintro e w' ⟨rfl, rfl⟩
  go_wp2
  go_ret
  exact ⟨by first | rfl | simp, rfl⟩
/-- What a region with one copy into the platter needs, ahead of it and behind it. -/
theorem copy_ok (H : DR w a S) (n : Nat) (hn : n < S.cnt) (A : Addr) (k sc : Nat) (x : List Int) (hx : x.length = k) (hk : k ≤ 512) (hs : ∀ (j : Nat) v, (bv x)[j]? = some v → w.cell? (A.add j) = some v) : ∃ w', (Builtin.copy_ #[33, 33] 3 #[.slice (some ⟨a.pb, n * 512, none⟩) 512 (a.pc - n * 512), .slice (some A) k sc]).run Try.prog w = .ok (.int .i64 k) w' ∧ DR w' a (S.setP (Go.Proofs.Ytajhpfmfoolcjaa.lay S.plat (n * 512) x)) ∧ Mv w a S w' a (S.setP (Go.Proofs.Ytajhpfmfoolcjaa.lay S.plat (n * 512) x)) := by
  have hs2 := H.size
  obtain ⟨w', e1, e2, e3, _⟩ := rw_copy w 3 a.pb (n * 512) 512 (a.pc - n * 512) A k sc H.plat hx hk hs (by omega)
  obtain ⟨g1, g2⟩ := H.lay (lay_len _ _ _ (by omega)) e2 e3
  exact ⟨w', e1, g1, g2⟩
set_option maxRecDepth 100000 in
set_option maxHeartbeats 4000000 in
theorem flush_on (H : DR w a S) (ho : S.off = false) (hlen : S.pend.length ≤ 2 ^ 42) : Calls Try.prog 12 #[.pointer (some ⟨a.g, 0, none⟩)] w fun e w' => ∃ a', e = .returned (.int .i64 (S.pend.length : Int)) ∧ DR w' a' S.dec.flush ∧ Mv w a S w' a' S.dec.flush := by
  have HD := Lib.hid (does_on H ho)
  have hd1 : S.dec.pend = S.pend := by unfold DS.dec; split <;> rfl
  have hSd : S.dec.flush = { S.dec with plat := S.pend.foldl lay1 S.dec.plat, pend := [] } := by unfold DS.flush; rw [hd1]
  rw [hSd]
  generalize hS1 : S.dec = S1 at *
  generalize hL : S.pend.length = L at *
  have HL := Lib.hid hL
  have hd2 := Lib.hid hd1
  clear H ho hS1 hSd hL hd1
  go_enter Try.func12, Try.ntmps12
  go_wp2_with fail
  refine HD.out.mono ?_
  rintro e w1 ⟨rfl, h1, h2⟩
  have H1 := Lib.hid (And.intro h1 h2)
  have c1 := h1.cells.2.1
  rw [hd2.out, HL.out] at c1
  obtain ⟨AA, hAA⟩ : ∃ AA, AA = a.A := ⟨_, rfl⟩
  rw [← hAA] at c1
  have HAA := Lib.hid hAA
  clear h1 h2 hAA
  go_wp2_with fail
  go_loopg [18] L (fun k i_ wr => ∃ (j : Nat), i_ = .int .i64 (j : Int) ∧ k = L - j ∧ j ≤ L ∧ DR wr a (S1.setP ((S.pend.take j).foldl lay1 S1.plat)) ∧ Mv w a S wr a (S1.setP ((S.pend.take j).foldl lay1 S1.plat)))
  case atStart => exact ⟨0, rfl, rfl, by omega, H1.out.1, H1.out.2⟩
  case round =>
    obtain ⟨j, rfl, hk, hj, hR, hM⟩ := hrel
    have HK := Lib.hid hk
    have HR := Lib.hid (And.intro hR hM)
    by_cases hlt : j < L
    · obtain ⟨p, hp⟩ : ∃ p, S.pend[j]? = some p := ⟨_, List.getElem?_eq_getElem (by rw [HL.out]; exact hlt)⟩
      have hpS : (S1.setP ((S.pend.take j).foldl lay1 S1.plat)).pend[j]? = some p := by rw [← hp, ← hd2.out]; rfl
      obtain ⟨b, hA, d0, d1⟩ := hR.pcell hpS
      have hpm : p ∈ (S1.setP ((S.pend.take j).foldl lay1 S1.plat)).pend := List.mem_of_getElem? hpS
      obtain rfl : AA = some ⟨b, 0, none⟩ := HAA.out.trans hA
      unfold PW.val at d1
      have hB : Below wr.heap.size wr (wr.alloc (.cells #[.int .i64 (p.n : Int), .slice (some ⟨p.b, 0, none⟩) 512 p.c] 69)).drew := ((Below.refl _ _).alloc (Nat.le_refl _) _).drew
      have h3 := hR.below hB
      have hn := hR.ins p hpm
      have hbl := hR.bsl hpm
      obtain ⟨w4, e1, e2, e3⟩ := copy_ok h3 p.n hn ⟨p.b, 0, none⟩ 512 p.c p.bs hbl (by omega) (fun j v hv => by
        rw [add_at, ((hR.rows p hpm).below hB).cell j (by have := (List.getElem?_eq_some_iff.1 hv).1; rw [bv_len] at this; omega)]; exact hv)
      have hfold : Go.Proofs.Ytajhpfmfoolcjaa.lay ((S.pend.take j).foldl lay1 S1.plat) (p.n * 512) p.bs = (S.pend.take (j + 1)).foldl lay1 S1.plat := by
        rw [List.take_add_one, hp]; simp [lay1]
      have hMM : Mv w a S w4 a (S1.setP ((S.pend.take (j + 1)).foldl lay1 S1.plat)) := by
        rw [← hfold]; exact (hM.trans (Mv.of_below _ _ hB)).trans e3
      have hRR : DR w4 a (S1.setP ((S.pend.take (j + 1)).foldl lay1 S1.plat)) := by rw [← hfold]; exact e2
      have HN := Lib.hid (And.intro hRR hMM)
      have HS := Lib.hid (sector_ok h3 p.n hn)
      have HCP := Lib.hid e1
      have x0 : (wr.alloc (.cells #[.int .i64 (p.n : Int), .slice (some ⟨p.b, 0, none⟩) 512 p.c] 69)).drew.cell? ⟨wr.heap.size, 0, none⟩ = some (.int .i64 (p.n : Int)) := by simp [go_sem]
      have x1 : (wr.alloc (.cells #[.int .i64 (p.n : Int), .slice (some ⟨p.b, 0, none⟩) 512 p.c] 69)).drew.cell? ⟨wr.heap.size, 1, none⟩ = some (.slice (some ⟨p.b, 0, none⟩) 512 p.c) := by simp [go_sem]
      have hobp : ¬ wr.heap.size = a.pb := fun e => by have := hR.plat.blt; omega
      have y0 := (World.cell?_of_block (a := ⟨wr.heap.size, 0, none⟩) (e3.ch.block wr.heap.size (by simp) (fun q => by have := hR.foot_lt (.inl q); omega))).trans x0
      have y1 := (World.cell?_of_block (a := ⟨wr.heap.size, 1, none⟩) (e3.ch.block wr.heap.size (by simp) (fun q => by have := hR.foot_lt (.inl q); omega))).trans x1
      clear hk hR hM e1 e2 e3 hMM hRR hfold hB h3 hpS hA hpm
      go_wp2_with fail
      generalize hw3 : wr.alloc (.cells #[.int .i64 (p.n : Int), .slice (some ⟨p.b, 0, none⟩) 512 p.c] 69) = w3 at *
      generalize hob : wr.heap.size = ob at *
      clear hw3
      refine wp_theta [3] [3, 6] (fun i v => i = 3 → v = .slice (some ⟨a.pb, p.n * 512, none⟩) 512 (a.pc - p.n * 512)) (fun ρ D u => u = if D 6 then w4 else w3.drew) (fun u => u.cell? ⟨ob, 0, none⟩ = some (.int .i64 (p.n : Int)) ∧ u.cell? ⟨ob, 1, none⟩ = some (.slice (some ⟨p.b, 0, none⟩) 512 p.c)) ?_ ?_ ?_ ?_ ?_ ?_ ?_ ?_ ?_ ?_
      · kernel_rfl
      · kernel_rfl
      · kernel_rfl
      · kernel_rfl
      · kernel_rfl
      · kernel_rfl
      · exact fun i hi => ⟨_, fun _ => rfl⟩
      · rfl
      · rintro ρ D u rfl; split; exact ⟨y0, y1⟩; exact ⟨x0, x1⟩
      · intro θ hθ
        simp only [SegsT, List.take_succ_cons, List.take_zero, List.drop_succ_cons, List.drop_zero, Nat.sub_zero, Nat.reduceSub, Nat.reduceAdd, List.drop_nil, List.take_nil]
        have t3 := hθ 3 (by decide) rfl
        haveI i1 : Nonempty (Wd fun u => u.cell? ⟨ob, 0, none⟩ = some (.int .i64 (p.n : Int)) ∧ u.cell? ⟨ob, 1, none⟩ = some (.slice (some ⟨p.b, 0, none⟩) 512 p.c)) := ⟨⟨_, x0, x1⟩⟩
        have l0 := fun s : Wd (fun u => u.cell? ⟨ob, 0, none⟩ = some (.int .i64 (p.n : Int)) ∧ u.cell? ⟨ob, 1, none⟩ = some (.slice (some ⟨p.b, 0, none⟩) 512 p.c)) => s.2.1
        have l1 := fun s : Wd (fun u => u.cell? ⟨ob, 0, none⟩ = some (.int .i64 (p.n : Int)) ∧ u.cell? ⟨ob, 1, none⟩ = some (.slice (some ⟨p.b, 0, none⟩) 512 p.c)) => s.2.2
        clear x0 x1 y0 y1
        repeat (go_big_quiet_step (fail))
        refine wpQuiet_nil ?_
        rw [if_pos (by decide)]
        refine ⟨thOK_call [] [6] 30 _ _ (by kernel_rfl) rfl (by kernel_rfl) #[.pointer (some ⟨a.g, 0, none⟩), .int .i64 (p.n : Int)] (by kernel_rfl) (by kernel_rfl) (fun ρ D u hq hK => ?_), ?_⟩
        · have h6 := hq.not 6 (by simp)
          rw [h6] at hK
          subst hK
          exact HS.out.mono fun e u' ⟨q1, q2⟩ => ⟨_, q1, fun _ => rfl, by subst q2; simp [upd, h6]⟩
        rw [t3]
        go_frame
        repeat (go_big_quiet_step (fail))
        refine wpQuiet_nil ?_
        rw [if_neg (by decide)]
        refine ⟨.int .i64 512, detOK_run [3] [] (by kernel_rfl) (by kernel_rfl) (fun ρ D u hq hK => ?_), ?_⟩
        · have h6 := hq.now
          rw [h6] at hK
          subst hK
          exact ⟨w4, run_box_any (s := Builtin.copy_ #[33, 33] 3 #[.slice (some ⟨a.pb, p.n * 512, none⟩) 512 (a.pc - p.n * 512), .slice (some ⟨p.b, 0, none⟩) 512 p.c]) (by kernel_rfl) HCP.out, by simp [upd]⟩
        try go_frame
        repeat (go_big_quiet_step (fail))
        refine wpQuiet_nil ?_
        intro u hK
        have hu : u = w4 := hK
        subst hu
        clear t3 l0 l1 i1 hθ hK

        go_wp2_with fail
        go_roundg (L - (j + 1))
        case measure => have := HK.out; omega
        case rel => exact ⟨j + 1, by go_num, rfl, by omega, HN.out⟩
    · obtain rfl : j = L := by omega
      have ht : S.pend.take j = S.pend := List.take_of_length_le (by rw [HL.out]; exact Nat.le_refl _)
      rw [ht] at hR hM
      have HCL := Lib.hid (clear_ok hR)
      have c1' := hR.cells.2.1
      have hpl : (S1.setP (S.pend.foldl lay1 S1.plat)).pend.length = j := by rw [← HL.out, ← hd2.out]; rfl
      rw [hpl] at c1'
      have HM := Lib.hid hM
      clear hR hM hk ht hpl HR c1
      go_wp2_with fail
      refine HCL.out.mono ?_
      rintro e w2 ⟨a', rfl, g1, g2, g3, g4, g5⟩
      have d7 := g1.cells.2.2.2.2.2.2.2.1
      have z7 := g1.cells.2.2.2.2.2.2.2.2 7
      have hg := g2.g
      rw [hg, g5] at d7
      rw [hg] at z7
      have hfin : ∃ a2, DR (w2.setCell ⟨a.g, 7, none⟩ (.int .i64 (wrap64 (a.fl + 1)))) a2 { S1 with plat := S.pend.foldl lay1 S1.plat, pend := [] } ∧ Mv w a S (w2.setCell ⟨a.g, 7, none⟩ (.int .i64 (wrap64 (a.fl + 1)))) a2 { S1 with plat := S.pend.foldl lay1 S1.plat, pend := [] } := by
        obtain ⟨q1, q2⟩ := g1.fld 7 (.int .i64 (wrap64 (a.fl + 1))) { a' with fl := wrap64 (a.fl + 1) } { S1 with plat := S.pend.foldl lay1 S1.plat, pend := [] } rfl ⟨rfl, rfl, rfl, rfl, rfl, rfl⟩ ⟨rfl, rfl, rfl⟩ g1.lft
        rw [hg] at q1 q2
        exact ⟨_, q1, (HM.out.trans g2).trans q2⟩
      have HFIN := Lib.hid hfin
      clear g1 g2 g3 g4 g5 hfin hg
      go_wp2
      go_ret
      obtain ⟨a2, r1, r2⟩ := HFIN.out
      exact ⟨a2, by first | rfl | simp, r1, r2⟩
end
end Go.Proofs.Ytajhpfmfoolcjaa
