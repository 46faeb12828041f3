import Derived.Test.YthbbiobffoihaaaCnt
/- counted: its walk. -/
namespace Go.Proofs.Ythbbiobffoihaaa
open Go.RowKit Go.BigFrame
set_option linter.unusedVariables false
set_option linter.unusedSimpArgs false
attribute [local go_sem] szIs_lit row_at row_past row_alloc nf_alloc row_set nf_set row_cell nf_cell row_drew nf_drew row_drewN nf_drewN cell_setRow frozen_setRow nlt1 nlt2 nlt3 nlt4 nne1 nne2 nne3 nen1 nen2 nen3
set_option maxRecDepth 20000
theorem KC.getD {K : IM} {c : Int → Nat} (h : KC K c) (x : Int) : (K.get x).getD (.int .i64 0) = .int .i64 (c x : Int) := by
  rw [h x]
  by_cases h0 : c x = 0
  · rw [if_pos h0, h0]; rfl
  · rw [if_neg h0]; rfl
set_option maxHeartbeats 8000000 in
theorem counted_ok {w : World} {ob g m a c : Nat} {vr vx : Value} {ts : TS} {L : PL Fl} (h : WR w ob g m a c vr vx ts L) (hci : CI ts L) (hts : ts.length ≤ 12) :
    Calls Try.prog 15 #[.pointer (some ⟨ob, 0, none⟩), .int .i64 (L.length : Int)] w fun e w' => e = .returned (.bool true) ∧ Below w.heap.size w w' := by
  have hmk := run_makeMap (P := Try.prog) 74 w
  have hb1 : Below w.heap.size w (w.alloc (.map #[] 0)) := (Below.refl _ _).alloc (Nat.le_refl _) _
  have hm1 : IMap (w.alloc (.map #[] 0)) w.heap.size [] := IMap.made w
  have hL64 := h.fr.len
  obtain ⟨q0, q1, q2, q3, q4⟩ := (h.below hb1).cells
  have HH := Lib.hid h
  have HCI := Lib.hid hci
  have HB1 := Lib.hid hb1
  have HM1 := Lib.hid hm1
  clear h hci hb1 hm1
  obtain ⟨n, hn⟩ : ∃ n, n = ts.length := ⟨_, rfl⟩
  rw [← hn] at q1 hts
  have HN := Lib.hid hn
  clear hn
  go_enter Try.func15, Try.ntmps15
  go_wp2_with fail
  generalize hkb : w.heap.size = kb at *
  have HKB := Lib.hid hkb
  clear hkb q0 q1 q2 q3 q4 hmk
  go_loopg [22] n (fun k i_ wr => ∃ (j : Nat) (K : IM), i_ = .int .i64 (j : Int) ∧ k = n - j ∧ j ≤ n ∧ IMap wr kb K ∧ KC K (cn (ts.take j)) ∧ Below kb w wr)
  case atStart => exact ⟨0, [], rfl, rfl, by omega, HM1.out, KC.nil.congr (fun x => by simp [cn, cntT]), HB1.out⟩
  case round =>
    obtain ⟨j, K, rfl, hk, hj, hM, hK, hB⟩ := hrel
    have hW := HH.out.below (by rw [HKB.out]; exact hB)
    have HK1 := Lib.hid hk
    have HR := Lib.hid (And.intro hM (And.intro hK hB))
    have HW := Lib.hid hW
    clear hk hM hK hB
    have hw1 : IntKind.i64.wrap ((j : Int) + 1) = (j : Int) + 1 := IntWalk.i64_in _ (by omega)
    by_cases hlt : j < n
    · obtain ⟨p, hp⟩ : ∃ p, ts[j]? = some p := ⟨_, List.getElem?_eq_getElem (by rw [← HN.out]; exact hlt)⟩
      obtain ⟨t, D⟩ := p
      have hct := hW.tcell hp
      have HP := Lib.hid hp
      have HT := Lib.hid (hW.tab hp).1
      have hnc : n ≤ c := by have := hW.row.le.1; rw [← HN.out] at this; exact this
      clear hp hW
      go_wp2_with fail
      refine (fds_ok HT.out).mono ?_
      rintro e w2 ⟨A, d, rfl, hr, hb, hA⟩
      have hM2 := HR.out.1.heap (hb.block kb HR.out.1.lt)
      have hB2 : Below kb w w2 := HR.out.2.2.trans (hb.mono (by have := HR.out.2.2.size; have := HKB.out; omega))
      have HX := Lib.hid (And.intro hM2 (And.intro hr hB2))
      have HAK := Lib.hid (show ∀ k, blkOf A = some k → kb < k from fun k q => by have := hA k q; have := HR.out.1.lt; omega)
      have hfl := fdl_len D 16
      clear hr hb hA hM2 hB2
      obtain ⟨l, hl⟩ : ∃ l, l = (fdl D 16).length := ⟨_, rfl⟩
      have HL := Lib.hid hl
      rw [← hl] at hfl ⊢
      clear hl
      go_wp2_with fail
      go_loopg [29] l (fun k i_ wr => ∃ (q : Nat) (K : IM), i_ = .int .i64 (q : Int) ∧ k = l - q ∧ q ≤ l ∧ IMap wr kb K ∧ KC K (fun x => cn (ts.take j) x + cq D q x) ∧ Below kb w wr ∧ Rw wr 3 1 A l d (iv (fdl D 16)))
      case atStart => exact ⟨0, K, rfl, rfl, by omega, HX.out.1, HR.out.2.1.congr (fun x => by simp [cq]), HX.out.2.2, by rw [HL.out]; exact HX.out.2.1⟩
      case round =>
        obtain ⟨q, K2, rfl, hk, hq, hM, hK, hB, hr⟩ := hrel
        have HK2 := Lib.hid hk
        have HR2 := Lib.hid (And.intro hM (And.intro hK (And.intro hB hr)))
        have hw2 : IntKind.i64.wrap ((q : Int) + 1) = (q : Int) + 1 := IntWalk.i64_in _ (by omega)
        by_cases hlt2 : q < l
        · obtain ⟨f, hf⟩ : ∃ f, (fdl D 16)[q]? = some f := ⟨_, List.getElem?_eq_getElem (by rw [← HL.out]; exact hlt2)⟩
          obtain ⟨i, x, rfl, hx, hx1⟩ := mem_fdl_get HT.out.len hf
          have hT : TR wr t g D := (HH.out.below (w' := wr) (by rw [HKB.out]; exact hB)).tab HP.out |>.1
          have HG := Lib.hid (tget_ok hT i x hx hx1)
          obtain ⟨b, rfl⟩ := hr.some_ (by omega)
          have e1 : wr.cell? ⟨b, q, none⟩ = some (.int .i64 (i : Int)) := (hr.cell q (by omega)).trans (iv_get hf)
          have hlk : (Instr.lookup 74 (.map (some kb)) (.int .i64 x) false).run Try.prog wr = .ok (.int .i64 ((cn (ts.take j) x + cq D q x : Nat) : Int)) wr := by
            rw [imap_lookup hM ty74 ty3 (zero3 wr) x false, hK.getD x]; rfl
          obtain ⟨w5, u1, u2, u3, u4⟩ := imap_update hM ty74 ty3 x (.int .i64 (((cn (ts.take j) x + cq D q x : Nat) : Int) + 1))
          have hK5 := hK.put x
          have hcs : cn (ts.take j) x + cq D q x ≤ 1000 := by
            have h1 : cn (ts.take j) x ≤ 16 * 12 := by
              unfold cn
              rw [if_neg hx1]
              have := cntT_le (ts := ts.take j) (fun p hp => (HH.out.tabs p (List.mem_of_mem_take hp)).len) x
              have h2 : (ts.take j).length ≤ 12 := by simp; have := HN.out; omega
              omega
            have h2 : cq D q x ≤ 16 := by
              unfold cq
              refine Nat.le_trans List.countP_le_length ?_
              simp; have := HL.out; omega
            omega
          generalize hcx : cn (ts.take j) x + cq D q x = cx at *
          have hw3 : IntKind.i64.wrap ((cx : Int) + 1) = (cx : Int) + 1 := IntWalk.i64_in _ (by omega)
          have HU := Lib.hid (And.intro u2 (And.intro u3 (And.intro hK5 (And.intro hf (And.intro hx hcx)))))
          clear hk hM hK hB hr hf hx hT u2 u3 hK5 hcs hcx u4
          go_wp2_with fail
          refine HG.out.mono ?_
          rintro e w4 ⟨rfl, rfl⟩
          go_wp2_with fail
          go_roundg (l - (q + 1))
          case measure => have := HK2.out; omega
          case rel =>
            obtain ⟨v1, v2, v3, v4, v5, v6⟩ := HU.out
            refine ⟨q + 1, _, by first | rfl | go_num, rfl, by omega, v1, ?_, ?_, ?_⟩
            · exact v3.congr fun y => by rw [cq_succ D v4 (by simpa using v5) y]; omega
            · exact HR2.out.2.2.1.trans (v2.below (B := kb) (fun k hk e => by omega) (by have := HR2.out.2.2.1.size; have := HKB.out; omega))
            · exact HR2.out.2.2.2.ch v2 (fun k e q => by have := HAK.out k e; omega)
        · obtain rfl : q = l := by omega
          have HR3 := Lib.hid (And.intro hM (And.intro hK hB))
          clear hk hM hK hB hr
          go_wp2_with fail
          go_roundg (n - (j + 1))
          case measure => have := HK1.out; omega
          case rel =>
            refine ⟨j + 1, K2, by first | rfl | go_num, rfl, by omega, HR3.out.1, HR3.out.2.1.congr fun y => ?_, HR3.out.2.2⟩
            rw [cn_succ ts HP.out y, HL.out, cq_all D HT.out.len y]
    · obtain rfl : j = n := by omega
      have hlen : K.length = L.length := HR.out.2.1.congr (fun x => by rw [HN.out, List.take_length]) |>.len HR.out.1.nodup HH.out.fr.pm.knd (fun x hx => (HH.out.fr.ids x hx).1) HCI.out
      obtain ⟨q0, q1, q2, q3, q4⟩ := hW.cells
      have HA := Lib.hid (all_ok hW.fr)
      have hln := imap_len HR.out.1 ty74
      rw [hlen] at hln
      clear hW hlt
      go_wp2_with fail
      refine HA.out.mono ?_
      rintro e w2 ⟨A, d, rfl, hr, hb, hA⟩
      have hM2 := HR.out.1.heap (hb.block kb HR.out.1.lt)
      have hB2 : Below kb w w2 := HR.out.2.2.trans (hb.mono (by have := HR.out.2.2.size; have := HKB.out; omega))
      obtain ⟨o9, c9, r1, r2⟩ := IIt.start hM2 ty74
      have hba : Below w2.heap.size w2 (w2.alloc o9) := (Below.refl _ _).alloc (Nat.le_refl _) o9
      have hB9 : Below kb w (w2.alloc o9) := hB2.trans (hba.mono (by have := hB2.size; have := HKB.out; omega))
      have HI := Lib.hid (And.intro r2 (And.intro hB9 hM2.lt))
      have HKC := Lib.hid (HR.out.2.1.congr (d := cn ts) (fun x => by rw [HN.out, List.take_length]))
      clear hr hb hA hM2 hB2 r2 hba hB9 q0 q1 q2 q3 q4
      go_wp2_with fail
      generalize hri : w2.heap.size = ri at *
      go_loopg [63] c9 (fun k p9 wr => IIt wr ri kb K k ∧ Below kb w wr)
      case atStart => exact ⟨HI.out.1, HI.out.2.1⟩
      case round =>
        obtain ⟨hit, hB⟩ := hrel
        have hkr : kb < ri := HI.out.2.2
        rcases hit.next 0 with e1 | ⟨x, vv, w9, c6, p1, p2, p3, p4, p5, p6, p7⟩
        · have HB := Lib.hid hB
          clear hit hB
          go_wp2_with fail
          go_ret
          exact ⟨by first | rfl | simp, by rw [HKB.out]; exact HB.out⟩
        · obtain ⟨rfl, hpos⟩ := HKC.out.pos p1
          have hx1 : x ≠ -1 := fun e => by subst e; simp [cn] at hpos
          obtain ⟨q, hq⟩ := HCI.out.get_pos hx1 (by unfold cn at hpos; rw [if_neg hx1] at hpos; exact hpos)
          obtain ⟨b, kd, wh, at_, fg, rf⟩ := q
          have hrf : ((cn ts x : Nat) : Int) = rf := by
            have := HCI.out.eq x hx1
            unfold refs at this
            rw [hq] at this
            unfold cn
            rw [if_neg hx1]
            exact this
          have hB9 : Below kb w w9 := hB.trans (p5.below (B := kb) (fun k hk e => by omega) (by have := hB.size; have := HKB.out; omega))
          have hW9 := HH.out.below (w' := w9) (by rw [HKB.out]; exact hB9)
          have HG := Lib.hid (fget_yes hW9.fr hq)
          obtain ⟨q0, q1, q2, q3, q4⟩ := hW9.cells
          have HB9 := Lib.hid hB9
          have HIT := Lib.hid p4
          have HP2 := Lib.hid p2
          rw [hrf] at p3 p7
          clear hit hB hpos hq hrf hB9 hW9 p1 p4 p5 p6 p2
          go_wp2_with fail
          refine HG.out.mono ?_
          rintro e w5 ⟨rfl, hb⟩
          have HIT5 := Lib.hid (HIT.out.heap (hb.block kb HIT.out.map.lt) (hb.block ri HIT.out.rlt))
          have HB5 := Lib.hid (HB9.out.trans (hb.mono (by have := HB9.out.size; have := HKB.out; omega)))
          clear hb
          have hk8 : Blk (w5.alloc (.cells #[.int .i64 0, .int .i64 0, .int .i64 0, .int .i64 0, .int .i64 0] 40)) w5.heap.size #[.int .i64 0, .int .i64 0, .int .i64 0, .int .i64 0, .int .i64 0] := Blk.of_heap (heap_at rfl)
          have hb8 : Below w5.heap.size w5 (w5.alloc (.cells #[.int .i64 0, .int .i64 0, .int .i64 0, .int .i64 0, .int .i64 0] 40)) := (Below.refl _ _).alloc (Nat.le_refl _) _
          obtain ⟨w6, s1, s2, s3, s4⟩ := store5 (w5.alloc (.cells #[.int .i64 0, .int .i64 0, .int .i64 0, .int .i64 0, .int .i64 0] 40)) w5.heap.size 0 0 0 0 0 kd wh at_ fg rf hk8
          have hb9 : Below w5.heap.size w5 w6 := hb8.trans (s3.below (B := w5.heap.size) (fun k hk q => by omega) hb8.size)
          have HIT6 := Lib.hid (HIT5.out.heap (hb9.block kb HIT5.out.map.lt) (hb9.block ri HIT5.out.rlt))
          have HB6 := Lib.hid (HB5.out.trans (hb9.mono (by have := HB5.out.size; have := HKB.out; omega)))
          have hc4 : w6.cell? ⟨w5.heap.size, 4, none⟩ = some (.int .i64 rf) := (s2.all.2.2.1 4).trans rfl
          clear hk8 hb8 hb9 s2 s3 s4
          generalize hu8 : w5.alloc (.cells #[.int .i64 0, .int .i64 0, .int .i64 0, .int .i64 0, .int .i64 0] 40) = w8 at *
          go_wp2_with (first | (rw [hu8]) | (refine wpList_runU rfl (s := Instr.storeAt 40 (.pointer (some ⟨w5.heap.size, 0, none⟩)) (.agg #[.int .i64 kd, .int .i64 wh, .int .i64 at_, .int .i64 fg, .int .i64 rf])) (by kernel_rfl) s1 ?_) | fail)
          go_roundg c6
          case measure => exact HP2.out
          case rel => exact ⟨HIT6.out, HB6.out⟩
end Go.Proofs.Ythbbiobffoihaaa
