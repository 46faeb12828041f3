import Derived.Test.YtajhpfmfoolcjaaFlA
import Derived.Test.YtajhpfmfoolcjaaLoads
/- What was flushed, and not written since, is read behind every crash. -/
namespace Go.Proofs.Ytajhpfmfoolcjaa
open Go.RowKit Go.BigFrame
set_option linter.unusedVariables false
set_option linter.unusedSimpArgs false
attribute [local go_sem] szIs_lit row_at row_past row_alloc nf_alloc row_set nf_set row_cell nf_cell row_drew nf_drew row_drewN nf_drewN cell_setRow frozen_setRow nlt1 nlt2 nlt3 nlt4 nne1 nne2 nne3 nen1 nen2 nen3
theorem LF.drew' {w0 wr : World} {g cnt kb lb : Nat} {a : DA} {S : DS} {K L : IM} (h : LF w0 wr g cnt kb lb a S K L) : LF w0 wr.drew g cnt kb lb a S K L := h.below (Below.refl _ _).drew
set_option maxRecDepth 100000 in
set_option maxHeartbeats 20000000 in
theorem flushed_walk (n : Int) (hn64 : -9223372036854775808 ≤ n ∧ n ≤ 9223372036854775807) (A : Option Addr) (len cap : Nat) (o : Nat → OpV) (A3 : Option Addr) (len3 cap3 : Nat) (o3 : Nat → TornV) (w : World) (h1 : AreOp w w.heap.size A len cap o) (h3 : AreTorn w w.heap.size A3 len3 cap3 o3) : Calls Try.prog 3 #[.int .i64 n, .slice A len cap, .slice A3 len3 cap3] w fun e w' => e = .returned (.bool true) ∧ Below w.heap.size w w' := by
  have HA := Lib.hid (awake_ok w)
  by_cases hn : 1 ≤ n ∧ n ≤ 4096
  · obtain ⟨cnt, rfl⟩ : ∃ cnt : Nat, n = (cnt : Int) := ⟨n.toNat, by omega⟩
    have hc1 : 1 ≤ cnt := by omega
    have hc2 : cnt ≤ 4096 := by omega
    have hlen : len ≤ 4398046511100 := by have := h1.2.2.1; unfold reachBytes at this; omega
    have hlen3 : len3 ≤ 2 ^ 43 := by have := h3.2.2.1; unfold reachBytes at this; omega
    have HOPS := Lib.hid h1
    have HKEEP := Lib.hid h3
    have HTN := Lib.hid (fun (v : World) (hv : Below w.heap.size w v) => (tn_of h3).below hv)
    have HKA := Lib.hid (fun (h0 : 0 < len3) k (e : blkOf A3 = some k) => show k < w.heap.size by
      obtain ⟨bb, off, e2, hbb, _⟩ := h3.2.2.2 h0
      rw [e2] at e; injection e with e; simp only at e; omega)
    clear hn hn64 h1 h3
    go_enter Try.func3, Try.ntmps3
    go_wp2_with fail
    refine HA.out.mono ?_
    rintro e w1 ⟨rfl, hb1⟩
    have HB1 := Lib.hid hb1
    clear hb1
    go_wp2_with fail
    refine (new_ok cnt w1 hc1 hc2).mono ?_
    rintro e w2 ⟨a, rfl, g1, g2, g3, g4⟩
    obtain ⟨g, hg⟩ : ∃ g, a.g = g := ⟨_, rfl⟩
    rw [hg]
    have ow0 : OW w w2 a (S0 cnt (List.replicate (cnt * 512) 0)) := ⟨g1, HB1.out.trans (Below.mono g2 HB1.out.size), fun k q => Nat.le_trans HB1.out.size (g3 k q)⟩
    have hbm : Below w2.heap.size w2 ((w2.alloc (.map #[] 0)).alloc (.map #[] 0)) := ((Below.refl _ _).alloc (Nat.le_refl _) _).alloc (by simp) _
    have hlt0 : LF w ((w2.alloc (.map #[] 0)).alloc (.map #[] 0)) g cnt w2.heap.size (w2.heap.size + 1) a (S0 cnt (List.replicate (cnt * 512) 0)) [] [] := by
      have hl2 := IMap.made (w2.alloc (.map #[] 0))
      have e1 : (w2.alloc (.map #[] 0)).heap.size = w2.heap.size + 1 := by simp
      rw [e1] at hl2
      refine ⟨ow0.below hbm, hg, rfl, rfl, (IMap.made w2).heap (Below.heap_alloc _ _ _ (by simp)), hl2, ⟨ow0.bl.size, by have := ow0.bl.size; omega, by omega⟩, ⟨fun q => by have := ow0.dr.foot_lt q; omega, fun q => by have := ow0.dr.foot_lt q; omega⟩, fun x hx => by
        have := (List.mem_replicate.1 hx).2; omega, by simp [S0], fun n v e => (by cases e), fun n v e => (by cases e)⟩
    have HL0 := Lib.hid hlt0
    have hmk := fun w => run_makeMap (P := Try.prog) 29 w
    clear g1 g2 g3 g4 hlt0 HB1 hg ow0 hbm
    go_wp2_with fail
    generalize hkb : w2.heap.size = kb at *
    generalize hlb : kb + 1 = lb at *
    generalize hw3 : (w2.alloc (.map #[] 0)).alloc (.map #[] 0) = w3 at *
    go_loopg [42] len (fun k i_ wr => ∃ (j : Nat) (a : DA) (S : DS) (K L : IM), i_ = .int .i64 (j : Int) ∧ k = len - j ∧ j ≤ len ∧ S.pend.length ≤ j ∧ LF w wr g cnt kb lb a S K L)
    case atStart => exact ⟨0, a, _, [], [], rfl, rfl, by omega, by simp [S0], HL0.out⟩
    case round =>
      clear HL0 hkb hlb hw3
      obtain ⟨j, a, S, K, L, rfl, hk, hj, hpl, hlt⟩ := hrel
      have HK := Lib.hid hk
      have HLR := Lib.hid hlt
      by_cases hjl : j < len
      · obtain ⟨bo, off, rfl, hbo, d0, d1, d2, d3, d4, d5⟩ := op_read HOPS.out hlt.ow.bl hjl
        have LP3 := hlt.below ((Below.refl _ _).alloc (Nat.le_refl _) (.cells #[.int .i64 (o j).x0, .int .i64 (o j).x1, .int .u8 (o j).x2, .int .i64 (o j).x3, .slice (o j).a4 (o j).l4 (o j).k4] 31))
        clear hk hlt d5
        by_cases hk0 : (o j).x0 = 0
        · have kk : ((o j).x0 == 0) = true := by simp [hk0]
          have kk2 : ((o j).x0 == 2) = false := by rw [hk0]; rfl
          by_cases hrng : ¬ (0 ≤ (o j).x1 ∧ (o j).x1 < cnt)
          · have HNN := Lib.hid (show (o j).x1 = (o j).x1 from rfl)
            have HRG := Lib.hid hrng
            clear hk0 hrng
            have HL3 := Lib.hid LP3.drew'
            have hof : ¬ a.foot wr.heap.size := fun q => by have := HLR.out.ow.dr.foot_lt (.inl q); omega
            obtain ⟨CE, hCE⟩ : ∃ CE : World → Prop, CE = fun u => u.cell? ⟨wr.heap.size, 0, none⟩ = some (.int .i64 (o j).x0) ∧ u.cell? ⟨wr.heap.size, 1, none⟩ = some (.int .i64 (o j).x1) ∧ u.cell? ⟨wr.heap.size, 2, none⟩ = some (.int .u8 (o j).x2) := ⟨_, rfl⟩
            have hce : ∀ u, CE u → u.cell? ⟨wr.heap.size, 0, none⟩ = some (.int .i64 (o j).x0) ∧ u.cell? ⟨wr.heap.size, 1, none⟩ = some (.int .i64 (o j).x1) ∧ u.cell? ⟨wr.heap.size, 2, none⟩ = some (.int .u8 (o j).x2) := fun u h => by rw [hCE] at h; exact h
            have hceb : ∀ u u', CE u → (wr.heap.size < u.heap.size → u'.heap[wr.heap.size]? = u.heap[wr.heap.size]?) → CE u' := fun u u' h hb => by
              rw [hCE] at h ⊢
              have hx := hb (cell_lt h.1)
              exact ⟨(World.cell?_of_block (a := ⟨wr.heap.size, 0, none⟩) hx).trans h.1, (World.cell?_of_block (a := ⟨wr.heap.size, 1, none⟩) hx).trans h.2.1, (World.cell?_of_block (a := ⟨wr.heap.size, 2, none⟩) hx).trans h.2.2⟩
            have HCU := Lib.hid (fun u h => (hce u h).1)
            have HCE2 := Lib.hid (fun u h => (hce u h).2)
            have HCEB2 := Lib.hid hceb
            have hce0 : CE (wr.alloc (.cells #[.int .i64 (o j).x0, .int .i64 (o j).x1, .int .u8 (o j).x2, .int .i64 (o j).x3, .slice (o j).a4 (o j).l4 (o j).k4] 31)).drew := by rw [hCE]; exact ⟨by simp [go_sem], by first | (simp [go_sem]; done) | (rw [← HNN.out]; simp [go_sem]), by simp [go_sem]⟩
            have hs3 : (wr.alloc (.cells #[.int .i64 (o j).x0, .int .i64 (o j).x1, .int .u8 (o j).x2, .int .i64 (o j).x3, .slice (o j).a4 (o j).l4 (o j).k4] 31)).heap.size = wr.heap.size + 1 := by simp
            clear hCE
            go_wp2_with fail
            generalize hw3 : (wr.alloc (.cells #[.int .i64 (o j).x0, .int .i64 (o j).x1, .int .u8 (o j).x2, .int .i64 (o j).x3, .slice (o j).a4 (o j).l4 (o j).k4] 31)) = w3 at *
            generalize hob : wr.heap.size = ob at *
            clear hw3
            obtain ⟨FF, hFF⟩ : ∃ FF : World → Prop, FF = fun u => LF w u g cnt kb lb a S K L := ⟨_, rfl⟩
            refine wp_theta [9, 10] [9, 10] (fun i v => (i = 9 → ∃ x, v = .slice (some ⟨x, 0, none⟩) 512 512) ∧ (i = 10 → v = .int .i64 20)) (fun ρ D u => CE u ∧ (D 10 = true → FF u) ∧ (D 10 = false → LF w u g cnt kb lb a S K L ∧ Below w3.heap.size w3 u ∧ (D 9 = true → ∃ x, ρ 9 = .slice (some ⟨x, 0, none⟩) 512 512 ∧ Rw u 5 1 (some ⟨x, 0, none⟩) 512 512 (bv (fil 512 (o j).x2)) ∧ w3.heap.size ≤ x))) (CE) ?_ ?_ ?_ ?_ ?_ ?_ ?_ ?_ ?_ ?_
            · kernel_rfl
            · kernel_rfl
            · kernel_rfl
            · kernel_rfl
            · kernel_rfl
            · kernel_rfl
            · intro i hi; simp at hi; rcases hi with rfl | rfl; exact ⟨.slice (some ⟨0, 0, none⟩) 512 512, by simp⟩; exact ⟨.int .i64 20, by simp⟩
            · exact ⟨hce0, by simp, fun _ => ⟨HL3.out, (Below.refl _ _).drew, by simp⟩⟩
            · exact fun ρ D u h => h.1
            · intro θ hθ
              simp only [SegsT, List.take_succ_cons, List.take_zero, List.drop_succ_cons, List.drop_zero, Nat.sub_zero, Nat.reduceSub, Nat.reduceAdd, List.drop_nil, List.take_nil]
              haveI i1 : Nonempty (Wd CE) := ⟨⟨_, hce0⟩⟩
              have l0 : ∀ s : Wd CE, s.val.cell? ⟨ob, 0, none⟩ = some (.int .i64 (o j).x0) := fun s => (hce _ s.prop).1
              have l1 : ∀ s : Wd CE, s.val.cell? ⟨ob, 1, none⟩ = some (.int .i64 (o j).x1) := fun s => (hce _ s.prop).2.1
              have l2 : ∀ s : Wd CE, s.val.cell? ⟨ob, 2, none⟩ = some (.int .u8 (o j).x2) := fun s => (hce _ s.prop).2.2
              obtain ⟨x9, t9⟩ := (hθ 9 (by decide)).1 rfl
              have t10 := (hθ 10 (by decide)).2 rfl
              have HCEB := Lib.hid hceb
              clear hceb hce hce0
              repeat (go_big_quiet_step (fail))
              refine wpQuiet_nil ?_
              rw [if_pos (by decide)]
              refine ⟨thOK_call [] [10] 11 _ _ (by kernel_rfl) rfl (by kernel_rfl) #[.int .i64 512, .int .u8 (o j).x2] (by kernel_rfl) (by kernel_rfl) (fun ρ D u hq hK => ?_), ?_⟩
              · have h10 := hq.not 10 (by simp)
                obtain ⟨g1, g2, g3⟩ := hK.2.2 h10
                refine (filled_ok 512 (by omega) (o j).x2 u).mono ?_
                rintro e u' ⟨x, rfl, r1, r2, r3⟩
                exact ⟨_, rfl, ⟨fun _ => ⟨x, rfl⟩, by simp⟩, HCEB.out _ _ hK.1 (fun hk => r2.block _ hk), by simp [upd, h10], fun _ => ⟨g1.below r2, g2.trans (Below.mono r2 g2.size), fun _ => ⟨x, by simp [setV], r1, Nat.le_trans g2.size r3⟩⟩⟩
              rw [t9]
              try go_frame
              repeat (go_big_quiet_step (fail))
              refine wpQuiet_nil ?_
              rw [if_pos (by decide)]
              refine ⟨thOK_call [9] [] 10 _ _ (by kernel_rfl) rfl (by kernel_rfl) #[.pointer (some ⟨g, 0, none⟩), .int .i64 (o j).x1, .slice (some ⟨x9, 0, none⟩) 512 512] (by kernel_rfl) (by kernel_rfl) (fun ρ D u hq hK => ?_), ?_⟩
              · have h10 := hq.now
                obtain ⟨g1, g2, g3⟩ := hK.2.2 h10
                have hw := write_no g1.ow.dr (o j).x1 (.slice (some ⟨x9, 0, none⟩) 512 512) (by rw [g1.ct]; exact HRG.out)
                rw [g1.ga] at hw
                refine hw.mono ?_
                rintro e u' ⟨rfl, rfl⟩
                exact ⟨_, rfl, by simp, hK.1, fun _ => by rw [hFF]; exact g1, by simp [upd]⟩
              rw [t10]
              try go_frame
              repeat (go_big_quiet_step (fail))
              refine wpQuiet_nil ?_
              intro u hK
              have hfu := hK.2.1 rfl
              have hcu := hK.1
              clear hK t9 t10 l0 l1 l2 i1 hθ HCEB
              rw [hFF] at hfu
              have hcu0 := (show u.cell? ⟨ob, 0, none⟩ = some (.int .i64 (o j).x0) from HCU.out u hcu)
              have HFU := Lib.hid hfu
              clear hfu hcu hFF
              go_wp2_with fail
              go_roundg (len - (j + 1))
              case measure => have := HK.out; omega
              case rel => exact ⟨j + 1, a, S, K, L, by go_num, rfl, by omega, by omega, HFU.out⟩
          · have hrng := Decidable.not_not.1 hrng
            obtain ⟨nn, hnn⟩ : ∃ nn : Nat, (o j).x1 = (nn : Int) := ⟨(o j).x1.toNat, by omega⟩
            have hncnt : nn < cnt := by omega
            have HNN := Lib.hid hnn
            have HNC := Lib.hid hncnt
            clear hk0 hrng hnn hncnt
            have HL3 := Lib.hid LP3.drew'
            have hof : ¬ a.foot wr.heap.size := fun q => by have := HLR.out.ow.dr.foot_lt (.inl q); omega
            obtain ⟨CE, hCE⟩ : ∃ CE : World → Prop, CE = fun u => u.cell? ⟨wr.heap.size, 0, none⟩ = some (.int .i64 (o j).x0) ∧ u.cell? ⟨wr.heap.size, 1, none⟩ = some (.int .i64 (nn : Int)) ∧ u.cell? ⟨wr.heap.size, 2, none⟩ = some (.int .u8 (o j).x2) := ⟨_, rfl⟩
            have hce : ∀ u, CE u → u.cell? ⟨wr.heap.size, 0, none⟩ = some (.int .i64 (o j).x0) ∧ u.cell? ⟨wr.heap.size, 1, none⟩ = some (.int .i64 (nn : Int)) ∧ u.cell? ⟨wr.heap.size, 2, none⟩ = some (.int .u8 (o j).x2) := fun u h => by rw [hCE] at h; exact h
            have hceb : ∀ u u', CE u → (wr.heap.size < u.heap.size → u'.heap[wr.heap.size]? = u.heap[wr.heap.size]?) → CE u' := fun u u' h hb => by
              rw [hCE] at h ⊢
              have hx := hb (cell_lt h.1)
              exact ⟨(World.cell?_of_block (a := ⟨wr.heap.size, 0, none⟩) hx).trans h.1, (World.cell?_of_block (a := ⟨wr.heap.size, 1, none⟩) hx).trans h.2.1, (World.cell?_of_block (a := ⟨wr.heap.size, 2, none⟩) hx).trans h.2.2⟩
            have HCU := Lib.hid (fun u h => (hce u h).1)
            have HCE2 := Lib.hid (fun u h => (hce u h).2)
            have HCEB2 := Lib.hid hceb
            have hce0 : CE (wr.alloc (.cells #[.int .i64 (o j).x0, .int .i64 (o j).x1, .int .u8 (o j).x2, .int .i64 (o j).x3, .slice (o j).a4 (o j).l4 (o j).k4] 31)).drew := by rw [hCE]; exact ⟨by simp [go_sem], by first | (simp [go_sem]; done) | (rw [← HNN.out]; simp [go_sem]), by simp [go_sem]⟩
            have hs3 : (wr.alloc (.cells #[.int .i64 (o j).x0, .int .i64 (o j).x1, .int .u8 (o j).x2, .int .i64 (o j).x3, .slice (o j).a4 (o j).l4 (o j).k4] 31)).heap.size = wr.heap.size + 1 := by simp
            clear hCE
            go_wp2_with fail
            generalize hw3 : (wr.alloc (.cells #[.int .i64 (o j).x0, .int .i64 (o j).x1, .int .u8 (o j).x2, .int .i64 (o j).x3, .slice (o j).a4 (o j).l4 (o j).k4] 31)) = w3 at *
            generalize hob : wr.heap.size = ob at *
            clear hw3
            obtain ⟨FF, hFF⟩ : ∃ FF : World → Prop, FF = fun u => LV w g nn kb lb (fil 512 (o j).x2) S K L u ∧ w3.heap.size ≤ u.heap.size := ⟨_, rfl⟩
            have HOF := Lib.hid hof
            refine wp_theta [9, 10] [9, 10] (fun i v => (i = 9 → ∃ x, v = .slice (some ⟨x, 0, none⟩) 512 512) ∧ (i = 10 → v = .int .i64 0)) (fun ρ D u => CE u ∧ (D 10 = true → FF u) ∧ (D 10 = false → LF w u g cnt kb lb a S K L ∧ Below w3.heap.size w3 u ∧ (D 9 = true → ∃ x, ρ 9 = .slice (some ⟨x, 0, none⟩) 512 512 ∧ Rw u 5 1 (some ⟨x, 0, none⟩) 512 512 (bv (fil 512 (o j).x2)) ∧ w3.heap.size ≤ x))) (CE) ?_ ?_ ?_ ?_ ?_ ?_ ?_ ?_ ?_ ?_
            · kernel_rfl
            · kernel_rfl
            · kernel_rfl
            · kernel_rfl
            · kernel_rfl
            · kernel_rfl
            · intro i hi; simp at hi; rcases hi with rfl | rfl; exact ⟨.slice (some ⟨0, 0, none⟩) 512 512, by simp⟩; exact ⟨.int .i64 0, by simp⟩
            · exact ⟨hce0, by simp, fun _ => ⟨HL3.out, (Below.refl _ _).drew, by simp⟩⟩
            · exact fun ρ D u h => h.1
            · intro θ hθ
              simp only [SegsT, List.take_succ_cons, List.take_zero, List.drop_succ_cons, List.drop_zero, Nat.sub_zero, Nat.reduceSub, Nat.reduceAdd, List.drop_nil, List.take_nil]
              haveI i1 : Nonempty (Wd CE) := ⟨⟨_, hce0⟩⟩
              have l0 : ∀ s : Wd CE, s.val.cell? ⟨ob, 0, none⟩ = some (.int .i64 (o j).x0) := fun s => (hce _ s.prop).1
              have l1 : ∀ s : Wd CE, s.val.cell? ⟨ob, 1, none⟩ = some (.int .i64 (nn : Int)) := fun s => (hce _ s.prop).2.1
              have l2 : ∀ s : Wd CE, s.val.cell? ⟨ob, 2, none⟩ = some (.int .u8 (o j).x2) := fun s => (hce _ s.prop).2.2
              obtain ⟨x9, t9⟩ := (hθ 9 (by decide)).1 rfl
              have t10 := (hθ 10 (by decide)).2 rfl
              have HCEB := Lib.hid hceb
              clear hceb hce hce0
              repeat (go_big_quiet_step (fail))
              refine wpQuiet_nil ?_
              rw [if_pos (by decide)]
              refine ⟨thOK_call [] [10] 11 _ _ (by kernel_rfl) rfl (by kernel_rfl) #[.int .i64 512, .int .u8 (o j).x2] (by kernel_rfl) (by kernel_rfl) (fun ρ D u hq hK => ?_), ?_⟩
              · have h10 := hq.not 10 (by simp)
                obtain ⟨g1, g2, g3⟩ := hK.2.2 h10
                refine (filled_ok 512 (by omega) (o j).x2 u).mono ?_
                rintro e u' ⟨x, rfl, r1, r2, r3⟩
                exact ⟨_, rfl, ⟨fun _ => ⟨x, rfl⟩, by simp⟩, HCEB.out _ _ hK.1 (fun hk => r2.block _ hk), by simp [upd, h10], fun _ => ⟨g1.below r2, g2.trans (Below.mono r2 g2.size), fun _ => ⟨x, by simp [setV], r1, Nat.le_trans g2.size r3⟩⟩⟩
              rw [t9]
              try go_frame
              repeat (go_big_quiet_step (fail))
              refine wpQuiet_nil ?_
              rw [if_pos (by decide)]
              refine ⟨thOK_call [9] [] 10 _ _ (by kernel_rfl) rfl (by kernel_rfl) #[.pointer (some ⟨g, 0, none⟩), .int .i64 (nn : Int), .slice (some ⟨x9, 0, none⟩) 512 512] (by kernel_rfl) (by kernel_rfl) (fun ρ D u hq hK => ?_), ?_⟩
              · have h10 := hq.now
                obtain ⟨g1, g2, g3⟩ := hK.2.2 h10
                obtain ⟨x, e9, hx, hxs⟩ := g3 (hq.did 9 (by simp))
                have e9' := hq.gave 9 (by simp) (by decide)
                rw [e9, t9] at e9'
                obtain rfl : x = x9 := by injection e9' with e9' _ _; injection e9' with e9'; injection e9'
                have hxf : ¬ a.all S x := fun q => by have := HLR.out.ow.dr.foot_lt q; omega
                refine (g1.write nn HNC.out (by omega) x _ hx hxf).mono ?_
                rintro e u' ⟨rfl, r1, r3, r2⟩
                exact ⟨_, rfl, by simp, HCEB.out _ _ hK.1 (fun hk => r2 _ hk HOF.out), fun _ => by rw [hFF]; exact ⟨r1, Nat.le_trans g2.size r3⟩, by simp [upd]⟩
              rw [t10]
              try go_frame
              repeat (go_big_quiet_step (fail))
              refine wpQuiet_nil ?_
              intro u hK
              have hfu := hK.2.1 rfl
              have hcu := hK.1
              clear hK t9 t10 l0 l1 l2 i1 hθ HCEB
              rw [hFF] at hfu
              have HFU := Lib.hid (And.intro (hfu.1.below (Below.refl _ _).drew) (show w3.heap.size ≤ u.drew.heap.size from hfu.2))
              obtain ⟨v, hv⟩ : ∃ v, v = u := ⟨u, rfl⟩
              subst hv
              have hcv := HCEB2.out _ _ hcu (show ob < v.heap.size → v.drew.heap[ob]? = v.heap[ob]? from fun _ => rfl)
              have HLB := Lib.hid (fil_byte 512 (o j).x2)
              clear hfu hFF hcu
              go_wp2_with fail
              refine wp_theta [5] [5, 6, 7] (fun i v => i = 5 → ∃ x, v = .slice (some ⟨x, 0, none⟩) 512 512) (fun ρ D u => CE u ∧ (D 7 = false → LV w g nn kb lb (fil 512 (o j).x2) S K L u ∧ Below v.drew.heap.size v.drew u) ∧ (D 5 = true → D 7 = false → ∃ x, ρ 5 = .slice (some ⟨x, 0, none⟩) 512 512 ∧ Rw u 5 1 (some ⟨x, 0, none⟩) 512 512 (bv (fil 512 (o j).x2))) ∧ (D 7 = true → LV w g nn kb lb (fil 512 (o j).x2) S K (L.put (nn : Int) (.string (str (fil 512 (o j).x2)))) u)) (CE) ?_ ?_ ?_ ?_ ?_ ?_ ?_ ?_ ?_ ?_
              · kernel_rfl
              · kernel_rfl
              · kernel_rfl
              · kernel_rfl
              · kernel_rfl
              · kernel_rfl
              · intro i hi; simp at hi; subst hi; exact ⟨.slice (some ⟨0, 0, none⟩) 512 512, by simp⟩
              · exact ⟨hcv, fun _ => ⟨HFU.out.1, Below.refl _ _⟩, by simp, by simp⟩
              · exact fun ρ D u h => h.1
              · intro θ hθ
                simp only [SegsT, List.take_succ_cons, List.take_zero, List.drop_succ_cons, List.drop_zero, Nat.sub_zero, Nat.reduceSub, Nat.reduceAdd, List.drop_nil, List.take_nil]
                haveI i1 : Nonempty (Wd CE) := ⟨⟨_, hcv⟩⟩
                have l1 : ∀ s : Wd CE, s.val.cell? ⟨ob, 1, none⟩ = some (.int .i64 (nn : Int)) := fun s => (HCE2.out _ s.prop).1
                have l2 : ∀ s : Wd CE, s.val.cell? ⟨ob, 2, none⟩ = some (.int .u8 (o j).x2) := fun s => (HCE2.out _ s.prop).2
                obtain ⟨x5, t5⟩ := hθ 5 (by decide) rfl
                clear hcv
                repeat (go_big_quiet_step (fail))
                refine wpQuiet_nil ?_
                rw [if_pos (by decide)]
                refine ⟨thOK_call [] [7] 11 _ _ (by kernel_rfl) rfl (by kernel_rfl) #[.int .i64 512, .int .u8 (o j).x2] (by kernel_rfl) (by kernel_rfl) (fun ρ D u hq hK => ?_), ?_⟩
                · have h7 := hq.not 7 (by simp)
                  obtain ⟨g1, g2⟩ := hK.2.1 h7
                  refine (filled_ok 512 (by omega) (o j).x2 u).mono ?_
                  rintro e u' ⟨x, rfl, r1, r2, r3⟩
                  exact ⟨_, rfl, fun _ => ⟨x, rfl⟩, HCEB2.out _ _ hK.1 (fun hk => r2.block _ hk), fun _ => ⟨g1.below r2, g2.trans (Below.mono r2 g2.size)⟩, fun _ _ => ⟨x, by simp [setV], r1⟩, by simp [upd, h7]⟩
                rw [t5]
                try go_frame
                repeat (go_big_quiet_step (fail))
                refine wpQuiet_nil ?_
                rw [if_neg (by decide)]
                refine ⟨.string (str (fil 512 (o j).x2)), detOK_run [5] [7] (by kernel_rfl) (by kernel_rfl) (fun ρ D u hq hK => ?_), ?_⟩
                · have h7 := hq.not 7 (by simp)
                  obtain ⟨x, e5, hx⟩ := hK.2.2.1 (hq.did 5 (by simp)) h7
                  have e5' := hq.gave 5 (by simp) (by decide)
                  rw [e5, t5] at e5'
                  obtain rfl : x = x5 := by injection e5' with e5' _ _; injection e5' with e5'; injection e5'
                  exact ⟨u, run_box_any (s := convert 33 9 (.slice (some ⟨x, 0, none⟩) 512 512)) (by kernel_rfl) (conv9 u _ _ _ _ hx), hK.1, fun h => hK.2.1 (by simpa [upd] using h), fun h h2 => hK.2.2.1 (by simpa [upd] using h) (by simpa [upd] using h2), by simp [upd, h7]⟩
                try go_frame
                repeat (go_big_quiet_step (fail))
                refine wpQuiet_nil ?_
                rw [if_neg (by decide)]
                refine ⟨undef, detOK_skip [5, 6] [] (by kernel_rfl) (by kernel_rfl) (fun ρ D u hq hK => ?_), ?_⟩
                · have h7 := hq.now
                  obtain ⟨g1, g2⟩ := hK.2.1 h7
                  obtain ⟨u', m1, m2, m3, _⟩ := imap_update (P := Try.prog) g1.lm ty29 ty3 (nn : Int) (.string (str (fil 512 (o j).x2)))
                  exact ⟨u', run_skip_any (s := Instr.mapUpdate 29 (.map (some lb)) (.int .i64 (nn : Int)) (.string (str (fil 512 (o j).x2)))) (by kernel_rfl) m1, HCEB2.out _ _ hK.1 (fun hk => m3.block _ hk (fun e => by have := HLR.out.lm.lt; omega)), by simp [upd], by simp [upd], fun _ => g1.putL HLR.out.own.2 m2 m3⟩
                try go_frame
                repeat (go_big_quiet_step (fail))
                refine wpQuiet_nil ?_
                intro u hK
                have hfu := hK.2.2.2 rfl
                have hcu := hK.1
                clear hK t5 l1 l2 i1 hθ
                obtain ⟨u9, m1, m2, m3, _⟩ := imap_delete (P := Try.prog) hfu.km ty29 ty3 (nn : Int) 0
                have hcu0 := HCU.out u hcu
                have hcu1 := (HCE2.out u hcu).1
                have hcu9 := HCU.out u9 (HCEB2.out _ _ hcu (fun hk => m3.block _ hk (fun e => by have := HLR.out.km.lt; omega)))
                obtain ⟨a', p, hfin⟩ := LV.done HLR.out HNC.out HLB.out hfu m2 m3
                have HFIN := Lib.hid hfin
                clear hfu hcu hfin m2 m3
                go_wp2_with fail
                go_roundg (len - (j + 1))
                case measure => have := HK.out; omega
                case rel => exact ⟨j + 1, a', S.push p, _, _, by go_num, rfl, by omega, by simp [DS.push]; omega, HFIN.out⟩
        · have kk : ((o j).x0 == 0) = false := by simpa using hk0
          have e0 : (wr.alloc (.cells #[.int .i64 (o j).x0, .int .i64 (o j).x1, .int .u8 (o j).x2, .int .i64 (o j).x3, .slice (o j).a4 (o j).l4 (o j).k4] 31)).cell? ⟨wr.heap.size, 0, none⟩ = some (.int .i64 (o j).x0) := by simp [go_sem]
          by_cases hk2 : (o j).x0 = 2
          · have kk2 : ((o j).x0 == 2) = true := by simp [hk2]
            have HF := Lib.hid (fun nq => (LP3.below (below_drewN (Below.refl _ _) nq)).flush (by omega))
            clear hk0 hk2 LP3
            go_wp2_with fail
            go_quiet (fail)
            go_wp2_with fail
            refine (HF.out nq).mono ?_
            rintro e w4 ⟨⟨v, rfl⟩, a', S', hlt', hpl'⟩
            obtain ⟨ob4, c4, hr1, hr2⟩ := IIt.start hlt'.lm ty29
            have HLN := Lib.hid (hlt'.below ((Below.refl _ _).alloc (Nat.le_refl _) ob4))
            have HPN := Lib.hid hpl'
            have HIT := Lib.hid hr2
            have HRI := Lib.hid (And.intro hlt'.km.lt hlt'.lm.lt)
            have HAD := Lib.hid (And.intro (fun k (q : a'.all S' k) => hlt'.ow.dr.foot_lt q) hlt'.ow.bl.size)
            clear hlt' hpl' hr2
            go_wp2_with fail
            generalize hri : w4.heap.size = ri at *
            go_loopg [13] c4 (fun k p13 wr => ∃ (K2 : IM), IIt wr ri lb L k ∧ LF w wr g cnt kb lb a' S' K2 L)
            case atStart => exact ⟨K, HIT.out, HLN.out⟩
            case round =>
              obtain ⟨K2, hit, hlf⟩ := hrel
              rcases hit.next 0 with h1 | ⟨x, vv, w6, c6, g1, g2, g3, g4, g5, g6, g7⟩
              · have HLF := Lib.hid hlf
                clear hit hlf
                go_wp2_with fail
                go_roundg (len - (j + 1))
                case measure => have := HK.out; omega
                case rel => exact ⟨j + 1, a', S', K2, L, by go_num, rfl, by omega, by have := HPN.out; rw [this]; simp, HLF.out⟩
              · have hne : ri ≠ lb ∧ ri ≠ kb := ⟨fun e => by have := HRI.out.2; omega, fun e => by have := HRI.out.1; omega⟩
                have hlf6 : LF w w6 g cnt kb lb a' S' K2 L := by
                  refine ⟨⟨hlf.ow.dr.ch g5 (fun k q e => by have := HAD.out.1 k q; omega), hlf.ow.bl.trans (g5.below (fun k hk q => by have := HAD.out.2; omega) hlf.ow.bl.size), hlf.ow.own⟩, hlf.ga, hlf.ct, hlf.lim, hlf.km.ch g5 (fun e => hne.2 e.symm), g4.map, hlf.own, hlf.dj, hlf.b1, hlf.b2, hlf.i1, hlf.i2⟩
                obtain ⟨w7, m1, m2, m3, _⟩ := imap_update (P := Try.prog) hlf6.km ty29 ty3 x vv
                have hlf7 : LF w w7 g cnt kb lb a' S' (K2.put x vv) L := hlf6.putK m2 m3 (fun n v e => by
                  rw [IM.get_put] at e
                  by_cases hnx : n = x
                  · rw [if_pos hnx] at e
                    injection e with e
                    obtain ⟨nn, q1, q2, q3⟩ := hlf.i1 x vv g1
                    exact ⟨nn, hnx.trans q1, q2, e ▸ q3, by rw [HPN.out]; rfl⟩
                  · rw [if_neg hnx] at e; exact hlf.i2 n v e)
                have hit7 : IIt w7 ri lb L c6 := g4.heap (m3.block _ hlf6.lm.lt (fun e => hlf.own.2.2 e.symm)) (m3.block _ g4.rlt hne.2)
                have HN7 := Lib.hid (And.intro hit7 hlf7)
                have HC6 := Lib.hid g2
                clear hit hlf g1 g2 g4 g5 g6 hlf6 m2 m3 hlf7 hit7
                go_wp2_with fail
                go_roundg c6
                case measure => exact HC6.out
                case rel => exact ⟨K2.put x vv, HN7.out.1, HN7.out.2⟩
          · have kk2 : ((o j).x0 == 2) = false := by simpa using hk2
            have HN := Lib.hid (fun nq => LP3.below (below_drewN (Below.refl _ _) nq))
            clear hk0 hk2 LP3
            go_wp2_with fail
            go_quiet (fail)
            go_wp2_with fail
            go_roundg (len - (j + 1))
            case measure => have := HK.out; omega
            case rel => exact ⟨j + 1, a, S, K, L, by go_num, rfl, by omega, by omega, HN.out nq⟩
      · obtain rfl : j = len := by omega
        have HCR := Lib.hid (hlt.crash A3 len3 cap3 o3 (HTN.out wr hlt.ow.bl) HKA.out hlen3 (by omega))
        have hpl2 : S.pend.length ≤ 2 ^ 42 := by omega
        clear hk hlt hpl
        go_wp2_with fail
        refine HCR.out.mono ?_
        rintro e w7 hh
        rcases hh with ⟨rfl, g1, g2, _⟩ | ⟨rfl, a', S', g1, g2⟩
        · have HCR2 := Lib.hid (g1.crash none 0 0 o3 (fun h => by omega) (fun h => by omega) (by omega) hpl2)
          clear g1 g2
          go_wp2_with fail
          refine HCR2.out.mono ?_
          rintro e w8 hh
          rcases hh with ⟨_, _, _, hbad⟩ | ⟨rfl, a', S', g1, g2⟩
          · simp at hbad
          · skip
            obtain ⟨ob5, c5, hr1, hr2⟩ := IIt.start g2 ty29
            have hba : Below w8.heap.size w8 (w8.alloc ob5) := (Below.refl _ _).alloc (Nat.le_refl _) ob5
            have HLC := Lib.hid (g1.mv (g1.ow.dr.below hba) (Mv.of_below _ _ hba) g2.lt)
            have HIT := Lib.hid hr2
            have HRI := Lib.hid g2.lt
            have HSZ := Lib.hid g1.ow.bl.size
            clear hba g2 hr2
            go_wp2_with fail
            generalize hri : w8.heap.size = ri at *
            go_loopg [15] c5 (fun k p15 wr => ∃ (a2 : DA), IIt wr ri kb K k ∧ LC w wr g cnt kb a2 S' K ∧ ¬ a2.all S' ri)
            case atStart => exact ⟨a', HIT.out, HLC.out, fun q => by have := g1.ow.dr.foot_lt q; omega⟩
            case round =>
              obtain ⟨a2, hit, hlc, hnr⟩ := hrel
              have hkn : ¬ ri = kb := fun e => by have := HRI.out; omega
              rcases hit.next 0 with h1 | ⟨x, vv, w9, c6, q1, q2, q3, q4, q5, q6, q7⟩
              · have HP := pending_ok hlc.ow.dr (by rw [hlc.pend]; simp)
                rw [hlc.ga, hlc.pend] at HP
                simp only [List.length_nil] at HP
                have HP := Lib.hid HP
                have HBL := Lib.hid hlc.ow.bl
                clear hit hlc hnr g1
                go_wp2_with fail
                refine HP.out.mono ?_
                rintro e w5 ⟨A5, c5', rfl, p1, p2, p3⟩
                have HBF := Lib.hid (HBL.out.trans (Below.mono p2 HBL.out.size))
                clear p1 p2 p3
                go_wp2
                go_ret
                exact ⟨by first | rfl | simp, HBF.out⟩
              · obtain ⟨nn, rfl, hnn, rfl⟩ := hlc.i2 x vv q1
                have hlc9 : LC w w9 g cnt kb a2 S' K := by
                  refine ⟨⟨hlc.ow.dr.ch q5 (fun k q e => hnr (e ▸ q)), hlc.ow.bl.trans (q5.below (fun k hk q => by have := HSZ.out; omega) hlc.ow.bl.size), hlc.ow.own⟩, hlc.ga, hlc.ct, hlc.pend, hlc.own, hlc.dj, hlc.i2⟩
                have HR := read_ok hlc9.ow.dr nn (by rw [hlc9.ct]; exact hnn)
                rw [hlc9.ga] at HR
                have HR := Lib.hid HR
                have H9 := Lib.hid (And.intro hlc9 (And.intro q4 hnr))
                have HC6 := Lib.hid q2
                clear hit hlc hnr q1 q2 q4 q5 q6 hlc9 g1
                go_wp2_with fail
                refine HR.out.mono ?_
                rintro e w5 ⟨A5, c5', a5, rfl, p1, p2, p3, p4⟩
                have hcv := conv9 w5 A5 512 c5' _ p1
                have hnx : IIt w5 ri kb K c6 ∧ LC w w5 g cnt kb a5 S' K ∧ ¬ a5.all S' ri := by
                  have hkl := H9.out.2.1.map.lt
                  refine ⟨H9.out.2.1.heap (p3.ch.block _ hkl (fun q => H9.out.1.dj (.inl q))) (p3.ch.block _ H9.out.2.1.rlt (fun q => H9.out.2.2 (.inl q))), H9.out.1.mv p2 p3 hkl, fun q => (p3.all _ q).elim H9.out.2.2 fun q => by have := H9.out.2.1.rlt; omega⟩
                have HNX := Lib.hid hnx
                clear p1 p2 p3 p4 hnx
                go_wp2_with fail
                go_roundg c6
                case measure => exact HC6.out
                case rel => exact ⟨a5, HNX.out⟩
        · skip
          obtain ⟨ob5, c5, hr1, hr2⟩ := IIt.start g2 ty29
          have hba : Below w7.heap.size w7 (w7.alloc ob5) := (Below.refl _ _).alloc (Nat.le_refl _) ob5
          have HLC := Lib.hid (g1.mv (g1.ow.dr.below hba) (Mv.of_below _ _ hba) g2.lt)
          have HIT := Lib.hid hr2
          have HRI := Lib.hid g2.lt
          have HSZ := Lib.hid g1.ow.bl.size
          clear hba g2 hr2
          go_wp2_with fail
          generalize hri : w7.heap.size = ri at *
          go_loopg [15] c5 (fun k p15 wr => ∃ (a2 : DA), IIt wr ri kb K k ∧ LC w wr g cnt kb a2 S' K ∧ ¬ a2.all S' ri)
          case atStart => exact ⟨a', HIT.out, HLC.out, fun q => by have := g1.ow.dr.foot_lt q; omega⟩
          case round =>
            obtain ⟨a2, hit, hlc, hnr⟩ := hrel
            have hkn : ¬ ri = kb := fun e => by have := HRI.out; omega
            rcases hit.next 0 with h1 | ⟨x, vv, w9, c6, q1, q2, q3, q4, q5, q6, q7⟩
            · have HP := pending_ok hlc.ow.dr (by rw [hlc.pend]; simp)
              rw [hlc.ga, hlc.pend] at HP
              simp only [List.length_nil] at HP
              have HP := Lib.hid HP
              have HBL := Lib.hid hlc.ow.bl
              clear hit hlc hnr g1
              go_wp2_with fail
              refine HP.out.mono ?_
              rintro e w5 ⟨A5, c5', rfl, p1, p2, p3⟩
              have HBF := Lib.hid (HBL.out.trans (Below.mono p2 HBL.out.size))
              clear p1 p2 p3
              go_wp2
              go_ret
              exact ⟨by first | rfl | simp, HBF.out⟩
            · obtain ⟨nn, rfl, hnn, rfl⟩ := hlc.i2 x vv q1
              have hlc9 : LC w w9 g cnt kb a2 S' K := by
                refine ⟨⟨hlc.ow.dr.ch q5 (fun k q e => hnr (e ▸ q)), hlc.ow.bl.trans (q5.below (fun k hk q => by have := HSZ.out; omega) hlc.ow.bl.size), hlc.ow.own⟩, hlc.ga, hlc.ct, hlc.pend, hlc.own, hlc.dj, hlc.i2⟩
              have HR := read_ok hlc9.ow.dr nn (by rw [hlc9.ct]; exact hnn)
              rw [hlc9.ga] at HR
              have HR := Lib.hid HR
              have H9 := Lib.hid (And.intro hlc9 (And.intro q4 hnr))
              have HC6 := Lib.hid q2
              clear hit hlc hnr q1 q2 q4 q5 q6 hlc9 g1
              go_wp2_with fail
              refine HR.out.mono ?_
              rintro e w5 ⟨A5, c5', a5, rfl, p1, p2, p3, p4⟩
              have hcv := conv9 w5 A5 512 c5' _ p1
              have hnx : IIt w5 ri kb K c6 ∧ LC w w5 g cnt kb a5 S' K ∧ ¬ a5.all S' ri := by
                have hkl := H9.out.2.1.map.lt
                refine ⟨H9.out.2.1.heap (p3.ch.block _ hkl (fun q => H9.out.1.dj (.inl q))) (p3.ch.block _ H9.out.2.1.rlt (fun q => H9.out.2.2 (.inl q))), H9.out.1.mv p2 p3 hkl, fun q => (p3.all _ q).elim H9.out.2.2 fun q => by have := H9.out.2.1.rlt; omega⟩
              have HNX := Lib.hid hnx
              clear p1 p2 p3 p4 hnx
              go_wp2_with fail
              go_roundg c6
              case measure => exact HC6.out
              case rel => exact ⟨a5, HNX.out⟩
  · have hnb : ¬ (1 ≤ n ∧ n ≤ 4096) := hn
    clear h1 h3
    go_enter Try.func3, Try.ntmps3
    go_wp2_with fail
    refine HA.out.mono ?_
    rintro e w1 ⟨rfl, hb1⟩
    have HB1 := Lib.hid hb1
    clear hb1
    go_wp2_with fail
    refine (new_bad n w1 hnb).mono ?_
    rintro e w' ⟨rfl, rfl⟩
    clear hn hnb
    go_wp2
    go_ret
    exact ⟨by first | rfl | simp, HB1.out⟩
end Go.Proofs.Ytajhpfmfoolcjaa
