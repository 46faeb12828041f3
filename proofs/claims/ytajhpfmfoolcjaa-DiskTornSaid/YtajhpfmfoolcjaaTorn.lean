import Derived.Test.YtajhpfmfoolcjaaTornA
import Derived.Test.YtajhpfmfoolcjaaLoads
/- Behind a crash each byte of a sector is the one of the platter, or one of a pending write; whole writes leave whole sectors. -/
namespace Go.Proofs.Ytajhpfmfoolcjaa
open Go.RowKit Go.BigFrame
set_option linter.unusedVariables false
set_option linter.unusedSimpArgs false
attribute [local go_sem] szIs_lit row_at row_past row_alloc nf_alloc row_set nf_set row_cell nf_cell row_drew nf_drew row_drewN nf_drewN cell_setRow frozen_setRow nlt1 nlt2 nlt3 nlt4 nne1 nne2 nne3 nen1 nen2 nen3
theorem LT.drew' {w0 wr : World} {g cnt : Nat} {a : DA} {S : DS} {A : Option Addr} {c : Nat} {ws : List PW} (h : LT w0 wr g cnt a S A c ws) : LT w0 wr.drew g cnt a S A c ws := h.below (Below.refl _ _).drew
theorem bs42 (x : Int) (v : Value) (h : v.oneCell' = true) (w : World) : (Instr.buildSlice 42 1 #[(0, .agg #[.int .i64 x, v])]).run Try.prog w = .ok (.slice (some ⟨w.heap.size, 0, none⟩) 1 1) (w.alloc (.cells #[.int .i64 x, v] 44)) := by
  cases v <;> simp [Value.oneCell'] at h <;> simp [go_sem]
set_option maxRecDepth 100000 in
set_option maxHeartbeats 20000000 in
theorem torn_walk (n : Int) (hn64 : -9223372036854775808 ≤ n ∧ n ≤ 9223372036854775807) (A : Option Addr) (len cap : Nat) (o : Nat → OpV) (A3 : Option Addr) (len3 cap3 : Nat) (o3 : Nat → TornV) (w : World) (h1 : AreOp w w.heap.size A len cap o) (h3 : AreTorn w w.heap.size A3 len3 cap3 o3) : Calls Try.prog 4 #[.int .i64 n, .slice A len cap, .slice A3 len3 cap3] w fun e w' => e = .returned (.bool true) ∧ Below w.heap.size w w' := by
  have HA := Lib.hid (awake_ok w)
  by_cases hn : 1 ≤ n ∧ n ≤ 4096
  · obtain ⟨cnt, rfl⟩ : ∃ cnt : Nat, n = (cnt : Int) := ⟨n.toNat, by omega⟩
    have hc1 : 1 ≤ cnt := by omega
    have hc2 : cnt ≤ 4096 := by omega
    have hlen : len ≤ 4398046511100 := by have := h1.2.2.1; unfold reachBytes at this; omega
    have hlen3 : len3 ≤ 2 ^ 43 := by have := h3.2.2.1; unfold reachBytes at this; omega
    have HOPS := Lib.hid h1
    have HKEEP := Lib.hid h3
    have HTN := Lib.hid (fun (v : World) (hv : Below w.heap.size w v) => (tn_of h3).below hv)
    have HKA := Lib.hid (fun (h0 : 0 < len3) k (e : blkOf A3 = some k) => show k < w.heap.size by
      obtain ⟨bb, off, e2, hbb, _⟩ := h3.2.2.2 h0
      rw [e2] at e; injection e with e; simp only at e; omega)
    clear hn hn64 h1 h3
    go_enter Try.func4, Try.ntmps4
    go_wp2_with fail
    refine HA.out.mono ?_
    rintro e w1 ⟨rfl, hb1⟩
    have HB1 := Lib.hid hb1
    clear hb1
    go_wp2_with fail
    refine (new_ok cnt w1 hc1 hc2).mono ?_
    rintro e w2 ⟨a, rfl, g1, g2, g3, g4⟩
    obtain ⟨g, hg⟩ : ∃ g, a.g = g := ⟨_, rfl⟩
    rw [hg]
    have hlt0 : LT w w2 g cnt a (S0 cnt (List.replicate (cnt * 512) 0)) none 0 [] :=
      ⟨⟨g1, HB1.out.trans (Below.mono g2 HB1.out.size), fun k q => Nat.le_trans HB1.out.size (g3 k q)⟩, hg, rfl, rfl, ⟨Rw.nil _ _ _, by simp⟩, rfl, by simp [wsAll, blkOf], by simp [wsAll, blkOf], fun x hx => by
        have := (List.mem_replicate.1 hx).2; omega, by simp [S0]⟩
    have HL0 := Lib.hid hlt0
    clear g1 g2 g3 g4 hlt0 HB1 hg
    go_wp2_with fail
    go_loopg [9, 44] len (fun k s_ i_ wr => ∃ (j : Nat) (a : DA) (S : DS) (AA : Option Addr) (c : Nat) (ws : List PW), i_ = .int .i64 (j : Int) ∧ s_ = .slice AA ws.length c ∧ k = len - j ∧ j ≤ len ∧ S.pend.length ≤ j ∧ LT w wr g cnt a S AA c ws)
    case atStart => exact ⟨0, a, _, none, 0, [], rfl, rfl, rfl, by omega, by simp [S0], HL0.out⟩
    case round =>
      clear HL0
      obtain ⟨j, a, S, AA, c, ws, rfl, rfl, hk, hj, hpl, hlt⟩ := hrel
      have HK := Lib.hid hk
      have HLR := Lib.hid hlt
      by_cases hjl : j < len
      · obtain ⟨bo, off, rfl, hbo, d0, d1, d2, d3, d4, d5⟩ := op_read HOPS.out hlt.ow.bl hjl
        have LP3 := hlt.below ((Below.refl _ _).alloc (Nat.le_refl _) (.cells #[.int .i64 (o j).x0, .int .i64 (o j).x1, .int .u8 (o j).x2, .int .i64 (o j).x3, .slice (o j).a4 (o j).l4 (o j).k4] 31))
        have HWL := Lib.hid (core_len hlt.cor)
        clear hk hlt d5
        by_cases hk0 : (o j).x0 = 0
        · have kk : ((o j).x0 == 0) = true := by simp [hk0]
          have kk2 : ((o j).x0 == 2) = false := by rw [hk0]; rfl
          by_cases hrng : ¬ (0 ≤ (o j).x1 ∧ (o j).x1 < cnt)
          · have HNN := Lib.hid (show (o j).x1 = (o j).x1 from rfl)
            have HRG := Lib.hid hrng
            clear hk0 hrng
            have HL3 := Lib.hid LP3.drew'
            have hof : ¬ a.foot wr.heap.size := fun q => by have := HLR.out.ow.dr.foot_lt (.inl q); omega
            obtain ⟨CE, hCE⟩ : ∃ CE : World → Prop, CE = fun u => u.cell? ⟨wr.heap.size, 0, none⟩ = some (.int .i64 (o j).x0) ∧ u.cell? ⟨wr.heap.size, 1, none⟩ = some (.int .i64 (o j).x1) ∧ u.cell? ⟨wr.heap.size, 2, none⟩ = some (.int .u8 (o j).x2) := ⟨_, rfl⟩
            have hce : ∀ u, CE u → u.cell? ⟨wr.heap.size, 0, none⟩ = some (.int .i64 (o j).x0) ∧ u.cell? ⟨wr.heap.size, 1, none⟩ = some (.int .i64 (o j).x1) ∧ u.cell? ⟨wr.heap.size, 2, none⟩ = some (.int .u8 (o j).x2) := fun u h => by rw [hCE] at h; exact h
            have hceb : ∀ u u', CE u → (wr.heap.size < u.heap.size → u'.heap[wr.heap.size]? = u.heap[wr.heap.size]?) → CE u' := fun u u' h hb => by
              rw [hCE] at h ⊢
              have hx := hb (cell_lt h.1)
              exact ⟨(World.cell?_of_block (a := ⟨wr.heap.size, 0, none⟩) hx).trans h.1, (World.cell?_of_block (a := ⟨wr.heap.size, 1, none⟩) hx).trans h.2.1, (World.cell?_of_block (a := ⟨wr.heap.size, 2, none⟩) hx).trans h.2.2⟩
            have HCU := Lib.hid (fun u h => (hce u h).1)
            have HCE2 := Lib.hid (fun u h => (hce u h).2)
            have HCEB2 := Lib.hid hceb
            have hce0 : CE (wr.alloc (.cells #[.int .i64 (o j).x0, .int .i64 (o j).x1, .int .u8 (o j).x2, .int .i64 (o j).x3, .slice (o j).a4 (o j).l4 (o j).k4] 31)).drew := by rw [hCE]; exact ⟨by simp [go_sem], by first | (simp [go_sem]; done) | (rw [← HNN.out]; simp [go_sem]), by simp [go_sem]⟩
            have hs3 : (wr.alloc (.cells #[.int .i64 (o j).x0, .int .i64 (o j).x1, .int .u8 (o j).x2, .int .i64 (o j).x3, .slice (o j).a4 (o j).l4 (o j).k4] 31)).heap.size = wr.heap.size + 1 := by simp
            clear hCE
            go_wp2_with fail
            generalize hw3 : (wr.alloc (.cells #[.int .i64 (o j).x0, .int .i64 (o j).x1, .int .u8 (o j).x2, .int .i64 (o j).x3, .slice (o j).a4 (o j).l4 (o j).k4] 31)) = w3 at *
            generalize hob : wr.heap.size = ob at *
            clear hw3
            obtain ⟨FF, hFF⟩ : ∃ FF : World → Prop, FF = fun u => LT w u g cnt a S AA c ws := ⟨_, rfl⟩
            refine wp_theta [9, 10] [9, 10] (fun i v => (i = 9 → ∃ x, v = .slice (some ⟨x, 0, none⟩) 512 512) ∧ (i = 10 → v = .int .i64 20)) (fun ρ D u => CE u ∧ (D 10 = true → FF u) ∧ (D 10 = false → LT w u g cnt a S AA c ws ∧ Below w3.heap.size w3 u ∧ (D 9 = true → ∃ x, ρ 9 = .slice (some ⟨x, 0, none⟩) 512 512 ∧ Rw u 5 1 (some ⟨x, 0, none⟩) 512 512 (bv (fil 512 (o j).x2)) ∧ w3.heap.size ≤ x))) (CE) ?_ ?_ ?_ ?_ ?_ ?_ ?_ ?_ ?_ ?_
            · kernel_rfl
            · kernel_rfl
            · kernel_rfl
            · kernel_rfl
            · kernel_rfl
            · kernel_rfl
            · intro i hi; simp at hi; rcases hi with rfl | rfl; exact ⟨.slice (some ⟨0, 0, none⟩) 512 512, by simp⟩; exact ⟨.int .i64 20, by simp⟩
            · exact ⟨hce0, by simp, fun _ => ⟨HL3.out, (Below.refl _ _).drew, by simp⟩⟩
            · exact fun ρ D u h => h.1
            · intro θ hθ
              simp only [SegsT, List.take_succ_cons, List.take_zero, List.drop_succ_cons, List.drop_zero, Nat.sub_zero, Nat.reduceSub, Nat.reduceAdd, List.drop_nil, List.take_nil]
              haveI i1 : Nonempty (Wd CE) := ⟨⟨_, hce0⟩⟩
              have l0 : ∀ s : Wd CE, s.val.cell? ⟨ob, 0, none⟩ = some (.int .i64 (o j).x0) := fun s => (hce _ s.prop).1
              have l1 : ∀ s : Wd CE, s.val.cell? ⟨ob, 1, none⟩ = some (.int .i64 (o j).x1) := fun s => (hce _ s.prop).2.1
              have l2 : ∀ s : Wd CE, s.val.cell? ⟨ob, 2, none⟩ = some (.int .u8 (o j).x2) := fun s => (hce _ s.prop).2.2
              obtain ⟨x9, t9⟩ := (hθ 9 (by decide)).1 rfl
              have t10 := (hθ 10 (by decide)).2 rfl
              have HCEB := Lib.hid hceb
              clear hceb hce hce0
              repeat (go_big_quiet_step (fail))
              refine wpQuiet_nil ?_
              rw [if_pos (by decide)]
              refine ⟨thOK_call [] [10] 11 _ _ (by kernel_rfl) rfl (by kernel_rfl) #[.int .i64 512, .int .u8 (o j).x2] (by kernel_rfl) (by kernel_rfl) (fun ρ D u hq hK => ?_), ?_⟩
              · have h10 := hq.not 10 (by simp)
                obtain ⟨g1, g2, g3⟩ := hK.2.2 h10
                refine (filled_ok 512 (by omega) (o j).x2 u).mono ?_
                rintro e u' ⟨x, rfl, r1, r2, r3⟩
                exact ⟨_, rfl, ⟨fun _ => ⟨x, rfl⟩, by simp⟩, HCEB.out _ _ hK.1 (fun hk => r2.block _ hk), by simp [upd, h10], fun _ => ⟨g1.below r2, g2.trans (Below.mono r2 g2.size), fun _ => ⟨x, by simp [setV], r1, Nat.le_trans g2.size r3⟩⟩⟩
              rw [t9]
              try go_frame
              repeat (go_big_quiet_step (fail))
              refine wpQuiet_nil ?_
              rw [if_pos (by decide)]
              refine ⟨thOK_call [9] [] 10 _ _ (by kernel_rfl) rfl (by kernel_rfl) #[.pointer (some ⟨g, 0, none⟩), .int .i64 (o j).x1, .slice (some ⟨x9, 0, none⟩) 512 512] (by kernel_rfl) (by kernel_rfl) (fun ρ D u hq hK => ?_), ?_⟩
              · have h10 := hq.now
                obtain ⟨g1, g2, g3⟩ := hK.2.2 h10
                have hw := write_no g1.ow.dr (o j).x1 (.slice (some ⟨x9, 0, none⟩) 512 512) (by rw [g1.cnt]; exact HRG.out)
                rw [g1.ga] at hw
                refine hw.mono ?_
                rintro e u' ⟨rfl, rfl⟩
                exact ⟨_, rfl, by simp, hK.1, fun _ => by rw [hFF]; exact g1, by simp [upd]⟩
              rw [t10]
              try go_frame
              repeat (go_big_quiet_step (fail))
              refine wpQuiet_nil ?_
              intro u hK
              have hfu := hK.2.1 rfl
              have hcu := hK.1
              clear hK t9 t10 l0 l1 l2 i1 hθ HCEB
              rw [hFF] at hfu
              have hcu0 := (show u.cell? ⟨ob, 0, none⟩ = some (.int .i64 (o j).x0) from HCU.out u hcu)
              have HFU := Lib.hid hfu
              clear hfu hcu hFF
              go_wp2_with fail
              go_roundg (len - (j + 1))
              case measure => have := HK.out; omega
              case rel => exact ⟨j + 1, a, S, _, c, ws, by go_num, rfl, rfl, by omega, by omega, HFU.out⟩
          · have hrng := Decidable.not_not.1 hrng
            obtain ⟨nn, hnn⟩ : ∃ nn : Nat, (o j).x1 = (nn : Int) := ⟨(o j).x1.toNat, by omega⟩
            have hncnt : nn < cnt := by omega
            have HNN := Lib.hid hnn
            have HNC := Lib.hid hncnt
            clear hk0 hrng hnn hncnt
            have HL3 := Lib.hid LP3.drew'
            have hof : ¬ a.foot wr.heap.size := fun q => by have := HLR.out.ow.dr.foot_lt (.inl q); omega
            obtain ⟨CE, hCE⟩ : ∃ CE : World → Prop, CE = fun u => u.cell? ⟨wr.heap.size, 0, none⟩ = some (.int .i64 (o j).x0) ∧ u.cell? ⟨wr.heap.size, 1, none⟩ = some (.int .i64 (nn : Int)) ∧ u.cell? ⟨wr.heap.size, 2, none⟩ = some (.int .u8 (o j).x2) := ⟨_, rfl⟩
            have hce : ∀ u, CE u → u.cell? ⟨wr.heap.size, 0, none⟩ = some (.int .i64 (o j).x0) ∧ u.cell? ⟨wr.heap.size, 1, none⟩ = some (.int .i64 (nn : Int)) ∧ u.cell? ⟨wr.heap.size, 2, none⟩ = some (.int .u8 (o j).x2) := fun u h => by rw [hCE] at h; exact h
            have hceb : ∀ u u', CE u → (wr.heap.size < u.heap.size → u'.heap[wr.heap.size]? = u.heap[wr.heap.size]?) → CE u' := fun u u' h hb => by
              rw [hCE] at h ⊢
              have hx := hb (cell_lt h.1)
              exact ⟨(World.cell?_of_block (a := ⟨wr.heap.size, 0, none⟩) hx).trans h.1, (World.cell?_of_block (a := ⟨wr.heap.size, 1, none⟩) hx).trans h.2.1, (World.cell?_of_block (a := ⟨wr.heap.size, 2, none⟩) hx).trans h.2.2⟩
            have HCU := Lib.hid (fun u h => (hce u h).1)
            have HCE2 := Lib.hid (fun u h => (hce u h).2)
            have HCEB2 := Lib.hid hceb
            have hce0 : CE (wr.alloc (.cells #[.int .i64 (o j).x0, .int .i64 (o j).x1, .int .u8 (o j).x2, .int .i64 (o j).x3, .slice (o j).a4 (o j).l4 (o j).k4] 31)).drew := by rw [hCE]; exact ⟨by simp [go_sem], by first | (simp [go_sem]; done) | (rw [← HNN.out]; simp [go_sem]), by simp [go_sem]⟩
            have hs3 : (wr.alloc (.cells #[.int .i64 (o j).x0, .int .i64 (o j).x1, .int .u8 (o j).x2, .int .i64 (o j).x3, .slice (o j).a4 (o j).l4 (o j).k4] 31)).heap.size = wr.heap.size + 1 := by simp
            clear hCE
            go_wp2_with fail
            generalize hw3 : (wr.alloc (.cells #[.int .i64 (o j).x0, .int .i64 (o j).x1, .int .u8 (o j).x2, .int .i64 (o j).x3, .slice (o j).a4 (o j).l4 (o j).k4] 31)) = w3 at *
            generalize hob : wr.heap.size = ob at *
            clear hw3
            obtain ⟨FF, hFF⟩ : ∃ FF : World → Prop, FF = fun u => LW w g cnt nn (fil 512 (o j).x2) S AA c ws u ∧ w3.heap.size ≤ u.heap.size := ⟨_, rfl⟩
            have HOF := Lib.hid hof
            refine wp_theta [9, 10] [9, 10] (fun i v => (i = 9 → ∃ x, v = .slice (some ⟨x, 0, none⟩) 512 512) ∧ (i = 10 → v = .int .i64 0)) (fun ρ D u => CE u ∧ (D 10 = true → FF u) ∧ (D 10 = false → LT w u g cnt a S AA c ws ∧ Below w3.heap.size w3 u ∧ (D 9 = true → ∃ x, ρ 9 = .slice (some ⟨x, 0, none⟩) 512 512 ∧ Rw u 5 1 (some ⟨x, 0, none⟩) 512 512 (bv (fil 512 (o j).x2)) ∧ w3.heap.size ≤ x))) (CE) ?_ ?_ ?_ ?_ ?_ ?_ ?_ ?_ ?_ ?_
            · kernel_rfl
            · kernel_rfl
            · kernel_rfl
            · kernel_rfl
            · kernel_rfl
            · kernel_rfl
            · intro i hi; simp at hi; rcases hi with rfl | rfl; exact ⟨.slice (some ⟨0, 0, none⟩) 512 512, by simp⟩; exact ⟨.int .i64 0, by simp⟩
            · exact ⟨hce0, by simp, fun _ => ⟨HL3.out, (Below.refl _ _).drew, by simp⟩⟩
            · exact fun ρ D u h => h.1
            · intro θ hθ
              simp only [SegsT, List.take_succ_cons, List.take_zero, List.drop_succ_cons, List.drop_zero, Nat.sub_zero, Nat.reduceSub, Nat.reduceAdd, List.drop_nil, List.take_nil]
              haveI i1 : Nonempty (Wd CE) := ⟨⟨_, hce0⟩⟩
              have l0 : ∀ s : Wd CE, s.val.cell? ⟨ob, 0, none⟩ = some (.int .i64 (o j).x0) := fun s => (hce _ s.prop).1
              have l1 : ∀ s : Wd CE, s.val.cell? ⟨ob, 1, none⟩ = some (.int .i64 (nn : Int)) := fun s => (hce _ s.prop).2.1
              have l2 : ∀ s : Wd CE, s.val.cell? ⟨ob, 2, none⟩ = some (.int .u8 (o j).x2) := fun s => (hce _ s.prop).2.2
              obtain ⟨x9, t9⟩ := (hθ 9 (by decide)).1 rfl
              have t10 := (hθ 10 (by decide)).2 rfl
              have HCEB := Lib.hid hceb
              clear hceb hce hce0
              repeat (go_big_quiet_step (fail))
              refine wpQuiet_nil ?_
              rw [if_pos (by decide)]
              refine ⟨thOK_call [] [10] 11 _ _ (by kernel_rfl) rfl (by kernel_rfl) #[.int .i64 512, .int .u8 (o j).x2] (by kernel_rfl) (by kernel_rfl) (fun ρ D u hq hK => ?_), ?_⟩
              · have h10 := hq.not 10 (by simp)
                obtain ⟨g1, g2, g3⟩ := hK.2.2 h10
                refine (filled_ok 512 (by omega) (o j).x2 u).mono ?_
                rintro e u' ⟨x, rfl, r1, r2, r3⟩
                exact ⟨_, rfl, ⟨fun _ => ⟨x, rfl⟩, by simp⟩, HCEB.out _ _ hK.1 (fun hk => r2.block _ hk), by simp [upd, h10], fun _ => ⟨g1.below r2, g2.trans (Below.mono r2 g2.size), fun _ => ⟨x, by simp [setV], r1, Nat.le_trans g2.size r3⟩⟩⟩
              rw [t9]
              try go_frame
              repeat (go_big_quiet_step (fail))
              refine wpQuiet_nil ?_
              rw [if_pos (by decide)]
              refine ⟨thOK_call [9] [] 10 _ _ (by kernel_rfl) rfl (by kernel_rfl) #[.pointer (some ⟨g, 0, none⟩), .int .i64 (nn : Int), .slice (some ⟨x9, 0, none⟩) 512 512] (by kernel_rfl) (by kernel_rfl) (fun ρ D u hq hK => ?_), ?_⟩
              · have h10 := hq.now
                obtain ⟨g1, g2, g3⟩ := hK.2.2 h10
                obtain ⟨x, e9, hx, hxs⟩ := g3 (hq.did 9 (by simp))
                have e9' := hq.gave 9 (by simp) (by decide)
                rw [e9, t9] at e9'
                obtain rfl : x = x9 := by injection e9' with e9' _ _; injection e9' with e9'; injection e9'
                have hxf : ¬ a.all S x := fun q => by have := HLR.out.ow.dr.foot_lt q; omega
                refine (g1.write nn HNC.out (by omega) x _ hx hxf).mono ?_
                rintro e u' ⟨rfl, r1, r3, r2⟩
                exact ⟨_, rfl, by simp, HCEB.out _ _ hK.1 (fun hk => r2 _ hk HOF.out), fun _ => by rw [hFF]; exact ⟨r1, Nat.le_trans g2.size r3⟩, by simp [upd]⟩
              rw [t10]
              try go_frame
              repeat (go_big_quiet_step (fail))
              refine wpQuiet_nil ?_
              intro u hK
              have hfu := hK.2.1 rfl
              have hcu := hK.1
              clear hK t9 t10 l0 l1 l2 i1 hθ HCEB
              rw [hFF] at hfu
              have HFU := Lib.hid (And.intro (hfu.1.below (Below.refl _ _).drew) (show w3.heap.size ≤ u.drew.heap.size from hfu.2))
              obtain ⟨v, hv⟩ : ∃ v, v = u := ⟨u, rfl⟩
              subst hv
              have hcv := HCEB2.out _ _ hcu (show ob < v.heap.size → v.drew.heap[ob]? = v.heap[ob]? from fun _ => rfl)
              have hcu0 := HCU.out v hcu
              have HLB := Lib.hid (fil_byte 512 (o j).x2)
              clear hfu hFF
              go_wp2_with fail
              clear hcu hcu0
              refine wp_theta [5, 7, 8] [5, 7, 8] (fun i v => (i = 5 → ∃ x, v = .slice (some ⟨x, 0, none⟩) 512 512) ∧ (i = 7 → ∃ y, v = .slice (some ⟨y, 0, none⟩) 1 1) ∧ (i = 8 → ∃ A2 c2, v = .slice A2 (ws.length + 1) c2)) (fun ρ D u => CE u ∧ (D 8 = false → LW w g cnt nn (fil 512 (o j).x2) S AA c ws u ∧ Below v.drew.heap.size v.drew u) ∧ (D 5 = true → D 7 = false → D 8 = false → ∃ x, ρ 5 = .slice (some ⟨x, 0, none⟩) 512 512 ∧ Rw u 5 1 (some ⟨x, 0, none⟩) 512 512 (bv (fil 512 (o j).x2)) ∧ v.drew.heap.size ≤ x) ∧ (D 7 = true → D 8 = false → ∃ x y, ρ 5 = .slice (some ⟨x, 0, none⟩) 512 512 ∧ ρ 7 = .slice (some ⟨y, 0, none⟩) 1 1 ∧ Rw u 5 1 (some ⟨x, 0, none⟩) 512 512 (bv (fil 512 (o j).x2)) ∧ v.drew.heap.size ≤ x ∧ u.cell? ⟨y, 0, none⟩ = some (.int .i64 (nn : Int)) ∧ u.cell? ⟨y, 1, none⟩ = some (.slice (some ⟨x, 0, none⟩) 512 512)) ∧ (D 8 = true → ∃ A2 c2 a' p x, ρ 8 = .slice A2 (ws.length + 1) c2 ∧ LT w u g cnt a' (S.push p) A2 c2 (ws ++ [⟨nn, x, 512, fil 512 (o j).x2⟩]))) (CE) ?_ ?_ ?_ ?_ ?_ ?_ ?_ ?_ ?_ ?_
              · kernel_rfl
              · kernel_rfl
              · kernel_rfl
              · kernel_rfl
              · kernel_rfl
              · kernel_rfl
              · intro i hi; simp at hi; rcases hi with rfl | rfl | rfl; exact ⟨.slice (some ⟨0, 0, none⟩) 512 512, by simp⟩; exact ⟨.slice (some ⟨0, 0, none⟩) 1 1, by simp⟩; exact ⟨.slice none (ws.length + 1) 0, by simp⟩
              · exact ⟨hcv, fun _ => ⟨HFU.out.1, Below.refl _ _⟩, by simp, by simp, by simp⟩
              · exact fun ρ D u h => h.1
              · intro θ hθ
                simp only [SegsT, List.take_succ_cons, List.take_zero, List.drop_succ_cons, List.drop_zero, Nat.sub_zero, Nat.reduceSub, Nat.reduceAdd, List.drop_nil, List.take_nil]
                haveI i1 : Nonempty (Wd CE) := ⟨⟨_, hcv⟩⟩
                have l1 : ∀ s : Wd CE, s.val.cell? ⟨ob, 1, none⟩ = some (.int .i64 (nn : Int)) := fun s => (HCE2.out _ s.prop).1
                have l2 : ∀ s : Wd CE, s.val.cell? ⟨ob, 2, none⟩ = some (.int .u8 (o j).x2) := fun s => (HCE2.out _ s.prop).2
                obtain ⟨x5, t5⟩ := (hθ 5 (by decide)).1 rfl
                obtain ⟨y7, t7⟩ := (hθ 7 (by decide)).2.1 rfl
                obtain ⟨A8, c8, t8⟩ := (hθ 8 (by decide)).2.2 rfl
                clear hcv
                repeat (go_big_quiet_step (fail))
                refine wpQuiet_nil ?_
                rw [if_pos (by decide)]
                refine ⟨thOK_call [] [7, 8] 11 _ _ (by kernel_rfl) rfl (by kernel_rfl) #[.int .i64 512, .int .u8 (o j).x2] (by kernel_rfl) (by kernel_rfl) (fun ρ D u hq hK => ?_), ?_⟩
                · have h7 := hq.not 7 (by simp)
                  have h8 := hq.not 8 (by simp)
                  obtain ⟨g1, g2⟩ := hK.2.1 h8
                  refine (filled_ok 512 (by omega) (o j).x2 u).mono ?_
                  rintro e u' ⟨x, rfl, r1, r2, r3⟩
                  exact ⟨_, rfl, ⟨fun _ => ⟨x, rfl⟩, by simp, by simp⟩, HCEB2.out _ _ hK.1 (fun hk => r2.block _ hk), fun _ => ⟨g1.below r2, g2.trans (Below.mono r2 g2.size)⟩, fun _ _ _ => ⟨x, by simp [setV], r1, Nat.le_trans g2.size r3⟩, by simp [upd, h7], by simp [upd, h8]⟩
                rw [t5]
                try go_frame
                repeat (go_big_quiet_step (fail))
                refine wpQuiet_nil ?_
                rw [if_pos (by decide)]
                refine ⟨thOK_run [5] [8] (by kernel_rfl) (by kernel_rfl) (fun ρ D u hq hK => ?_), ?_⟩
                · have h7 := hq.now
                  have h8 := hq.not 8 (by simp)
                  obtain ⟨g1, g2⟩ := hK.2.1 h8
                  obtain ⟨x, e5, hx, hxs⟩ := hK.2.2.1 (hq.did 5 (by simp)) h7 h8
                  have e5' := hq.gave 5 (by simp) (by decide)
                  have e55 := e5'
                  rw [e5, t5] at e5'
                  obtain rfl : x = x5 := by injection e5' with e5' _ _; injection e5' with e5'; injection e5'
                  have hB : Below u.heap.size u (u.alloc (.cells #[.int .i64 (nn : Int), .slice (some ⟨x, 0, none⟩) 512 512] 44)) := (Below.refl _ _).alloc (Nat.le_refl _) _
                  refine ⟨_, _, run_box_any (s := Instr.buildSlice 42 1 #[(0, .agg #[.int .i64 (nn : Int), .slice (some ⟨x, 0, none⟩) 512 512])]) (by kernel_rfl) (bs42 _ _ rfl u), ⟨by simp, fun _ => ⟨_, rfl⟩, by simp⟩, HCEB2.out _ _ hK.1 (fun hk => hB.block _ hk), fun _ => ⟨g1.below hB, g2.trans (Below.mono hB g2.size)⟩, by simp [upd], fun _ _ => ⟨x, u.heap.size, by simpa [setV] using e5, by simp [setV], hx.below hB, hxs, by simp [go_sem], by simp [go_sem]⟩, by simp [upd, h8]⟩
                rw [t7]
                try go_frame
                repeat (go_big_quiet_step (fail))
                refine wpQuiet_nil ?_
                rw [if_pos (by decide)]
                refine ⟨thOK_run [5, 7] [] (by kernel_rfl) (by kernel_rfl) (fun ρ D u hq hK => ?_), ?_⟩
                · have h8 := hq.now
                  obtain ⟨g1, g2⟩ := hK.2.1 h8
                  obtain ⟨x, y, e5, e7, hx, hxs, hy0, hy1⟩ := hK.2.2.2.1 (hq.did 7 (by simp)) h8
                  have e7' := hq.gave 7 (by simp) (by decide)
                  rw [e7, t7] at e7'
                  obtain rfl : y = y7 := by injection e7' with e7' _ _; injection e7' with e7'; injection e7'
                  have hrl := HLR.out.wsr
                  obtain ⟨A2, c2, u', f1, ⟨a', p, f2⟩, f3⟩ := LW.app HLR.out HLB.out g1 (by have := HWL.out; omega) x y hx (by have := HLR.out.ow.bl.size; have := HFU.out.2; omega) (fun e => by have := hrl.row.lt x e; have := HFU.out.2; omega) ⟨v.drew, g2, HFU.out.1, hxs⟩ hy0 hy1
                  refine ⟨_, u', run_box_any (s := Builtin.append_ #[42, 42] 42 #[.slice AA ws.length c, .slice (some ⟨y, 0, none⟩) 1 1]) (by kernel_rfl) f1, ⟨by simp, by simp, fun _ => ⟨A2, c2, rfl⟩⟩, HCEB2.out _ _ hK.1 (fun hk => f3.block _ hk (fun e => by have := hrl.row.lt ob e; omega)), by simp [upd], by simp [upd], by simp [upd], fun _ => ⟨A2, c2, a', p, x, by simp [setV], f2⟩⟩
                rw [t8]
                try go_frame
                repeat (go_big_quiet_step (fail))
                refine wpQuiet_nil ?_
                intro u hK
                obtain ⟨A2, c2, a', p, x, e8, hfin⟩ := hK.2.2.2.2 rfl
                have e8' : res [5, 7, 8] θ (fun j => decide (j < 10)) 8 = θ 8 := rfl
                have e88 := e8.symm.trans (e8'.trans t8)
                obtain ⟨rfl, rfl⟩ : A2 = A8 ∧ c2 = c8 := by injection e88 with q1 _ q3; exact ⟨q1, q3⟩
                have hcu0 := HCU.out u hK.1
                have HFIN := Lib.hid hfin
                clear hK t5 t7 t8 l1 l2 i1 hθ e8 e8' e88 hfin

                go_wp2_with fail
                go_roundg (len - (j + 1))
                case measure => have := HK.out; omega
                case rel => exact ⟨j + 1, a', S.push p, _, _, ws ++ [⟨nn, x, 512, fil 512 (o j).x2⟩], by go_num, by simp, rfl, by omega, by simp [DS.push]; omega, HFIN.out⟩
        · have kk : ((o j).x0 == 0) = false := by simpa using hk0
          have e0 : (wr.alloc (.cells #[.int .i64 (o j).x0, .int .i64 (o j).x1, .int .u8 (o j).x2, .int .i64 (o j).x3, .slice (o j).a4 (o j).l4 (o j).k4] 31)).cell? ⟨wr.heap.size, 0, none⟩ = some (.int .i64 (o j).x0) := by simp [go_sem]
          by_cases hk2 : (o j).x0 = 2
          · have kk2 : ((o j).x0 == 2) = true := by simp [hk2]
            have HF := Lib.hid (fun nq => (LP3.below (below_drewN (Below.refl _ _) nq)).flush (by omega))
            clear hk0 hk2 LP3
            go_wp2_with fail
            go_quiet (fail)
            go_wp2_with fail
            refine (HF.out nq).mono ?_
            rintro e w4 ⟨⟨v, rfl⟩, a', S', hlt', hpl'⟩
            have HLN := Lib.hid hlt'
            have HPN := Lib.hid hpl'
            clear hlt' hpl'
            go_wp2_with fail
            go_roundg (len - (j + 1))
            case measure => have := HK.out; omega
            case rel => exact ⟨j + 1, a', S', none, 0, [], by go_num, rfl, rfl, by omega, by have := HPN.out; omega, HLN.out⟩
          · have kk2 : ((o j).x0 == 2) = false := by simpa using hk2
            have HN := Lib.hid (fun nq => LP3.below (below_drewN (Below.refl _ _) nq))
            clear hk0 hk2 LP3
            go_wp2_with fail
            go_quiet (fail)
            go_wp2_with fail
            go_roundg (len - (j + 1))
            case measure => have := HK.out; omega
            case rel => exact ⟨j + 1, a, S, _, c, ws, by go_num, rfl, rfl, by omega, by omega, HN.out nq⟩
      · obtain rfl : j = len := by omega
        have HIM := image_ok hlt.ow.dr
        rw [hlt.ga, hlt.cnt] at HIM
        have HIM := Lib.hid HIM
        have hwl : ws.length ≤ 2 ^ 42 := by have := core_len hlt.cor; omega
        have hpl2 : S.pend.length ≤ 2 ^ 42 := by omega
        clear hk hlt hpl
        go_wp2_with fail
        refine HIM.out.mono ?_
        rintro e w5 ⟨Ab, cb, rfl, q1, q2, q3⟩
        obtain ⟨w4x, hw4x⟩ : ∃ x, x = wr.heap.size := ⟨_, rfl⟩
        rw [← hw4x] at q3
        have HFB := Lib.hid q3
        have HW4X := Lib.hid hw4x
        have HAF := Lib.hid (fun k (q : a.foot k) => show k < w4x by rw [hw4x]; exact HLR.out.ow.dr.foot_lt (.inl q))
        clear hw4x
        have hL5 := HLR.out.below q2
        have HL5 := Lib.hid hL5
        have HIB := Lib.hid (And.intro q1 q2)
        clear q1 q2 q3 hL5 HIM
        go_wp2_with fail
        go_loopg [13, 80] len3 (fun k v_ i_ wr => ∃ (q : Nat) (v : Bool), i_ = .int .i64 (q : Int) ∧ v_ = .bool v ∧ k = len3 - q ∧ q ≤ len3 ∧ Below w5.heap.size w5 wr ∧ (v = true → ∀ i, i < q → (o3 i).x1 = 512))
        case atStart => exact ⟨0, true, rfl, rfl, rfl, by omega, Below.refl _ _, fun _ i hi => by omega⟩
        case round =>
          obtain ⟨q, v, rfl, rfl, hk, hq, hb, hv⟩ := hrel
          have HK2 := Lib.hid hk
          have HB2 := Lib.hid hb
          have HV := Lib.hid hv
          clear hk hb hv
          by_cases hlq : q < len3
          · have hbw : Below w.heap.size w wr := HL5.out.ow.bl.trans (Below.mono HB2.out HL5.out.ow.bl.size)
            obtain ⟨b, off, rfl, hcell⟩ := (HTN.out wr hbw) (by omega)
            obtain ⟨d0, d1⟩ := hcell q hlq
            have HBN := Lib.hid (show Below w5.heap.size w5 (wr.alloc (.cells #[.int .i64 (o3 q).x0, .int .i64 (o3 q).x1] 47)) from HB2.out.alloc HB2.out.size _)
            clear hcell hbw
            cases v with
            | true =>
              by_cases h512 : (o3 q).x1 = 512
              · have k1 : ((o3 q).x1 == 512) = true := by simp [h512]
                have H512 := Lib.hid h512
                clear h512
                go_wp2_with fail
                go_roundg (len3 - (q + 1))
                case measure => have := HK2.out; omega
                case rel => exact ⟨q + 1, true, by go_num, by first | rfl | simp, rfl, by omega, HBN.out, fun _ i hi => by
                  by_cases e : i = q
                  · rw [e]; exact H512.out
                  · exact HV.out (by first | rfl | trivial) i (by omega)⟩
              · have k1 : ((o3 q).x1 == 512) = false := by simpa using h512
                clear h512
                go_wp2_with fail
                go_roundg (len3 - (q + 1))
                case measure => have := HK2.out; omega
                case rel => exact ⟨q + 1, false, by go_num, by first | rfl | simp, rfl, by omega, HBN.out, fun h => by cases h⟩
            | false =>
              go_wp2_with fail
              go_roundg (len3 - (q + 1))
              case measure => have := HK2.out; omega
              case rel => exact ⟨q + 1, false, by go_num, by first | rfl | simp, rfl, by omega, HBN.out, fun h => by cases h⟩
          · obtain rfl : q = len3 := by omega
            have hL6 := HL5.out.below HB2.out
            have hbf := HIB.out.1.below HB2.out
            have HCR := Lib.hid (hL6.crash A3 q cap3 o3 (HTN.out wr hL6.ow.bl) HKA.out hlen3 hpl2)
            have HBF := Lib.hid hbf
            have kq : ((cnt : Int) * 512 != 512 * (cnt : Int)) = false := by
              have : (cnt : Int) * 512 = 512 * (cnt : Int) := by omega
              simp [this]
            have HFR := Lib.hid (show ∀ k, blkOf Ab = some k → w4x ≤ k from HFB.out)
            have HVW := Lib.hid (show v = true → ∀ i, i < q → (o3 i).x1 = 512 from HV.out)
            have hL6c := hL6.ow.dr.blk.lt
            clear hL6 hbf HV
            go_wp2_with fail
            refine HCR.out.mono ?_
            rintro e w7 hh
            rcases hh with ⟨rfl, g1, g2⟩ | ⟨rfl, a', g1, g2, g3, g4⟩
            · have hrow : Rw w7 5 1 Ab (cnt * 512) cb (bv S.plat) := HBF.out.below g2
              have hdr : Below w7.heap.size w7 w7.drew := (Below.refl _ _).drew
              have kl : ((S.pend.length : Int) == (ws.length : Int)) = true := by simp [core_len g1.cor]
              obtain ⟨CC, hCC⟩ : ∃ CC : World → Prop, CC = fun u => LT w u g cnt a S AA c ws ∧ Rw u 5 1 Ab (cnt * 512) cb (bv S.plat) := ⟨_, rfl⟩
              have hcc : ∀ u, CC u → LT w u g cnt a S AA c ws ∧ Rw u 5 1 Ab (cnt * 512) cb (bv S.plat) := fun u h => by rw [hCC] at h; exact h
              have hcb : ∀ u u', CC u → Below u.heap.size u u' → CC u' := fun u u' h hb => by rw [hCC] at h ⊢; exact ⟨h.1.below hb, h.2.below hb⟩
              have k0 : CC w7.drew := by rw [hCC]; exact ⟨g1.below hdr, hrow.below hdr⟩
              clear g1 g2 hrow hdr hCC
              go_wp2_with fail
              refine wp_theta [1, 8] [1, 2, 8] (fun i v => (i = 1 → ∃ A c, v = .slice A (cnt * 512) c) ∧ (i = 8 → ∃ A c, v = .slice A S.pend.length c)) (fun ρ D u => CC u ∧ (D 1 = true → ∃ A c, ρ 1 = .slice A (cnt * 512) c ∧ Rw u 5 1 A (cnt * 512) c (bv S.plat))) (CC) ?_ ?_ ?_ ?_ ?_ ?_ ?_ ?_ ?_ ?_
              · kernel_rfl
              · kernel_rfl
              · kernel_rfl
              · kernel_rfl
              · kernel_rfl
              · kernel_rfl
              · intro i hi; simp at hi; rcases hi with rfl | rfl; exact ⟨.slice none (cnt * 512) 0, by simp⟩; exact ⟨.slice none S.pend.length 0, by simp⟩
              · exact ⟨k0, by simp⟩
              · exact fun ρ D u h => h.1
              · intro θ hθ
                simp only [SegsT, List.take_succ_cons, List.take_zero, List.drop_succ_cons, List.drop_zero, Nat.sub_zero, Nat.reduceSub, Nat.reduceAdd, List.drop_nil, List.take_nil]
                haveI i1 : Nonempty (Wd CC) := ⟨⟨_, k0⟩⟩
                have b0 : ∀ s : Wd CC, (convert 33 9 (.slice Ab (cnt * 512) cb)).run Try.prog s.val = .ok (.string (str S.plat)) s.val := fun s => conv9 _ _ _ _ _ (hcc _ s.prop).2
                obtain ⟨A1, c1, t1⟩ := (hθ 1 (by decide)).1 rfl
                obtain ⟨A8, c8, t8⟩ := (hθ 8 (by decide)).2 rfl
                have HCC := Lib.hid hcc
                have HCB := Lib.hid hcb
                clear k0 hcc hcb
                repeat (go_big_quiet_step (fail))
                refine wpQuiet_nil ?_
                rw [if_pos (by decide)]
                refine ⟨thOK_call [] [] 16 _ _ (by kernel_rfl) rfl (by kernel_rfl) #[.pointer (some ⟨g, 0, none⟩)] (by kernel_rfl) (by kernel_rfl) (fun ρ D u hq hK => ?_), ?_⟩
                · have hi := image_ok (HCC.out _ hK.1).1.ow.dr
                  rw [(HCC.out _ hK.1).1.ga, (HCC.out _ hK.1).1.cnt] at hi
                  refine hi.mono ?_
                  rintro e u' ⟨A2, c2, rfl, r1, r2, r3⟩
                  exact ⟨_, rfl, ⟨fun _ => ⟨A2, c2, rfl⟩, by simp⟩, HCB.out _ _ hK.1 r2, fun _ => ⟨A2, c2, by simp [setV], r1⟩⟩
                rw [t1]
                try go_frame
                repeat (go_big_quiet_step (fail))
                refine wpQuiet_nil ?_
                rw [if_neg (by decide)]
                refine ⟨.string (str S.plat), detOK_run [1] [] (by kernel_rfl) (by kernel_rfl) (fun ρ D u hq hK => ?_), ?_⟩
                · obtain ⟨A2, c2, g1, g2⟩ := hK.2 (hq.did 1 (by simp))
                  have g3 := hq.gave 1 (by simp) (by decide)
                  rw [g1, t1] at g3
                  injection g3 with e1 _ e3
                  subst e1 e3
                  exact ⟨u, run_box_any (s := convert 33 9 (.slice A2 (cnt * 512) c2)) (by kernel_rfl) (conv9 u _ _ _ _ g2), hK.1, fun h => hK.2 (by simpa [upd] using h)⟩
                try go_frame
                repeat (go_big_quiet_step (fail))
                refine wpQuiet_nil ?_
                rw [if_pos (by decide)]
                refine ⟨thOK_call [] [] 15 _ _ (by kernel_rfl) rfl (by kernel_rfl) #[.pointer (some ⟨g, 0, none⟩)] (by kernel_rfl) (by kernel_rfl) (fun ρ D u hq hK => ?_), ?_⟩
                · have hi := pending_ok (HCC.out _ hK.1).1.ow.dr hpl2
                  rw [(HCC.out _ hK.1).1.ga] at hi
                  refine hi.mono ?_
                  rintro e u' ⟨A2, c2, rfl, r1, r2, r3⟩
                  exact ⟨_, rfl, ⟨by simp, fun _ => ⟨A2, c2, rfl⟩⟩, HCB.out _ _ hK.1 r2, fun h => by
                    obtain ⟨A3, c3, g1, g2⟩ := hK.2 (by simpa [upd] using h)
                    exact ⟨A3, c3, by simpa [setV] using g1, g2.below r2⟩⟩
                rw [t8]
                try go_frame
                repeat (go_big_quiet_step (fail))
                refine wpQuiet_nil ?_
                intro u hK
                have HBL := Lib.hid (HCC.out _ hK.1).1.ow.bl
                clear hK t1 t8 b0 i1 hθ
                go_wp2
                go_ret
                exact ⟨by first | rfl | simp, HBL.out⟩
            · have hgd := HL5.out.gd
              have hP : (S.crash q o3).plat = S.crashTo o3 q := rfl
              have hIM2 := image_ok g1.dr
              rw [g2, show (S.crash q o3).cnt = cnt from HL5.out.cnt, hP] at hIM2
              have hrow7 : Rw w7 5 1 Ab (cnt * 512) cb (bv S.plat) := HBF.out.ch g4.ch (fun k e q => by have := HAF.out k q; have := HFR.out k e; omega)
              have H7 := Lib.hid (And.intro hrow7 (And.intro g3 g1.bl))
              have HIM2 := Lib.hid hIM2
              have HGD := Lib.hid hgd
              clear g1 g2 g3 g4 hgd hP hIM2 hrow7
              go_wp2_with fail
              refine HIM2.out.mono ?_
              rintro e w8 ⟨Aa, ca, rfl, r1, r2, r3⟩
              have H8 := Lib.hid (And.intro (H7.out.1.below r2) (And.intro r1 (And.intro (H7.out.2.1.below r2) (H7.out.2.2.trans (Below.mono r2 H7.out.2.2.size)))))
              obtain ⟨bb, rfl⟩ := H8.out.1.some_ (by omega)
              obtain ⟨ba, rfl⟩ := r1.some_ (by omega)
              clear r1 r2 r3 HIM2 H7
              go_wp2_with fail
              go_loopg [17] (cnt + 1) (fun k n_ wr => ∃ (nn : Nat), n_ = .int .i64 (nn : Int) ∧ k = cnt + 1 - nn ∧ nn ≤ cnt ∧ Below w8.heap.size w8 wr)
              case atStart => exact ⟨0, rfl, rfl, by omega, Below.refl _ _⟩
              case round =>
                obtain ⟨nn, rfl, hk, hnn, hb⟩ := hrel
                have HK3 := Lib.hid hk
                have HB3 := Lib.hid hb
                by_cases hnc : nn < cnt
                · have hpl : S.plat.length = cnt * 512 := by have := HGD.out.size; rw [HL5.out.cnt] at this; exact this
                  have hcl : (S.crashTo o3 q).length = cnt * 512 := by have := crashTo_len HGD.out o3 q; rw [HL5.out.cnt] at this; exact this
                  obtain ⟨lo, hlo⟩ : ∃ lo, lo = sct S.plat nn := ⟨_, rfl⟩
                  obtain ⟨ln, hln⟩ : ∃ ln, ln = sct (S.crashTo o3 q) nn := ⟨_, rfl⟩
                  have cutf : ∀ (b c : Nat), cnt * 512 ≤ c → c ≤ maxLen → ∀ w : World, (Instr.slice 33 (.slice (some ⟨b, 0, none⟩) (cnt * 512) c) (some (.int .i64 (512 * (nn : Int)))) (some (.int .i64 (512 * (nn : Int) + 512))) none).run Try.prog w = .ok (.slice (some ⟨b, nn * 512, none⟩) 512 (c - nn * 512)) w := fun b c h1 h2 w => by
                    obtain ⟨A', q1, q2, q3⟩ := cut_lh (P := Try.prog) byT b (cnt * 512) c (nn * 512) (nn * 512 + 512) (by omega) (by omega) h2
                    have hA := q2 (by omega)
                    rw [Nat.mul_one] at hA
                    subst hA
                    have := q1 w
                    rw [show ((nn * 512 : Nat) : Int) = 512 * (nn : Int) by omega, show ((nn * 512 + 512 : Nat) : Int) = 512 * (nn : Int) + 512 by omega, show nn * 512 + 512 - nn * 512 = 512 by omega] at this
                    exact this
                  have cv : ∀ (b c : Nat) (qq : List Int), Rw wr 5 1 (some ⟨b, 0, none⟩) (cnt * 512) c (bv qq) → qq.length = cnt * 512 → ∀ k, (convert 33 9 (.slice (some ⟨b, nn * 512, none⟩) 512 (c - nn * 512))).run Try.prog (wr.drewN k) = .ok (.string (str (sct qq nn))) (wr.drewN k) := fun b c qq hr hl k => by
                    refine conv9b _ _ _ _ _ ⟨sct_len (by omega), by omega, (by intro e; cases e), Rd.of_cells (fun j u hu => ?_) (bv_one _)⟩
                    have hj := (List.getElem?_eq_some_iff.1 hu).1
                    rw [bv_len, sct_len (by omega)] at hj
                    rw [(hr.drewN k).cell (nn * 512 + j) (by omega), ← hu]
                    unfold bv
                    rw [List.getElem?_map, List.getElem?_map, sct_get _ _ hj]
                  have hcb := cutf bb cb H8.out.1.le.1 H8.out.1.le.2
                  have hca := cutf ba ca H8.out.2.1.le.1 H8.out.2.1.le.2
                  have hvb := cv bb cb S.plat (H8.out.1.below HB3.out) hpl
                  have hva := cv ba ca _ (H8.out.2.1.below HB3.out) hcl
                  rw [← hlo] at hvb
                  rw [← hln] at hva
                  have hlol : lo.length = 512 := by rw [hlo]; exact sct_len (by omega)
                  have hlnl : ln.length = 512 := by rw [hln]; exact sct_len (by omega)
                  have hbo : ByteOK lo := fun x hx => HGD.out.b1 x (by rw [hlo] at hx; exact List.mem_of_mem_drop (List.mem_of_mem_take hx))
                  have hbn : ByteOK ln := fun x hx => crashTo_byte HGD.out o3 q x (by rw [hln] at hx; exact List.mem_of_mem_drop (List.mem_of_mem_take hx))
                  have hmix : Mix lo ln nn (core ws) := by rw [HL5.out.cor, hlo, hln]; exact crashTo_mix HGD.out o3 nn q
                  have hbw : ∀ p ∈ ws, ByteOK p.bs := fun p hp => by
                    have : (p.n, p.bs) ∈ core S.pend := by rw [← HL5.out.cor]; exact List.mem_map.2 ⟨p, hp, rfl⟩
                    obtain ⟨p0, hp0, e⟩ := List.mem_map.1 this
                    have := HGD.out.b2 p0 hp0
                    rw [show p0.bs = p.bs by injection e] at this; exact this
                  have hwho : (∀ i, i < q → (o3 i).x1 = 512) → ln = lo ∨ ∃ p ∈ core ws, p.1 = nn ∧ p.2 = ln := fun h => by
                    rw [HL5.out.cor, hlo, hln]; exact crashTo_whole HGD.out o3 nn (by rw [HL5.out.cnt]; exact hnc) q h
                  have hmx : ∀ u, Below w8.heap.size w8 u → Calls Try.prog 17 #[.string (str lo), .string (str ln), .int .i64 (nn : Int), .slice AA ws.length c] u fun e w' => e = .returned (.bool true) ∧ Below u.heap.size u w' := fun u hu => mixed_ok u lo ln nn AA c ws (H8.out.2.2.1.below hu) hlol hlnl hbo hbn hbw hmix hwl
                  have hjd : decide ((nn : Int) < (cnt : Int)) = true := by simp; omega
                  obtain ⟨sn, hsn⟩ : ∃ sn, str ln = sn := ⟨_, rfl⟩
                  obtain ⟨so, hso⟩ : ∃ so, str lo = so := ⟨_, rfl⟩
                  rw [hso] at hvb hmx
                  rw [hsn] at hva hmx
                  have HMX := Lib.hid hmx
                  have HSN := Lib.hid hsn
                  have HWHO := Lib.hid hwho
                  by_cases hss : so.toList = sn.toList
                  · skip
                    have k2 : (so.toList == sn.toList) = true := by simp [hss]
                    have HBX := Lib.hid (fun k => below_drewN HB3.out k)
                    clear hk hb hss hsn hso hlol hlnl hbo hbn hmix hbw hwho hmx hpl hcl cutf cv hlo hln
                    go_wp2_with fail
                    go_quiet (fail)
                    go_wp2_with fail
                    go_roundg (cnt + 1 - (nn + 1))
                    case measure => have := HK3.out; omega
                    case rel => exact ⟨nn + 1, by go_num, rfl, by omega, HBX.out nq⟩
                  · skip
                    have k2 : (so.toList == sn.toList) = false := by simpa using hss
                    have HNE := Lib.hid (show ¬ ln = lo from fun e => hss (by rw [← hso, ← hsn, e]))
                    have HBX := Lib.hid (fun k => below_drewN HB3.out k)
                    clear hk hb hss hsn hso hlol hlnl hbo hbn hmix hbw hwho hmx hpl hcl cutf cv hlo hln
                    go_wp2_with fail
                    go_quiet (fail)
                    go_wp2_with fail
                    have HBY := Lib.hid (HBX.out nq)
                    clear hcb hca hvb hva
                    go_loopg [20, 147] ws.length (fun k v_ i_ wr => ∃ (q2 : Nat) (v2 : Bool), i_ = .int .i64 (q2 : Int) ∧ v_ = .bool v2 ∧ k = ws.length - q2 ∧ q2 ≤ ws.length ∧ Below w8.heap.size w8 wr ∧ (v2 = false → ∀ p ∈ ws.take q2, ¬ (p.n = nn ∧ (str p.bs).toList = sn.toList)))
                    case atStart => exact ⟨0, false, rfl, rfl, rfl, by omega, HBY.out, fun _ => by simp⟩
                    case round =>
                      obtain ⟨q2, v2, rfl, rfl, hk, hq2, hb, hv⟩ := hrel
                      have HK4 := Lib.hid hk
                      have HB4 := Lib.hid hb
                      have HVF := Lib.hid hv
                      clear hk hb hv
                      by_cases hlq2 : q2 < ws.length
                      · obtain ⟨p, hp⟩ : ∃ p, ws[q2]? = some p := ⟨_, List.getElem?_eq_getElem hlq2⟩
                        have hW4 := H8.out.2.2.1.below HB4.out
                        obtain ⟨b4, rfl, d0, d1⟩ := hW4.cell hp
                        unfold PW.val at d1
                        have hBe : Below wr.heap.size wr (wr.alloc (.cells #[.int .i64 (p.n : Int), .slice (some ⟨p.b, 0, none⟩) 512 p.c] 44)) := (Below.refl _ _).alloc (Nat.le_refl _) _
                        have hcv := conv9 (wr.alloc (.cells #[.int .i64 (p.n : Int), .slice (some ⟨p.b, 0, none⟩) 512 p.c] 44)) _ _ _ _ ((hW4.rows p (List.mem_of_getElem? hp)).below hBe)
                        have HBN4 := Lib.hid (show Below w8.heap.size w8 (wr.alloc (.cells #[.int .i64 (p.n : Int), .slice (some ⟨p.b, 0, none⟩) 512 p.c] 44)) from HB4.out.alloc HB4.out.size _)
                        have htk : ws.take (q2 + 1) = ws.take q2 ++ [p] := by rw [List.take_add_one, hp]; rfl
                        have HTK := Lib.hid htk
                        clear hW4 hBe hp htk
                        cases v2 with
                        | true =>
                          go_wp2_with fail
                          go_roundg (ws.length - (q2 + 1))
                          case measure => have := HK4.out; omega
                          case rel => exact ⟨q2 + 1, true, by go_num, by first | rfl | simp, rfl, by omega, HBN4.out, fun h => by cases h⟩
                        | false =>
                          by_cases hpn : p.n = nn
                          · have k3 : ((p.n : Int) == (nn : Int)) = true := by simp [hpn]
                            obtain ⟨sp, hsp⟩ : ∃ sp, str p.bs = sp := ⟨_, rfl⟩
                            rw [hsp] at hcv
                            by_cases hsq : sp.toList = sn.toList
                            · skip
                              have k5 : (sp.toList == sn.toList) = true := by simp [hsq]
                              clear hpn hsq hsp
                              go_wp2_with fail
                              go_roundg (ws.length - (q2 + 1))
                              case measure => have := HK4.out; omega
                              case rel => exact ⟨q2 + 1, true, by go_num, by first | rfl | simp, rfl, by omega, HBN4.out, fun h => by cases h⟩
                            · skip
                              have k5 : (sp.toList == sn.toList) = false := by simpa using hsq
                              have HSQ := Lib.hid (show ¬ (str p.bs).toList = sn.toList by rw [hsp]; exact hsq)
                              clear hpn hsq hsp
                              go_wp2_with fail
                              go_roundg (ws.length - (q2 + 1))
                              case measure => have := HK4.out; omega
                              case rel => exact ⟨q2 + 1, false, by go_num, by first | rfl | simp, rfl, by omega, HBN4.out, fun _ => fun p2 hp2 => by rw [HTK.out] at hp2; rcases List.mem_append.1 hp2 with h | h; exact HVF.out (by first | rfl | trivial) p2 h; rw [List.mem_singleton.1 h]; exact fun e => HSQ.out e.2⟩
                          · have k3 : ((p.n : Int) == (nn : Int)) = false := by
                              have : ¬ (p.n : Int) = (nn : Int) := by omega
                              simpa using this
                            have HPN := Lib.hid hpn
                            clear hpn
                            go_wp2_with fail
                            go_roundg (ws.length - (q2 + 1))
                            case measure => have := HK4.out; omega
                            case rel => exact ⟨q2 + 1, false, by go_num, by first | rfl | simp, rfl, by omega, HBN4.out, fun _ => fun p2 hp2 => by rw [HTK.out] at hp2; rcases List.mem_append.1 hp2 with h | h; exact HVF.out (by first | rfl | trivial) p2 h; rw [List.mem_singleton.1 h]; exact fun e => HPN.out e.1⟩
                      · obtain rfl : q2 = ws.length := by omega
                        have HBX := Lib.hid HB4.out
                        cases v with
                        | true =>
                          cases v2 with
                          | true =>
                            go_wp2_with fail
                            refine (HMX.out _ HBX.out).mono ?_
                            rintro e w9 ⟨rfl, hb9⟩
                            have HB9 := Lib.hid (HBX.out.trans (Below.mono hb9 HBX.out.size))
                            clear hb9
                            go_wp2_with fail
                            go_roundg (cnt + 1 - (nn + 1))
                            case measure => have := HK3.out; omega
                            case rel => exact ⟨nn + 1, by go_num, rfl, by omega, HB9.out⟩
                          | false =>
                            exfalso
                            have h1 := HVF.out (by first | rfl | trivial)
                            rw [List.take_length] at h1
                            rcases HWHO.out (HVW.out (by first | rfl | trivial)) with e | ⟨p, hp, e1, e2⟩
                            · exact HNE.out e
                            · obtain ⟨p0, hp0, rfl⟩ := List.mem_map.1 hp
                              exact h1 p0 hp0 ⟨e1, by rw [← HSN.out, ← e2]⟩
                        | false =>
                          cases v2 with
                          | true =>
                            go_wp2_with fail
                            refine (HMX.out _ HBX.out).mono ?_
                            rintro e w9 ⟨rfl, hb9⟩
                            have HB9 := Lib.hid (HBX.out.trans (Below.mono hb9 HBX.out.size))
                            clear hb9
                            go_wp2_with fail
                            go_roundg (cnt + 1 - (nn + 1))
                            case measure => have := HK3.out; omega
                            case rel => exact ⟨nn + 1, by go_num, rfl, by omega, HB9.out⟩
                          | false =>
                            go_wp2_with fail
                            refine (HMX.out _ HBX.out).mono ?_
                            rintro e w9 ⟨rfl, hb9⟩
                            have HB9 := Lib.hid (HBX.out.trans (Below.mono hb9 HBX.out.size))
                            clear hb9
                            go_wp2_with fail
                            go_roundg (cnt + 1 - (nn + 1))
                            case measure => have := HK3.out; omega
                            case rel => exact ⟨nn + 1, by go_num, rfl, by omega, HB9.out⟩
                · obtain rfl : nn = cnt := by omega
                  have HBF2 := Lib.hid (H8.out.2.2.2.trans (Below.mono HB3.out H8.out.2.2.2.size))
                  go_wp2_with fail
                  go_ret
                  exact ⟨by first | rfl | simp, HBF2.out⟩
  · have hnb : ¬ (1 ≤ n ∧ n ≤ 4096) := hn
    clear h1 h3
    go_enter Try.func4, Try.ntmps4
    go_wp2_with fail
    refine HA.out.mono ?_
    rintro e w1 ⟨rfl, hb1⟩
    have HB1 := Lib.hid hb1
    clear hb1
    go_wp2_with fail
    refine (new_bad n w1 hnb).mono ?_
    rintro e w' ⟨rfl, rfl⟩
    clear hn hnb
    go_wp2
    go_ret
    exact ⟨by first | rfl | simp, HB1.out⟩
end Go.Proofs.Ytajhpfmfoolcjaa
