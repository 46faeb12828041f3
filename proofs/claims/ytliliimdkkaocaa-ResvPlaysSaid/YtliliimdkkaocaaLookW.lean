import Derived.Test.YtliliimdkkaocaaStepT
/- looks: both stand the same: the walk. -/
namespace Go.Proofs.Ytliliimdkkaocaa
open Go.RowKit Go.BigFrame
set_option linter.unusedVariables false
set_option linter.unusedSimpArgs false
attribute [local go_sem] szIs_lit row_at row_past row_alloc nf_alloc row_set nf_set row_cell nf_cell row_drew nf_drew row_drewN nf_drewN cell_setRow frozen_setRow nlt1 nlt2 nlt3 nlt4 nne1 nne2 nne3 nen1 nen2 nen3
theorem rstalledO {w : World} {base g c : Nat} {A : Option Addr} {n live : Int} {L : List Seat} (h : GateA w base g A c n live L) : Calls Try.prog 35 #[.pointer (some ⟨g, 0, none⟩)] w fun e w' => e = .returned (.bool (stl L)) ∧ w = w' := by
  cases L with
  | nil => exact rstalled_no _ _ _ _ _ _ _ w h rfl
  | cons s r => exact rstalled_at _ _ _ _ _ _ _ w h s rfl
theorem stalledG {w : World} {base g c : Nat} {A : Option Addr} {n live : Int} {L : List Seat} (h : GateA w base g A c n live L) : Calls Try.prog 15 #[.pointer (some ⟨g, 0, none⟩)] w fun e w' => e = .returned (.bool (stl L)) ∧ w = w' := by
  cases L with
  | nil => exact stalled_no _ _ _ _ _ _ _ w h rfl
  | cons s r => exact stalled_at _ _ _ _ _ _ _ w h s rfl
/-- Only what is new. -/
def bwK (W : World) (_ : Nat → Bool) (w : World) : Prop := Below W.heap.size W w
theorem bwK_cell {W : World} (s : Sub (bwK W)) {b i : Nat} (hb : b < W.heap.size) : s.val.cell? ⟨b, i, none⟩ = W.cell? ⟨b, i, none⟩ := by
  obtain ⟨w, D, h⟩ := s
  exact Below.cell h hb
theorem bwK_same {W w w' : World} {D : Nat → Bool} {i : Nat} (h : bwK W D w) (e : w = w') : bwK W (upd D i) w' := e ▸ h
theorem bwK_more {W w w' : World} {D : Nat → Bool} {i : Nat} (h : bwK W D w) (e : Below w.heap.size w w') : bwK W (upd D i) w' := Below.trans h (e.mono (Below.size h))
set_option maxRecDepth 100000 in
set_option maxHeartbeats 8000000 in
theorem looks_ok (w0 wr : World) (g x c d : Nat) (A B : Option Addr) (n live : Int) (L : List Seat) (h : Duo w0 wr g x A B c d n live L live L) (nd : Nd L) (id : Int) : Calls Try.prog 22 #[.pointer (some ⟨g, 0, none⟩), .pointer (some ⟨x, 0, none⟩), .int .i64 id] wr fun e w' => e = .returned (.bool true) ∧ Duo w0 w' g x A B c d n live L live L := by
  have HS := Lib.hid (seats_ok _ _ _ _ _ _ _ wr h.ga h.wf.len)
  have H := Lib.hid h
  have hl64 := h.wf.len
  have HN := Lib.hid nd
  clear h nd
  go_enter Try.func22, Try.ntmps22
  go_wp2_with fail
  refine HS.out.mono ?_
  rintro e w1 ⟨A3, c3, rfl, hS3, hB3⟩
  have HD1 := Lib.hid (H.out.look hB3)
  have HB1 := Lib.hid hB3
  have HS1 := Lib.hid hS3
  obtain ⟨gr, gn, gc, gf⟩ := HD1.out.gx.blk.all
  have hxl := HD1.out.gx.blk.lt
  have ex0 := fun s : Sub (bwK w1) => (bwK_cell s (i := 0) hxl).trans ((gc 0).trans (show _ = some (.int .i64 n) from rfl))
  have ex1 := fun s : Sub (bwK w1) => (bwK_cell s (i := 1) hxl).trans ((gc 1).trans (show _ = some (.int .i64 live) from rfl))
  have ex2 := fun s : Sub (bwK w1) => (bwK_cell s (i := 2) hxl).trans ((gc 2).trans (show _ = some (.slice B L.length d) from rfl))
  clear hS3 hB3 gr gn gc gf
  go_wp2_with fail
  generalize hr : res L = r at *
  generalize hs : stl L = st at *
  have HRS := Lib.hid (And.intro hr hs)
  clear hr hs
  refine wp_segs [10, 20, 26, 28] (bwK w1) ?_ ?_ ?_ ?_ ?_ ?_ ?_ ?_ ?_
  · kernel_rfl
  · kernel_rfl
  · kernel_rfl
  · kernel_rfl
  · kernel_rfl
  · kernel_rfl
  · exact Below.drew (Below.refl _ _)
  · exact fun j hj D w hK => hK
  · intro inst
    simp only [Segs, List.take_succ_cons, List.take_zero, List.drop_succ_cons, List.drop_zero, Nat.sub_zero, Nat.reduceSub, Nat.reduceAdd, List.drop_nil, List.take_nil]
    repeat (go_big_quiet_step (fail))
    refine wpQuiet_nil ?_
    refine ⟨heapV n live r, stepOK_call 17 _ _ (by kernel_rfl) rfl (by kernel_rfl) #[.pointer (some ⟨g, 0, none⟩)] (by kernel_rfl) ?_, ?_⟩
    · intro D w hb hi hK
      refine (heap_ok _ _ _ _ _ _ _ w (HD1.out.ga.below hK) HD1.out.wf).mono fun e w' q => ⟨by rw [q.1, HRS.out.1], bwK_more hK q.2⟩
    simp only [Act.put, List.setIfInBounds_toArray, List.set_cons_succ, List.set_cons_zero]
    repeat (go_big_quiet_step (fail))
    refine wpQuiet_nil ?_
    refine ⟨.int .i64 r, stepOK_call 34 _ _ (by kernel_rfl) rfl (by kernel_rfl) #[.pointer (some ⟨x, 0, none⟩)] (by kernel_rfl) ?_, ?_⟩
    · intro D w hb hi hK
      refine (rres_ok _ _ _ _ _ _ _ w (HD1.out.gx.below hK) HD1.out.wf2).mono fun e w' q => ⟨by rw [q.1, HRS.out.1], bwK_same hK q.2⟩
    simp only [Act.put, List.setIfInBounds_toArray, List.set_cons_succ, List.set_cons_zero]
    unfold heapV
    repeat (go_big_quiet_step (fail))
    refine wpQuiet_nil ?_
    refine ⟨.bool st, stepOK_call 15 _ _ (by kernel_rfl) rfl (by kernel_rfl) #[.pointer (some ⟨g, 0, none⟩)] (by kernel_rfl) ?_, ?_⟩
    · intro D w hb hi hK
      refine (stalledG (HD1.out.ga.below hK)).mono fun e w' q => ⟨by rw [q.1, HRS.out.2], bwK_same hK q.2⟩
    simp only [Act.put, List.setIfInBounds_toArray, List.set_cons_succ, List.set_cons_zero]
    repeat (go_big_quiet_step (fail))
    refine wpQuiet_nil ?_
    refine ⟨.bool st, stepOK_call 35 _ _ (by kernel_rfl) rfl (by kernel_rfl) #[.pointer (some ⟨x, 0, none⟩)] (by kernel_rfl) ?_, ?_⟩
    · intro D w hb hi hK
      refine (rstalledO (HD1.out.gx.below hK)).mono fun e w' q => ⟨by rw [q.1, HRS.out.2], bwK_same hK q.2⟩
    simp only [Act.put, List.setIfInBounds_toArray, List.set_cons_succ, List.set_cons_zero]
    repeat (go_big_quiet_step (fail))
    refine wpQuiet_nil ?_
    intro w2 hK
    have HB2 := Lib.hid (show Below w1.heap.size w1 w2 from hK)
    clear hK ex0 ex1 ex2
    go_wp2_with fail
    go_loopg [8, 9] L.length (fun k ins_ i_ wr => ∃ (j : Nat), ins_ = .bool (ins (L.take j) id) ∧ i_ = .int .i64 (j : Int) ∧ k = L.length - j ∧ j ≤ L.length ∧ Below w1.heap.size w1 wr)
    case atStart => exact ⟨0, by simp [ins], rfl, by omega, by omega, HB2.out⟩
    case round =>
      obtain ⟨j, rfl, rfl, hk, hj, hB⟩ := hrel
      have HK := Lib.hid hk
      have HB := Lib.hid hB
      clear hk hB
      by_cases hlt : j < L.length
      · obtain ⟨s, hs⟩ : ∃ s, L[j]? = some s := ⟨L[j], by simp [hlt]⟩
        have HT := Lib.hid (ins_take L j s id hs)
        obtain ⟨b, hA3, _, hbl, _, e0, e1, e2, e3⟩ := (HS1.out.heap (w' := wr) fun k hk => HB.out.block k (HS1.out.lt k hk).2).at_ hs
        obtain ⟨b2, hB2, _, hbl2, _, f0, f1, f2, f3⟩ := (HD1.out.gx.below HB.out).seats.at_ hs
        subst hA3 hB2
        obtain ⟨gr, gn, gc, gf⟩ := (HD1.out.gx.below HB.out).blk.all
        have cq := (gc 2).trans (show _ = some (.slice (some ⟨b2, 0, none⟩) L.length d) from rfl)
        clear gr gn gc gf hbl hbl2 hs
        obtain ⟨si, sb, stk, sw⟩ := s
        simp only at e0 e1 e2 e3 f0 f1 f2 f3
        by_cases hid : si = id
        · subst hid
          cases hins : ins (L.take j) si <;> cases sw
          all_goals
            rw [hins] at HT
            have HI := Lib.hid hins
            clear hins
            go_wp2_with fail
            go_quiet (fail)
            go_wp2_with fail
            go_roundg (L.length - (j + 1))
            case measure => have := HK.out; omega
            case rel => exact ⟨j + 1, by rw [HT.out]; first | rfl | simp, by go_num, rfl, by omega, below_drewN HB.out _⟩
        · have hid' : (si == id) = false := by simpa using hid
          have HIT := Lib.hid (show ins (L.take (j + 1)) id = ins (L.take j) id by rw [HT.out]; simp [hid])
          cases hins : ins (L.take j) id
          all_goals
            rw [hins] at HIT
            have HI := Lib.hid hins
            clear hins
            go_wp2_with fail
            go_quiet (fail)
            go_wp2_with fail
            go_roundg (L.length - (j + 1))
            case measure => have := HK.out; omega
            case rel => exact ⟨j + 1, by rw [HIT.out], by go_num, rfl, by omega, below_drewN HB.out _⟩
      · obtain rfl : j = L.length := by omega
        have HI := Lib.hid (inside_ok _ _ _ _ _ _ _ _ (HD1.out.ga.below HB.out) id hl64 HN.out)
        rw [List.take_length]
        generalize hin : ins L id = ii at *
        have HII := Lib.hid hin
        clear hin hlt
        go_wp2_with fail
        refine HI.out.mono ?_
        rintro e w3 ⟨rfl, hB⟩
        have HB3 := Lib.hid hB
        clear hB
        go_wp2_with fail
        go_ret
        exact ⟨by first | rfl | simp, HD1.out.look (HB.out.trans (HB3.out.mono HB.out.size))⟩
end Go.Proofs.Ytliliimdkkaocaa
