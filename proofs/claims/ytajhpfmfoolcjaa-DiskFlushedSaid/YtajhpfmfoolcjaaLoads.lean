import Derived.Test.YtajhpfmfoolcjaaNobody
/- Any bytes are a platter, or none. -/
namespace Go.Proofs.Ytajhpfmfoolcjaa
open Go.RowKit Go.BigFrame
set_option linter.unusedVariables false
set_option linter.unusedSimpArgs false
attribute [local go_sem] szIs_lit row_at row_past row_alloc nf_alloc row_set nf_set row_cell nf_cell row_drew nf_drew row_drewN nf_drewN cell_setRow frozen_setRow nlt1 nlt2 nlt3 nlt4 nne1 nne2 nne3 nen1 nen2 nen3
theorem bs_of {w : World} {A : Option Addr} {n c : Nat} {Y : Nat → Int} (h : Nums .u8 w w.heap.size A n c Y) (hn : n * 1 ≤ reachBytes) (hA : A = none → c = 0) : Bs w A n c ((List.range n).map Y) := by
  refine ⟨by simp, by unfold reachBytes at hn; omega, hA, fun hne => ?_, bv_one _⟩
  have h0 : 0 < n := by
    rcases Nat.eq_zero_or_pos n with e | e
    · subst e; simp [bv] at hne
    · exact e
  obtain ⟨ad, e, _, hc⟩ := h.2.2.2 h0
  refine ⟨ad, e, fun j u hu => ?_⟩
  have hj := (List.getElem?_eq_some_iff.1 hu).1
  simp [bv] at hj
  rw [hc j hj]
  simp [bv, hj] at hu
  rw [hu]
theorem conv9b (w : World) (A : Option Addr) (n c : Nat) (l : List Int) (h : Bs w A n c l) : (convert 33 9 (.slice A n c)).run Try.prog w = .ok (.string (str l)) w := by
  obtain ⟨h1, h2, h3, h4⟩ := h
  rw [run_convert_bytes_string w 33 9 5 A n c byT.ht (by kernel_rfl) (by kernel_rfl)]
  cases A with
  | none =>
    obtain rfl := h3 rfl
    obtain rfl : l = [] := by
      cases l with
      | nil => rfl
      | cons x l => obtain ⟨ad, e, _⟩ := h4.1 (by simp [bv]); cases e
    obtain rfl : n = 0 := by simpa using h1.symm
    simp [Conv.bytesToString, str]
  | some ad =>
    rcases Nat.eq_zero_or_pos n with e0 | e0
    · subst e0
      obtain rfl : l = [] := by cases l; rfl; simp at h1
      exact run_bytesToString (P := Try.prog) w ad 0 c [] (by simp [loadCells, loadCellsFrom])
    · obtain ⟨ad', e, hc⟩ := h4.1 (fun e => by rw [← h1] at e0; have := congrArg List.length e; rw [bv_len] at this; simp only [List.length_nil] at this; omega)
      injection e with e; subst e
      have := run_loadCells_list (P := Try.prog) w ad (bv l) hc
      rw [bv_len, h1] at this
      exact run_bytesToString (P := Try.prog) w ad n c l this
/-- The reference's disk, just loaded. -/
def rcells (x n c m : Nat) : Array Value := #[.int .i64 (m : Int), .slice (some ⟨x, 0, none⟩) n c, .slice none 0 0, .int .i64 0, .bool false, .int .i64 0, .int .i64 0, .int .i64 0]
theorem rload_bad (w : World) (A : Option Addr) (n c : Nat) (hn : ¬ (n % 512 = 0 ∧ 1 ≤ n / 512 ∧ n / 512 ≤ 4096)) (hm : n ≤ 2 ^ 47) : Calls Try.prog 22 #[.slice A n c] w fun e w' => e = .returned (.tuple #[.pointer none, .int .i64 1]) ∧ w = w' := by
  by_cases h1 : n % 512 = 0
  · have k1 : ((n : Int) % 512 != 0) = false := by
      have : (n : Int) % 512 = 0 := by omega
      simp [this]
    by_cases h2 : 1 ≤ n / 512
    · have k2 : (n : Int) / 512 > 4096 := by omega
      have k3 : ¬ (n : Int) / 512 < 1 := by omega
      clear hn h1 h2
      go_enter Try.func22, Try.ntmps22
      go_wp2
      go_ret2
      exact ⟨by first | rfl | simp, rfl⟩
    · have k3 : (n : Int) / 512 < 1 := by omega
      clear hn h1 h2
      go_enter Try.func22, Try.ntmps22
      go_wp2
      go_ret2
      exact ⟨by first | rfl | simp, rfl⟩
  · have k1 : ((n : Int) % 512 != 0) = true := by
      have : ¬ (n : Int) % 512 = 0 := by omega
      simpa using this
    clear hn h1
    go_enter Try.func22, Try.ntmps22
    go_wp2
    go_ret2
    exact ⟨by first | rfl | simp, rfl⟩
/-- append([]byte{}, image...) -/
theorem own_ok (w : World) (A : Option Addr) (n c : Nat) (l : List Int) (h : Bs w A n c l) : ∃ A2 c2 w2, (Builtin.append_ #[33, 33] 33 #[.slice (some ⟨w.heap.size, 0, none⟩) 0 0, .slice A n c]).run Try.prog (w.alloc (.cells #[] 5)) = .ok (.slice A2 n c2) w2 ∧ Rw w2 5 1 A2 n c2 (bv l) ∧ Below w.heap.size w w2 ∧ (∀ k, blkOf A2 = some k → w.heap.size ≤ k) := by
  have hB1 : Below w.heap.size w (w.alloc (.cells #[] 5)) := (Below.refl _ _).alloc (Nat.le_refl _) _
  have hb := h.below hB1
  obtain ⟨A2, c2, w2, e1, e2, e3, e4⟩ := rw_append (P := Try.prog) byT 33 (Rw.fresh w 5 #[] 0 0 (Nat.le_refl _) (by unfold maxLen; omega) rfl) A n c (bv l) (by rw [bv_len, h.1]; omega) hb.2.2.2 h.2.2.1 (by have := h.2.1; unfold maxLen; omega) (by have := h.2.1; omega)
  simp only [Nat.zero_add] at e1 e2
  refine ⟨A2, c2, w2, e1, by simpa using e2, hB1.trans (e3.below (B := w.heap.size) (fun k hk q => ?_) hB1.size), fun k q => ?_⟩
  · simp [blkOf] at q; omega
  · rcases e4 with e | e
    · rw [e] at q; simp [blkOf] at q; omega
    · rw [e] at q; injection q with q; have := hB1.size; omega
theorem rload_ok (w : World) (A : Option Addr) (n c m : Nat) (l : List Int) (h : Bs w A n c l) (hn : n = m * 512) (h1 : 1 ≤ m) (h2 : m ≤ 4096) : Calls Try.prog 22 #[.slice A n c] w fun e w' => ∃ g x c', e = .returned (.tuple #[.pointer (some ⟨g, 0, none⟩), .int .i64 0]) ∧ Blk w' g (rcells x n c' m) ∧ Rw w' 5 1 (some ⟨x, 0, none⟩) n c' (bv l) ∧ Below w.heap.size w w' ∧ w.heap.size ≤ g ∧ w.heap.size ≤ x := by
  subst hn
  obtain ⟨A2, c2, w2, f1, f2, f3, f4⟩ := own_ok w A _ c l h
  have hl := h.1
  obtain ⟨x, rfl⟩ := f2.some_ (by omega)
  have hx := f4 x rfl
  have hxl := f2.blt
  have k2 : (m : Int) ≤ 4096 := by omega
  have hbs := bs33e w
  have HE := Lib.hid f1
  have HF := Lib.hid (And.intro f2 f3)
  clear h f1 f2 f3 f4
  go_enter Try.func22, Try.ntmps22
  go_wp2_with (at_builtin; (refine wpList_run rfl (s := Builtin.append_ #[33, 33] 33 #[.slice (some ⟨w.heap.size, 0, none⟩) 0 0, .slice A (m * 512) c]) (by kernel_rfl) HE.out ?_))
  go_ret2
  have hB2 : Below w2.heap.size w2 (w2.alloc (.cells (rcells x (m * 512) c2 m) 73)) := (Below.refl _ _).alloc (Nat.le_refl _) _
  refine ⟨w2.heap.size, x, c2, by first | rfl | simp, ?_, ?_, ?_, ?_, hx⟩
  · exact Blk.of_heap (heap_at (by simp [rcells]))
  · exact HF.out.1.below hB2
  · exact HF.out.2.trans (Below.mono hB2 HF.out.2.size)
  · exact HF.out.2.size
theorem rpend_ok (w : World) (g x n c m : Nat) (h : Blk w g (rcells x n c m)) : Calls Try.prog 32 #[.pointer (some ⟨g, 0, none⟩)] w fun e w' => e = .returned (.slice none 0 0) ∧ w = w' := by
  have c2 : w.cell? ⟨g, 2, none⟩ = some (.slice none 0 0) := (h.all.2.2.1 2).trans rfl
  clear h
  go_enter Try.func32, Try.ntmps32
  go_wp2_with fail
  go_loopg [3, 11] 1 (fun k o_ i_ wr => i_ = .int .i64 0 ∧ o_ = .slice none 0 0 ∧ wr = w)
  case atStart => exact ⟨rfl, rfl, rfl⟩
  case round =>
    obtain ⟨rfl, rfl, hw⟩ := hrel
    obtain rfl : w = wr := hw.symm
    go_wp2_with fail
    go_ret
    exact ⟨by first | rfl | simp, rfl⟩
theorem roff_ok (w : World) (g x n c m : Nat) (h : Blk w g (rcells x n c m)) : Calls Try.prog 33 #[.pointer (some ⟨g, 0, none⟩)] w fun e w' => e = .returned (.bool false) ∧ w = w' := by
  have c4 : w.cell? ⟨g, 4, none⟩ = some (.bool false) := (h.all.2.2.1 4).trans rfl
  clear h
  go_enter Try.func33, Try.ntmps33
  go_wp2
  go_ret
  exact ⟨by first | rfl | simp, rfl⟩
/-- What the look reads. -/
structure LK (u : World) (a : DA) (m : Nat) (l : List Int) (g x c : Nat) (A : Option Addr) (ca : Nat) : Prop where
  dr : DR u a (S0 m l)
  ref : Blk u g (rcells x (m * 512) c m)
  rw_ : Rw u 5 1 (some ⟨x, 0, none⟩) (m * 512) c (bv l)
  im : Rw u 5 1 A (m * 512) ca (bv l)
theorem Blk.below' {w w' : World} {g : Nat} {c : Array Value} (h : Blk w g c) (hb : Below w.heap.size w w') : Blk w' g c := h.same (hb.block g h.lt)
theorem LK.below {u u' : World} {a : DA} {m : Nat} {l : List Int} {g x c : Nat} {A : Option Addr} {ca : Nat} (h : LK u a m l g x c A ca) (hb : Below u.heap.size u u') : LK u' a m l g x c A ca := ⟨h.dr.below hb, h.ref.below' hb, h.rw_.below hb, h.im.below hb⟩
set_option maxRecDepth 100000 in
set_option maxHeartbeats 8000000 in
theorem looks_ok (w : World) (a : DA) (m : Nat) (l : List Int) (g x c : Nat) (hD : DR w a (S0 m l)) (h0 : a.rd = 0 ∧ a.wr = 0 ∧ a.fl = 0) (hB : Blk w g (rcells x (m * 512) c m)) (hR : Rw w 5 1 (some ⟨x, 0, none⟩) (m * 512) c (bv l)) : Calls Try.prog 23 #[.pointer (some ⟨a.g, 0, none⟩), .pointer (some ⟨g, 0, none⟩)] w fun e w' => e = .returned (.bool true) ∧ Below w.heap.size w w' := by
  have HC := counts_ok hD
  rw [h0.1, h0.2.1, h0.2.2] at HC
  have HC := Lib.hid HC
  have HH := Lib.hid (And.intro hD (And.intro hB hR))
  clear hD hB hR h0
  go_enter Try.func23, Try.ntmps23
  go_wp2_with fail
  refine HC.out.mono ?_
  rintro e w1 ⟨rfl, nq, rfl⟩
  have hbn : Below w.heap.size w (w.drewN nq) := below_drewN (Below.refl _ _) nq
  have hDn := HH.out.1.drewN nq
  have HI := Lib.hid (image_ok hDn)
  have HBN := Lib.hid hbn
  clear hbn hDn
  go_wp2_with fail
  refine HI.out.mono ?_
  rintro e w2 ⟨A, ca, rfl, h1, h2, h3⟩
  have hcnt : (S0 m l).cnt = m := rfl
  rw [hcnt] at h1
  have hb2 : Below w.heap.size w w2 := HBN.out.trans (Below.mono h2 HBN.out.size)
  have hb2' : Below w.heap.size w w2.drew := hb2.drew
  have hLK : LK w2.drew a m l g x c A ca := ⟨(HH.out.1.below hb2'), HH.out.2.1.below' hb2', HH.out.2.2.below hb2', h1.drew⟩
  have hpl : (S0 m l).plat = l := rfl
  have HLK := Lib.hid (And.intro hLK (And.intro hb2' h3))
  have hmz := hLK.dr.c1
  clear h1 h2 h3 hb2 hb2' hLK HH HI HC HBN
  go_wp2_with fail
  obtain ⟨CC, hCC⟩ : ∃ CC : World → Prop, CC = fun u => LK u a m l g x c A ca ∧ Below w2.drew.heap.size w2.drew u := ⟨_, rfl⟩
  have hcc : ∀ u, CC u → LK u a m l g x c A ca ∧ Below w2.drew.heap.size w2.drew u := fun u h => by rw [hCC] at h; exact h
  have hcb : ∀ u u', CC u → Below u.heap.size u u' → CC u' := fun u u' h hb => by rw [hCC] at h ⊢; exact ⟨h.1.below hb, h.2.trans (Below.mono hb h.2.size)⟩
  have k0 : CC w2.drew := by rw [hCC]; exact ⟨HLK.out.1, Below.refl _ _⟩
  refine wp_theta [10, 12, 13, 17, 19, 24] [10, 12, 13, 17, 19, 24] (fun i v => (i = 10 → ∃ A c, v = .slice A 0 c) ∧ (i = 12 → v = .slice none 0 0) ∧ (i = 13 → v = .bool true) ∧ (i = 17 → v = .bool false) ∧ (i = 19 → v = .bool false) ∧ (i = 24 → v = .int .i64 (m : Int))) (fun ρ D u => CC u ∧ (D 10 = true → ∃ A c, ρ 10 = .slice A 0 c ∧ Rw u 3 1 A 0 c (iv []))) (CC) ?_ ?_ ?_ ?_ ?_ ?_ ?_ ?_ ?_ ?_
  · kernel_rfl
  · kernel_rfl
  · kernel_rfl
  · kernel_rfl
  · kernel_rfl
  · kernel_rfl
  · intro i hi; simp at hi; rcases hi with rfl | rfl | rfl | rfl | rfl | rfl; exact ⟨.slice none 0 0, by simp⟩; exact ⟨.slice none 0 0, by simp⟩; exact ⟨.bool true, by simp⟩; exact ⟨.bool false, by simp⟩; exact ⟨.bool false, by simp⟩; exact ⟨.int .i64 (m : Int), by simp⟩
  · exact ⟨k0, by simp⟩
  · exact fun ρ D u h => h.1
  · intro θ hθ
    simp only [SegsT, List.take_succ_cons, List.take_zero, List.drop_succ_cons, List.drop_zero, Nat.sub_zero, Nat.reduceSub, Nat.reduceAdd, List.drop_nil, List.take_nil]
    haveI i1 : Nonempty (Wd CC) := ⟨⟨_, k0⟩⟩
    have b0 : ∀ s : Wd CC, (convert 33 9 (.slice A (m * 512) ca)).run Try.prog s.val = .ok (.string (str l)) s.val := fun s => conv9 _ _ _ _ _ (hcc _ s.prop).1.im
    have b1 : ∀ s : Wd CC, (convert 33 9 (.slice (some ⟨x, 0, none⟩) (m * 512) c)).run Try.prog s.val = .ok (.string (str l)) s.val := fun s => conv9 _ _ _ _ _ (hcc _ s.prop).1.rw_
    have l0 : ∀ s : Wd CC, s.val.cell? ⟨g, 0, none⟩ = some (.int .i64 (m : Int)) := fun s => ((hcc _ s.prop).1.ref.all.2.2.1 0).trans rfl
    have l1 : ∀ s : Wd CC, s.val.cell? ⟨g, 1, none⟩ = some (.slice (some ⟨x, 0, none⟩) (m * 512) c) := fun s => ((hcc _ s.prop).1.ref.all.2.2.1 1).trans rfl
    have l5 : ∀ s : Wd CC, s.val.cell? ⟨g, 5, none⟩ = some (.int .i64 0) := fun s => ((hcc _ s.prop).1.ref.all.2.2.1 5).trans rfl
    have l6 : ∀ s : Wd CC, s.val.cell? ⟨g, 6, none⟩ = some (.int .i64 0) := fun s => ((hcc _ s.prop).1.ref.all.2.2.1 6).trans rfl
    have l7 : ∀ s : Wd CC, s.val.cell? ⟨g, 7, none⟩ = some (.int .i64 0) := fun s => ((hcc _ s.prop).1.ref.all.2.2.1 7).trans rfl
    obtain ⟨A1, c1, t10⟩ := (hθ 10 (by decide)).1 rfl
    have t12 := (hθ 12 (by decide)).2.1 rfl
    have t13 := (hθ 13 (by decide)).2.2.1 rfl
    have t17 := (hθ 17 (by decide)).2.2.2.1 rfl
    have t19 := (hθ 19 (by decide)).2.2.2.2.1 rfl
    have t24 := (hθ 24 (by decide)).2.2.2.2.2 rfl
    have HCB := Lib.hid hcb
    have HCC := Lib.hid hcc
    clear k0 hCC hcc hcb
    repeat (go_big_quiet_step (fail))
    refine wpQuiet_nil ?_
    rw [if_pos (by decide)]
    refine ⟨thOK_call [] [13] 15 _ _ (by kernel_rfl) rfl (by kernel_rfl) #[.pointer (some ⟨a.g, 0, none⟩)] (by kernel_rfl) (by kernel_rfl) (fun ρ D u hq hK => ?_), ?_⟩
    · refine (pending_ok (HCC.out _ hK.1).1.dr (by simp [S0])).mono ?_
      rintro e u' ⟨A2, c2, rfl, r1, r2, r3⟩
      have e0 : (S0 m l).pend.length = 0 := rfl
      rw [e0] at r1 ⊢
      exact ⟨_, rfl, ⟨fun _ => ⟨A2, c2, rfl⟩, by simp, by simp, by simp, by simp, by simp⟩, HCB.out _ _ hK.1 r2, fun _ => ⟨A2, c2, by simp [setV], r1⟩⟩
    rw [t10]
    go_frame
    repeat (go_big_quiet_step (fail))
    refine wpQuiet_nil ?_
    rw [if_pos (by decide)]
    refine ⟨thOK_call [] [13] 32 _ _ (by kernel_rfl) rfl (by kernel_rfl) #[.pointer (some ⟨g, 0, none⟩)] (by kernel_rfl) (by kernel_rfl) (fun ρ D u hq hK => ?_), ?_⟩
    · refine (rpend_ok u g x _ _ m (HCC.out _ hK.1).1.ref).mono ?_
      rintro e u' ⟨rfl, rfl⟩
      exact ⟨_, rfl, by simp, hK.1, fun h => by simpa [setV] using hK.2 (by simpa [upd] using h)⟩
    rw [t12]
    go_frame
    repeat (go_big_quiet_step (fail))
    refine wpQuiet_nil ?_
    rw [if_pos (by decide)]
    refine ⟨thOK_call [10, 12] [] 20 _ _ (by kernel_rfl) rfl (by kernel_rfl) #[.slice A1 0 c1, .slice none 0 0] (by kernel_rfl) (by kernel_rfl) (fun ρ D u hq hK => ?_), ?_⟩
    · obtain ⟨A2, c2, g1, g2⟩ := hK.2 (hq.did 10 (by simp))
      have g3 := hq.gave 10 (by simp) (by decide)
      rw [g1, t10] at g3
      injection g3 with e1 e2 e3
      subst e1 e3
      refine (same_yes u _ none 0 _ 0 [] g2 (Rw.nil _ _ _) (by omega)).mono ?_
      rintro e u' ⟨rfl, n2, rfl⟩
      exact ⟨_, rfl, by simp, HCB.out _ _ hK.1 (below_drewN (Below.refl _ _) n2), fun _ => ⟨A2, c2, by simpa [setV] using g1, g2.drewN n2⟩⟩
    rw [t13]
    go_frame
    repeat (go_big_quiet_step (fail))
    refine wpQuiet_nil ?_
    rw [if_pos (by decide)]
    refine ⟨thOK_call [] [] 19 _ _ (by kernel_rfl) rfl (by kernel_rfl) #[.pointer (some ⟨a.g, 0, none⟩)] (by kernel_rfl) (by kernel_rfl) (fun ρ D u hq hK => ?_), ?_⟩
    · refine (off_ok (HCC.out _ hK.1).1.dr).mono ?_
      rintro e u' ⟨rfl, rfl⟩
      exact ⟨_, rfl, by simp [DS.off, S0], hK.1, fun h => by simpa [setV] using hK.2 (by simpa [upd] using h)⟩
    rw [t17]
    go_frame
    repeat (go_big_quiet_step (fail))
    refine wpQuiet_nil ?_
    rw [if_pos (by decide)]
    refine ⟨thOK_call [] [] 33 _ _ (by kernel_rfl) rfl (by kernel_rfl) #[.pointer (some ⟨g, 0, none⟩)] (by kernel_rfl) (by kernel_rfl) (fun ρ D u hq hK => ?_), ?_⟩
    · refine (roff_ok u g x _ _ m (HCC.out _ hK.1).1.ref).mono ?_
      rintro e u' ⟨rfl, rfl⟩
      exact ⟨_, rfl, by simp, hK.1, fun h => by simpa [setV] using hK.2 (by simpa [upd] using h)⟩
    rw [t19]
    go_frame
    repeat (go_big_quiet_step (fail))
    refine wpQuiet_nil ?_
    rw [if_pos (by decide)]
    refine ⟨thOK_call [] [] 25 _ _ (by kernel_rfl) rfl (by kernel_rfl) #[.pointer (some ⟨a.g, 0, none⟩)] (by kernel_rfl) (by kernel_rfl) (fun ρ D u hq hK => ?_), ?_⟩
    · refine (count_ok (HCC.out _ hK.1).1.dr).mono ?_
      rintro e u' ⟨rfl, rfl⟩
      exact ⟨_, rfl, by simp [S0], hK.1, fun h => by simpa [setV] using hK.2 (by simpa [upd] using h)⟩
    rw [t24]
    go_frame
    repeat (go_big_quiet_step (fail))
    refine wpQuiet_nil ?_
    intro u hK
    have hu := (HCC.out _ hK.1)
    have HU := Lib.hid hu
    clear hu hK t10 t12 t13 t17 t19 t24 b0 b1 l0 l1 l5 l6 l7 i1 hθ HCC HCB

    have hbw : Below w.heap.size w u := HLK.out.2.1.trans (Below.mono HU.out.2 HLK.out.2.1.size)
    have him := HU.out.1.im
    have hfr := HLK.out.2.2
    have HBW := Lib.hid (And.intro hbw (And.intro him hfr))
    have hmz2 : m ≤ 4096 := by have := hmz.2; simpa [S0] using this
    generalize hn : m * 512 = n at *
    have hn2 : n ≤ 2097152 := by omega
    clear hbw him hfr HU HLK hmz
    go_wp2_with fail
    go_loopg [76] n (fun k i_ wr => ∃ (j : Nat) (vs : List Int), i_ = .int .i64 (j : Int) ∧ k = n - j ∧ j ≤ n ∧ Rw wr 5 1 A n ca (bv vs) ∧ Below w.heap.size w wr)
    case atStart => exact ⟨0, l, rfl, rfl, by omega, HBW.out.2.1, HBW.out.1⟩
    case round =>
      obtain ⟨j, vs, rfl, hk, hj, hr, hb⟩ := hrel
      have HK := Lib.hid hk
      have HR := Lib.hid hr
      have HB := Lib.hid hb
      clear hk hr hb
      by_cases hlt : j < n
      · obtain ⟨b, rfl⟩ := HR.out.some_ (by omega)
        have hvl : vs.length = n := by have := HR.out.len; rwa [bv_len, Nat.mul_one] at this
        obtain ⟨y, hy⟩ : ∃ y, vs[j]? = some y := ⟨_, List.getElem?_eq_getElem (by omega)⟩
        have d0 := (HR.out.cell j (by omega)).trans (bv_get hy)
        have dz := HR.out.frozen j
        have hbf := HBW.out.2.2 b rfl
        have HNX := Lib.hid (show Rw (wr.setCell ⟨b, j, none⟩ (.int .u8 ((y + 1) % 256))) 5 1 (some ⟨b, 0, none⟩) n ca (bv (vs.set j ((y + 1) % 256))) ∧ Below w.heap.size w (wr.setCell ⟨b, j, none⟩ (.int .u8 ((y + 1) % 256))) by
          refine ⟨?_, HB.out.setCell (by simpa using hbf) _⟩
          have := HR.out.put j (.int .u8 ((y + 1) % 256))
          rwa [show (bv vs).set j (.int .u8 ((y + 1) % 256)) = bv (vs.set j ((y + 1) % 256)) by simp [bv, List.map_set]] at this)
        clear hy hvl hbf
        go_wp2_with fail
        go_roundg (n - (j + 1))
        case measure => have := HK.out; omega
        case rel => exact ⟨j + 1, _, by go_num, rfl, by omega, HNX.out⟩
      · obtain rfl : j = n := by omega
        go_wp2_with fail
        go_ret
        exact ⟨by first | rfl | simp, HB.out⟩
theorem bump_row {w : World} {b n c : Nat} {vs : List Int} (h : Rw w 5 1 (some ⟨b, 0, none⟩) n c (bv vs)) (j : Nat) (x : Int) : Rw (w.setCell ⟨b, j, none⟩ (.int .u8 x)) 5 1 (some ⟨b, 0, none⟩) n c (bv (vs.set j x)) := by
  have := h.put j (.int .u8 x)
  rwa [show (bv vs).set j (.int .u8 x) = bv (vs.set j x) by simp [bv, List.map_set]] at this
set_option maxRecDepth 100000 in
set_option maxHeartbeats 8000000 in
theorem loads_walk (A : Option Addr) (n c : Nat) (Y : Nat → Int) (w : World) (hY : Nums .u8 w w.heap.size A n c Y) (hz : n * 1 ≤ reachBytes) (hA : A = none → c = 0) : Calls Try.prog 6 #[.slice A n c] w fun e w' => e = .returned (.bool true) ∧ Below w.heap.size w w' := by
  have hbs := bs_of hY hz hA
  obtain ⟨l, hl⟩ : ∃ l, l = (List.range n).map Y := ⟨_, rfl⟩
  rw [← hl] at hbs
  have HA := Lib.hid (awake_ok w)
  have HBS := Lib.hid hbs
  have hn47 : n ≤ 140737488351232 := hbs.2.1
  clear hY hz hA hl hbs
  go_enter Try.func6, Try.ntmps6
  go_wp2_with fail
  refine HA.out.mono ?_
  rintro e w1 ⟨rfl, hb1⟩
  have hbs1 := HBS.out.below hb1
  obtain ⟨A2, c2, w2, e1, e2, e3, e4⟩ := own_ok w1 A n c l hbs1
  have hbs2 := hbs1.below e3
  have hb2 : Below w.heap.size w w2 := hb1.trans (Below.mono e3 hb1.size)
  have HE1 := Lib.hid e1
  have hb33 := bs33e w1
  have HS2 := Lib.hid (And.intro e2 (And.intro hbs2 (And.intro hb2 (fun k (q : blkOf A2 = some k) => Nat.le_trans hb1.size (e4 k q)))))
  clear hbs1 e1 e2 e3 e4 hbs2 hb2 hb1
  go_wp2_with (at_builtin; (refine wpList_run rfl (s := Builtin.append_ #[33, 33] 33 #[.slice (some ⟨w1.heap.size, 0, none⟩) 0 0, .slice A n c]) (by kernel_rfl) HE1.out ?_))
  by_cases hok : n % 512 = 0 ∧ 1 ≤ n / 512 ∧ n / 512 ≤ 4096
  · obtain ⟨m, hm⟩ : ∃ m, m = n / 512 := ⟨_, rfl⟩
    obtain rfl : n = m * 512 := by omega
    have hown : Bs w2 A2 (m * 512) c2 l := HS2.out.1.bs (by omega)
    have HLD := Lib.hid (load_ok w2 A2 _ c2 m l hown rfl (by omega) (by omega))
    have h1m : 1 ≤ m := by omega
    have h2m : m ≤ 4096 := by omega
    clear hok hm hown
    refine HLD.out.mono ?_
    rintro e w3 ⟨a, rfl, g1, g2, g3, g4⟩
    have HRL := Lib.hid (rload_ok w3 A _ c m l (HS2.out.2.1.below g2) rfl h1m h2m)
    have HG := Lib.hid (And.intro g1 (And.intro g2 (And.intro g3 g4)))
    clear g1 g2 g3 g4
    go_wp2_with fail
    refine HRL.out.mono ?_
    rintro e w4 ⟨g, x, c', rfl, q1, q2, q3, q4, q5⟩
    have hb24 : Below w2.heap.size w2 w4 := HG.out.2.1.trans (Below.mono q3 HG.out.2.1.size)
    have hcv1 := conv9 w4 A2 _ c2 l (HS2.out.1.below hb24)
    have hcv2 := conv9b w4 A _ c l (HS2.out.2.1.below hb24)
    have HD4 := Lib.hid (HG.out.1.below q3)
    have HO4 := Lib.hid (HS2.out.1.below hb24)
    have HB4 := Lib.hid (HS2.out.2.2.1.trans (Below.mono hb24 HS2.out.2.2.1.size))
    have HQ := Lib.hid (And.intro q1 (And.intro q2 (And.intro q3 (And.intro q4 q5))))
    have hw23 := HG.out.2.1.size
    clear q1 q2 q3 q4 q5 hb24
    go_wp2_with fail
    obtain ⟨b0, rfl⟩ := HO4.out.some_ (by omega)
    have hb0 := HS2.out.1.blt
    go_wp2_with fail
    go_loopg [45] (m * 512) (fun k i_ wr => ∃ (j : Nat) (vs : List Int), i_ = .int .i64 (j : Int) ∧ k = m * 512 - j ∧ j ≤ m * 512 ∧ Rw wr 5 1 (some ⟨b0, 0, none⟩) (m * 512) c2 (bv vs) ∧ Below w.heap.size w wr ∧ DR wr a (S0 m l) ∧ Blk wr g (rcells x (m * 512) c' m) ∧ Rw wr 5 1 (some ⟨x, 0, none⟩) (m * 512) c' (bv l))
    case atStart => exact ⟨0, l, rfl, rfl, by omega, HO4.out, HB4.out, HD4.out, HQ.out.1, HQ.out.2.1⟩
    case round =>
      obtain ⟨j, vs, rfl, hk, hj, hr, hb, hD, hG, hX⟩ := hrel
      have HK := Lib.hid hk
      have HR := Lib.hid (And.intro hr (And.intro hb (And.intro hD (And.intro hG hX))))
      clear hk hr hb hD hG hX
      by_cases hlt : j < m * 512
      · have hvl : vs.length = m * 512 := by have := HR.out.1.len; rwa [bv_len, Nat.mul_one] at this
        obtain ⟨y, hy⟩ : ∃ y, vs[j]? = some y := ⟨_, List.getElem?_eq_getElem (by omega)⟩
        have d0 := (HR.out.1.cell j (by omega)).trans (bv_get hy)
        have dz := HR.out.1.frozen j
        have hbf := HS2.out.2.2.2 b0 rfl
        have hch : Ch (· = b0) wr (wr.setCell ⟨b0, j, none⟩ (.int .u8 ((y + 1) % 256))) := (Ch.refl (· = b0) wr).cell ⟨b0, j, none⟩ (.int .u8 ((y + 1) % 256)) fun _ => rfl
        have HNX := Lib.hid (And.intro (bump_row HR.out.1 j ((y + 1) % 256)) (And.intro (HR.out.2.1.setCell (p := ⟨b0, j, none⟩) hbf (.int .u8 ((y + 1) % 256))) (And.intro (HR.out.2.2.1.ch hch (fun k q e => by have := HG.out.2.2.1 k q; omega)) (And.intro (HR.out.2.2.2.1.ch hch (fun e => by have := HQ.out.2.2.2.1; omega)) (HR.out.2.2.2.2.ch hch (fun k q e => by injection q with q; simp only at q; have := HQ.out.2.2.2.2; omega))))))
        clear hy hvl hbf hch
        go_wp2_with fail
        go_roundg (m * 512 - (j + 1))
        case measure => have := HK.out; omega
        case rel => exact ⟨j + 1, _, by go_num, rfl, by omega, HNX.out⟩
      · obtain rfl : j = m * 512 := by omega
        have HLK := Lib.hid (looks_ok wr a m l g x c' HR.out.2.2.1 HG.out.2.2.2 HR.out.2.2.2.1 HR.out.2.2.2.2)
        go_wp2_with fail
        refine HLK.out.mono ?_
        rintro e w9 ⟨rfl, hb9⟩
        have HF := Lib.hid (HR.out.2.1.trans (Below.mono hb9 HR.out.2.1.size))
        clear hb9
        go_wp2
        go_ret
        exact ⟨by first | rfl | simp, HF.out⟩
  · have HLD := Lib.hid (load_bad w2 A2 n c2 hok (by omega))
    have HRL := Lib.hid (rload_bad w2 A n c hok (by omega))
    have hcv1 := conv9 w2 A2 n c2 l HS2.out.1
    have hcv2 := conv9b w2 A n c l HS2.out.2.1
    clear hok
    refine HLD.out.mono ?_
    rintro e w' ⟨rfl, rfl⟩
    go_wp2_with fail
    refine HRL.out.mono ?_
    rintro e w' ⟨rfl, rfl⟩
    go_wp2
    go_ret
    exact ⟨by first | rfl | simp, HS2.out.2.2.1⟩
end Go.Proofs.Ytajhpfmfoolcjaa
