import Derived.Test.YtdpbfmookhgilaaCopy3
import Derived.Test.YtdpbfmookhgilaaMade
import Derived.Deep.QuietTactic
import Derived.BigQuiet
/- The start: what its steps do. -/
namespace Go.Proofs.Ytdpbfmookhgilaa
open Go.RowKit Go.BigFrame
set_option linter.unusedVariables false
set_option linter.unusedSimpArgs false
attribute [local go_sem] szIs_lit row_at row_past row_alloc nf_alloc row_set nf_set row_cell nf_cell row_drew nf_drew row_drewN nf_drewN cell_setRow frozen_setRow nlt1 nlt2 nlt3 nlt4 nne1 nne2 nne3 nen1 nen2 nen3
attribute [local go_sem] by_get by_set
theorem or8_byte (a b : Int) : isByte (bits .or .u8 a b) := by
  unfold bits isByte
  simp only [IntKind.wrap_u8]
  omega
/-- The reference's entries. -/
def er (E : Nat → Int) : Array Value := ((List.range 256).map fun (p : Nat) => Value.int .u32 (E p)).toArray
theorem er_size (E : Nat → Int) : (er E).size = 256 := by simp [er]
theorem er_get (E : Nat → Int) (p : Nat) (hp : p < 256) : (er E)[p]? = some (.int .u32 (E p)) := by
  unfold er; rw [List.getElem?_toArray, List.getElem?_map, List.getElem?_range hp]; rfl
theorem er_set (E : Nat → Int) (p : Nat) (hp : p < 256) (e : Int) : (er E).setIfInBounds p (.int .u32 e) = er (updE E p e) := by
  apply Array.ext_getElem?
  intro i
  rw [Array.getElem?_setIfInBounds, er_size]
  by_cases h : p = i
  · subst h; rw [if_pos rfl, if_pos hp, er_get _ p hp]; simp [updE]
  · rw [if_neg h]
    by_cases hi : i < 256
    · rw [er_get _ i hi, er_get _ i hi]; simp [updE, Ne.symm h]
    · rw [Array.getElem?_eq_none (by rw [er_size]; omega), Array.getElem?_eq_none (by rw [er_size]; omega)]
theorem er_ne (E : Nat → Int) : (er E = #[]) = False := by
  apply eq_false
  intro h
  have := congrArg Array.size h
  rw [er_size] at this
  simp at this
theorem zero58 (w : World) : (zeroValue 58).run Try.prog w = .ok (.agg (er (fun _ => 0))) w := by kernel_rfl
theorem bx58 (E : Nat → Int) (w : World) : (Instr.box 58 (.agg (er E))).run Try.prog w = .ok (.pointer (some ⟨w.heap.size, 0, none⟩)) (w.alloc (.cells (er E) 58)) := by
  simp [go_sem]
theorem size_of (t : TypeId) (h : (Try.prog.info? t).map (·.size) = some 1) (w : World) : (sizeOf t).run Try.prog w = .ok 1 w := by
  cases hq : Try.prog.info? t with
  | none => simp [hq] at h
  | some i => simp [hq] at h; simp [sizeOf, typeInfo, hq, h]
theorem Blk.heap {w w1 : World} {g : Nat} {c : Array Value} (h : Blk w g c) (e : w1.heap[g]? = w.heap[g]?) : Blk w1 g c := ⟨(row_heap e).trans h.1, (nf_heap e).trans h.2⟩
/-- A block is made, and two cells of one that was there are stored. -/
structure KX (R : World) (wb i1 i2 : Nat) (A : Value → Value → Array Value) (p0 q0 p1 q1 : Value) (D : Nat → Bool) (u : World) : Prop where
  ch : Ch (· = wb) R u
  sz : D 6 = false → u.heap.size = R.heap.size
  sz1 : D 6 = true → Blk u R.heap.size (er (fun _ => 0))
  row : Blk u wb (A (if D 10 then p1 else p0) (if D 14 then q1 else q0))
section
variable {R u : World} {wb i1 i2 : Nat} {A : Value → Value → Array Value} {p0 q0 p1 q1 : Value} {D : Nat → Bool}
theorem KX.start (h : Blk R wb (A p0 q0)) : KX R wb i1 i2 A p0 q0 p1 q1 (fun _ => false) R := ⟨Ch.refl _ _, fun _ => rfl, by simp, by simpa using h⟩
theorem KX.box (h : KX R wb i1 i2 A p0 q0 p1 q1 D u) (d6 : D 6 = false) : (Instr.box 58 (.agg (er (fun _ => 0)))).run Try.prog u = .ok (.pointer (some ⟨R.heap.size, 0, none⟩)) (u.alloc (.cells (er (fun _ => 0)) 58)) ∧ KX R wb i1 i2 A p0 q0 p1 q1 (upd D 6) (u.alloc (.cells (er (fun _ => 0)) 58)) := by
  have hs := h.sz d6
  have hb : Below u.heap.size u (u.alloc (.cells (er (fun _ => 0)) 58)) := (Below.refl _ _).alloc (Nat.le_refl _) _
  refine ⟨by rw [← hs]; exact bx58 _ u, h.ch.alloc _, by simp [upd], fun _ => by rw [← hs]; exact Blk.of_heap (heap_at rfl), ?_⟩
  have := h.row.below hb h.row.lt
  simpa [upd] using this
theorem KX.st10 (h : KX R wb i1 i2 A p0 q0 p1 q1 D u) (hw : wb < R.heap.size) (hA : ∀ p q v, (A p q).setIfInBounds i1 v = A v q) (hg : ∀ p q, (A p q)[i1]? = some p) (h1 : p1.oneCell' = true) : (Instr.storeAt 38 (.pointer (some ⟨wb, i1, none⟩)) p1).run Try.prog u = .ok () (u.setCell ⟨wb, i1, none⟩ p1) ∧ KX R wb i1 i2 A p0 q0 p1 q1 (upd D 10) (u.setCell ⟨wb, i1, none⟩ p1) := by
  refine ⟨store_cell 38 ⟨wb, i1, none⟩ p1 _ u (size_of 38 (by kernel_rfl) u) h1 ((h.row.all.2.2.1 i1).trans (hg _ _)) (h.row.all.2.2.2 i1), h.ch.cell _ _ (fun _ => rfl), fun d => by simpa using h.sz (by simpa [upd] using d), fun d => ?_, ?_⟩
  · exact (h.sz1 (by simpa [upd] using d)).heap (heap_setCell_other u ⟨wb, i1, none⟩ _ _ (fun e => by simp at e; omega))
  · have := h.row.put i1 p1
    rw [hA] at this
    simpa [upd] using this
theorem KX.st14 (h : KX R wb i1 i2 A p0 q0 p1 q1 D u) (hw : wb < R.heap.size) (hA : ∀ p q v, (A p q).setIfInBounds i2 v = A p v) (hg : ∀ p q, (A p q)[i2]? = some q) (h1 : q1.oneCell' = true) : (Instr.storeAt 41 (.pointer (some ⟨wb, i2, none⟩)) q1).run Try.prog u = .ok () (u.setCell ⟨wb, i2, none⟩ q1) ∧ KX R wb i1 i2 A p0 q0 p1 q1 (upd D 14) (u.setCell ⟨wb, i2, none⟩ q1) := by
  refine ⟨store_cell 41 ⟨wb, i2, none⟩ q1 _ u (size_of 41 (by kernel_rfl) u) h1 ((h.row.all.2.2.1 i2).trans (hg _ _)) (h.row.all.2.2.2 i2), h.ch.cell _ _ (fun _ => rfl), fun d => by simpa using h.sz (by simpa [upd] using d), fun d => ?_, ?_⟩
  · exact (h.sz1 (by simpa [upd] using d)).heap (heap_setCell_other u ⟨wb, i2, none⟩ _ _ (fun e => by simp at e; omega))
  · have := h.row.put i2 q1
    rw [hA] at this
    simpa [upd] using this
end
/-- What start keeps. -/
structure SS (w u : World) (ps rb rm wb b : Nat) (c : Array Value) : Prop where
  pb : Blk u w.heap.size #[.slice (some ⟨ps, 0, none⟩) 2 2, .slice none 0 0]
  pk : Blk u ps #[.int .i64 0, .int .i64 7, .bool true, .int .i64 1, .int .i64 3, .bool true]
  rk : Blk u rm #[.slice (some ⟨rb, 0, none⟩) 4096 4096]
  wk : Blk u wb c
  bk : ∃ M, Blk u rb (bytes M 4096)
  bl : Below w.heap.size w u
theorem SS.below {w u u' : World} {ps rb rm wb b : Nat} {c : Array Value} (h : SS w u ps rb rm wb b c) (hb : Below u.heap.size u u') : SS w u' ps rb rm wb b c := by
  obtain ⟨M, hM⟩ := h.bk
  exact ⟨h.pb.below hb h.pb.lt, h.pk.below hb h.pk.lt, h.rk.below hb h.rk.lt, h.wk.below hb h.wk.lt, ⟨M, hM.below hb hM.lt⟩, h.bl.trans (Below.mono hb h.bl.size)⟩
theorem SS.only {w u u' : World} {ps rb rm wb b k : Nat} {c : Array Value} (h : SS w u ps rb rm wb b c) (hg : u.grownBy u' (some k)) (h1 : w.heap.size < k) (h2 : ps < w.heap.size) (h3 : rm ≠ k) (h4 : wb ≠ k) (h5 : rb ≠ k) : SS w u' ps rb rm wb b c := by
  obtain ⟨M, hM⟩ := h.bk
  exact ⟨h.pb.only hg h.pb.lt (by omega), h.pk.only hg h.pk.lt (by omega), h.rk.only hg h.rk.lt h3, h.wk.only hg h.wk.lt h4, ⟨M, hM.only hg hM.lt h5⟩, below_only h.bl hg (by omega) h.bl.size⟩
theorem SS.wb {w u u' : World} {ps rb rm wb b : Nat} {c c' : Array Value} (h : SS w u ps rb rm wb b c) (hg : u.grownBy u' (some wb)) (hk : Blk u' wb c') (h1 : w.heap.size < wb) (h2 : ps < w.heap.size) (h3 : rm ≠ wb) (h5 : rb ≠ wb) : SS w u' ps rb rm wb b c' := by
  obtain ⟨M, hM⟩ := h.bk
  exact ⟨h.pb.only hg h.pb.lt (by omega), h.pk.only hg h.pk.lt (by omega), h.rk.only hg h.rk.lt h3, hk, ⟨M, hM.only hg hM.lt h5⟩, below_only h.bl hg (by omega) h.bl.size⟩
theorem TM.only {w w' : World} {g b t k root : Nat} {M : Nat → Int} {L : Nat → Option Nat} {E : Nat → Int} (h : TM w g b t M root L E) (hg : w.grownBy w' (some k)) (h1 : g ≠ k) (h2 : b ≠ k) (h3 : t ≠ k) : TM w' g b t M root L E :=
  ⟨⟨h.mp.hg.only hg h.mp.hg.lt h1, h.mp.hb.only hg h.mp.hb.lt h2, h.mp.f1, h.mp.ne, h.mp.by_⟩, h.tb, h.ht.only hg h.ht.lt h3, h.ne, h.r16, h.r26, h.l16⟩
theorem SS.st {w u : World} {ps rb rm wb b i : Nat} {c : Array Value} {v : Int} (h : SS w u ps rb rm wb b c) (hi : i < 4096) (h1 : w.heap.size < rb) (h2 : ps < w.heap.size) (h3 : rm ≠ rb) (h4 : wb ≠ rb) : SS w (u.setCell ⟨rb, i, none⟩ (.int .u8 v)) ps rb rm wb b c := by
  obtain ⟨M, hM⟩ := h.bk
  have hg : u.grownBy (u.setCell ⟨rb, i, none⟩ (.int .u8 v)) (some rb) := only_cell (only_refl u rb) i _
  have hp := hM.put i (.int .u8 v)
  rw [by_set _ _ _ _ hi] at hp
  exact ⟨h.pb.only hg h.pb.lt (by omega), h.pk.only hg h.pk.lt (by omega), h.rk.only hg h.rk.lt h3, h.wk.only hg h.wk.lt h4, ⟨_, hp⟩, below_only h.bl hg (by omega) h.bl.size⟩
def CTr (_ : World) : Prop := True
def L1 : Nat → Option Nat := updL (fun _ => none) 0 17
def E1 : Nat → Int := updE (fun _ => 0) 0 1795
def E2 : Nat → Int := updE E1 1 771
section
variable {w w' : World} {g b F t root : Nat} {M : Nat → Int} {L : Nat → Option Nat} {E : Nat → Int}
theorem TB.own {M' : Nat → Int} (h : TB M F root L E) (hM : ∀ i, (i / 256 = root ∨ ∃ k f, k < 4 ∧ L k = some f ∧ i / 256 = f) → M' i = M i) : TB M' F root L E := by
  have e : ∀ a c, (∀ i, a ≤ i → i < a + 4 → M' i = M i) → le32 M' a = c → le32 M a = c := fun a c q q2 => by
    rw [← q2]; unfold le32; rw [q a (by omega) (by omega), q (a + 1) (by omega) (by omega), q (a + 2) (by omega) (by omega), q (a + 3) (by omega) (by omega)]
  have e2 : ∀ a, (∀ i, a ≤ i → i < a + 4 → M' i = M i) → le32 M' a = le32 M a := fun a q => (e a _ q rfl).symm
  refine ⟨fun k hk hl => ?_, fun k hk f hf => ?_, h.inj, fun p hp f hf => ?_, h.no⟩
  · rw [e2 _ (fun i h1 h2 => hM i (.inl (by omega)))]; exact h.nn k hk hl
  · rw [e2 _ (fun i h1 h2 => hM i (.inl (by omega)))]; exact h.sm k hk f hf
  · rw [e2 _ (fun i h1 h2 => hM i (.inr ⟨p / 64, f, by omega, hf, by omega⟩))]; exact h.ent p hp f hf
theorem tm_new (h : MP w g b 26 M) : Calls Try.prog 12 #[.pointer (some ⟨g, 0, none⟩), .int .i64 16] w fun r w' => ∃ t, r = .returned (.tuple #[.pointer (some ⟨t, 0, none⟩), .int .i64 0]) ∧ TM w' g b t (zf M 4096 256) 16 (fun _ => none) (fun _ => 0) ∧ w.heap.size ≤ t ∧ w.grownBy w' (some b) :=
  (newt_ok h 16 (by decide)).mono fun r w' ⟨t, r1, r2, r3, r4, r5⟩ => ⟨t, r1, ⟨r2, TB.zero M 26 16, r3, by have := h.hb.lt; omega, by decide, by decide, fun k f _ hf => by cases hf⟩, r4, r5⟩
theorem tm_new2 (h : TM w g b t M 16 L1 E) : Calls Try.prog 12 #[.pointer (some ⟨g, 0, none⟩), .int .i64 21] w fun r w' => ∃ t2 M', r = .returned (.tuple #[.pointer (some ⟨t2, 0, none⟩), .int .i64 0]) ∧ TM w' g b t M' 16 L1 E ∧ w.heap.size ≤ t2 ∧ t2 < w'.heap.size ∧ w.grownBy w' (some b) :=
  (newt_ok h.mp 21 (by decide)).mono fun r w' ⟨t2, r1, r2, r3, r4, r5⟩ => ⟨t2, _, r1, ⟨r2, h.tb.own (fun i hi => by
    unfold zf
    rw [if_neg]
    rcases hi with hi | ⟨k, f, hk, hf, hi⟩
    · omega
    · unfold L1 updL at hf
      split at hf
      · injection hf with hf; omega
      · cases hf), h.ht.only r5 h.ht.lt h.ne, h.ne, h.r16, h.r26, h.l16⟩, r4, r3.lt, r5⟩
theorem tm_set1 (h : TM w g b t M 16 (fun _ => none) (fun _ => 0)) : Calls Try.prog 13 #[.pointer (some ⟨t, 0, none⟩), .int .i64 0, .int .u32 1795, .int .i64 17] w fun r w' => r = .returned (.tuple #[.bool true, .int .i64 0]) ∧ (∃ M', TM w' g b t M' 16 L1 E1) ∧ w.grownBy w' (some b) := by
  refine (set_all h.ts 0 1795 17 (by decide) (fun s hs => ⟨by omega, fun k _ => by simp⟩)).mono ?_
  rintro r w' ⟨u, v, L', E', r1, r2, r3, hR⟩
  have hm : mayE 26 1795 = true := by decide
  rcases hR with ⟨h0, _⟩ | ⟨q, hq, hq2, hR⟩
  · exact absurd (by decide) h0
  · obtain rfl : q = 0 := by omega
    rcases hR with ⟨m, _⟩ | ⟨m, hl, _⟩ | ⟨m, hl, h0, _⟩ | ⟨m, hl, h0, hs, _⟩ | ⟨m, hl, h0, hs, _⟩ | ⟨m, hl, h0, s, hs, hs2, rfl, rfl, rfl, rfl⟩
    · rw [hm] at m; cases m
    · cases hl
    · exact absurd h0 (by decide)
    · exact absurd hs (by decide)
    · exact absurd hs (by decide)
    · obtain rfl : s = 17 := by omega
      obtain ⟨M', m1, m2⟩ := r2.ex
      refine ⟨r1, ⟨M', m1, m2, r2.ht, r2.ne, by decide, by decide, fun k f hk hf => ?_⟩, r3⟩
      change L1 k = some f at hf
      unfold L1 updL at hf
      split at hf
      · injection hf with hf; omega
      · cases hf
theorem tm_set2 (h : TM w g b t M 16 L1 E1) : Calls Try.prog 13 #[.pointer (some ⟨t, 0, none⟩), .int .i64 1, .int .u32 771, .int .i64 17] w fun r w' => r = .returned (.tuple #[.bool false, .int .i64 0]) ∧ (∃ M', TM w' g b t M' 16 L1 E2) ∧ w.grownBy w' (some b) := by
  have hl : L1 (1 / 64) = some 17 := rfl
  have hh := h.tb.has 1 (by decide)
  rw [hl] at hh
  exact (set_put h.mp h.ht h.ne h.r26 1 771 17 (by decide) (by decide) (by decide) (by decide) hh).mono fun r w' ⟨r1, r2, r3, r4⟩ => ⟨r1, ⟨_, r2, h.tb.put 1 (by decide) hl 771 (by decide), r3, h.ne, h.r16, h.r26, h.l16⟩, r4⟩
theorem tm_store (h : TM w g b t M 16 L1 E2) (a : Int) (ha : 0 ≤ a) (ha2 : a < 4096) (x : Int) (hx : isByte x) : Calls Try.prog 14 #[.pointer (some ⟨g, 0, none⟩), .int .i64 a, .int .u8 x] w fun r w' => r = .returned (.int .i64 0) ∧ (∃ M', TM w' g b t M' 16 L1 E2) ∧ w.grownBy w' (some b) := by
  obtain ⟨k, rfl⟩ := Int.eq_ofNat_of_zero_le ha
  exact (store8_ok h.mp k (by omega) x hx).mono fun r w' ⟨r1, r2, r3⟩ => ⟨r1, ⟨_, h.put k [x] (by simp; omega) r2 r3⟩, r3⟩
end
end Go.Proofs.Ytdpbfmookhgilaa
