import Derived.Test.YtphikmdgdbdaiaaBase
import Derived.Test.YtphikmdgdbdaiaaFree
import Derived.Test.YtphikmdgdbdaiaaHpRow
/- Queues of harts: where they lie. -/
namespace Go.Proofs.Ytphikmdgdbdaiaa
open Go.RowKit
set_option linter.unusedVariables false
set_option linter.unusedSimpArgs false
/-- Where the queues lie: the struct's block, the map's, the rows' addresses and capacities. -/
structure QA where
  g : Nat
  m : Nat
  A : Nat → Option Addr
  c : Nat → Nat
/-- What they say: how many harts, what each runs, its queue, and the map. -/
structure QS where
  n : Nat
  R : Nat → Int
  Q : Nat → List Int
  M : IM
def iv (l : List Int) : List Value := l.map (.int .i64)
def qcells (a : QA) (S : QS) : Array Value := #[.int .i64 (S.n : Int), .int .i64 (S.R 0), .slice (a.A 0) (S.Q 0).length (a.c 0), .int .i64 (S.R 1), .slice (a.A 1) (S.Q 1).length (a.c 1), .int .i64 (S.R 2), .slice (a.A 2) (S.Q 2).length (a.c 2), .int .i64 (S.R 3), .slice (a.A 3) (S.Q 3).length (a.c 3),
  .int .i64 (S.R 4), .slice (a.A 4) (S.Q 4).length (a.c 4), .int .i64 (S.R 5), .slice (a.A 5) (S.Q 5).length (a.c 5), .int .i64 (S.R 6), .slice (a.A 6) (S.Q 6).length (a.c 6), .int .i64 (S.R 7), .slice (a.A 7) (S.Q 7).length (a.c 7), .map (some a.m)]
def QS.setR (S : QS) (h : Nat) (v : Int) : QS := { S with R := fun k => if k = h then v else S.R k }
def QS.setQ (S : QS) (h : Nat) (l : List Int) : QS := { S with Q := fun k => if k = h then l else S.Q k }
def QS.setM (S : QS) (M : IM) : QS := { S with M }
def QA.setA (a : QA) (h : Nat) (A : Option Addr) (c : Nat) : QA := { a with A := fun k => if k = h then A else a.A k, c := fun k => if k = h then c else a.c k }
theorem q8 {h : Nat} (hh : h < 8) : h = 0 ∨ h = 1 ∨ h = 2 ∨ h = 3 ∨ h = 4 ∨ h = 5 ∨ h = 6 ∨ h = 7 := by omega
theorem qcells_R (a : QA) (S : QS) {h : Nat} (hh : h < 8) : (qcells a S)[1 + h * 2]? = some (.int .i64 (S.R h)) := by
  rcases q8 hh with rfl | rfl | rfl | rfl | rfl | rfl | rfl | rfl <;> rfl
theorem qcells_Q (a : QA) (S : QS) {h : Nat} (hh : h < 8) : (qcells a S)[1 + h * 2 + 1]? = some (.slice (a.A h) (S.Q h).length (a.c h)) := by
  rcases q8 hh with rfl | rfl | rfl | rfl | rfl | rfl | rfl | rfl <;> rfl
theorem qcells_setR (a : QA) (S : QS) {h : Nat} (hh : h < 8) (v : Int) : (qcells a S).setIfInBounds (1 + h * 2) (.int .i64 v) = qcells a (S.setR h v) := by
  rcases q8 hh with rfl | rfl | rfl | rfl | rfl | rfl | rfl | rfl <;> rfl
theorem qcells_setQ (a : QA) (S : QS) {h : Nat} (hh : h < 8) (A : Option Addr) (c : Nat) (l : List Int) : (qcells a S).setIfInBounds (1 + h * 2 + 1) (.slice A l.length c) = qcells (a.setA h A c) (S.setQ h l) := by
  rcases q8 hh with rfl | rfl | rfl | rfl | rfl | rfl | rfl | rfl <;> rfl
/-- The queues S lie at a. -/
structure QR (w : World) (a : QA) (S : QS) : Prop where
  n8 : S.n ≤ 8
  blk : Blk w a.g (qcells a S)
  map : IMap w a.m S.M
  row : ∀ h, h < 8 → Rw w 3 1 (a.A h) (S.Q h).length (a.c h) (iv (S.Q h))
  gm : a.g ≠ a.m
  ag : ∀ h, h < 8 → blkOf (a.A h) ≠ some a.g ∧ blkOf (a.A h) ≠ some a.m
  aa : ∀ h k, h < 8 → k < 8 → h ≠ k → ∀ b, blkOf (a.A h) = some b → blkOf (a.A k) ≠ some b
def QA.foot (a : QA) (k : Nat) : Prop := k = a.g ∨ k = a.m ∨ ∃ h, h < 8 ∧ blkOf (a.A h) = some k
theorem Blk.ch {F : Nat → Prop} {w w' : World} {g : Nat} {c : Array Value} (h : Blk w g c) (hc : Ch F w w') (hg : ¬ F g) : Blk w' g c :=
  ⟨(row_heap (hc.block g h.lt hg)).trans h.1, (nf_heap (hc.block g h.lt hg)).trans h.2⟩
theorem Blk.same {w w' : World} {g : Nat} {c : Array Value} (h : Blk w g c) (e : w'.heap[g]? = w.heap[g]?) : Blk w' g c := ⟨(row_heap e).trans h.1, (nf_heap e).trans h.2⟩
section
variable {w w' : World} {a : QA} {S : QS}
theorem QR.foot_lt (h : QR w a S) {k : Nat} (hk : a.foot k) : k < w.heap.size := by
  rcases hk with rfl | rfl | ⟨i, hi, hk⟩
  · exact h.blk.lt
  · exact h.map.lt
  · exact (h.row i hi).lt k hk
theorem QR.same (h : QR w a S) (hk : ∀ k, a.foot k → w'.heap[k]? = w.heap[k]?) : QR w' a S :=
  ⟨h.n8, h.blk.same (hk _ (.inl rfl)), h.map.heap (hk _ (.inr (.inl rfl))), fun i hi => (h.row i hi).heap fun k e => hk k (.inr (.inr ⟨i, hi, e⟩)), h.gm, h.ag, h.aa⟩
theorem QR.ch {F : Nat → Prop} (h : QR w a S) (hc : Ch F w w') (hF : ∀ k, a.foot k → ¬ F k) : QR w' a S := h.same fun k hk => hc.block k (h.foot_lt hk) (hF k hk)
theorem QR.below (h : QR w a S) (hb : Below w.heap.size w w') : QR w' a S := h.same fun k hk => hb.block k (h.foot_lt hk)
theorem QR.alloc (h : QR w a S) (o : Obj) : QR (w.alloc o) a S := h.below ((Below.refl _ _).alloc (Nat.le_refl _) _)
theorem QR.drew (h : QR w a S) : QR w.drew a S := h.same fun _ _ => rfl
theorem QR.cells (h : QR w a S) : w.cell? ⟨a.g, 0, none⟩ = some (.int .i64 (S.n : Int)) ∧ w.cell? ⟨a.g, 17, none⟩ = some (.map (some a.m)) ∧ ∀ i, w.frozen? ⟨a.g, i, none⟩ = false :=
  ⟨(h.blk.all.2.2.1 0).trans rfl, (h.blk.all.2.2.1 17).trans rfl, h.blk.all.2.2.2⟩
theorem QR.runs (h : QR w a S) {i : Nat} (hi : i < 8) : w.cell? ⟨a.g, 1 + i * 2, none⟩ = some (.int .i64 (S.R i)) := (h.blk.all.2.2.1 _).trans (qcells_R a S hi)
theorem QR.queue (h : QR w a S) {i : Nat} (hi : i < 8) : w.cell? ⟨a.g, 1 + i * 2 + 1, none⟩ = some (.slice (a.A i) (S.Q i).length (a.c i)) := (h.blk.all.2.2.1 _).trans (qcells_Q a S hi)
/-- A hart runs another. -/
theorem QR.putR (h : QR w a S) {i : Nat} (hi : i < 8) (v : Int) : QR (w.setCell ⟨a.g, 1 + i * 2, none⟩ (.int .i64 v)) a (S.setR i v) ∧ Ch a.foot w (w.setCell ⟨a.g, 1 + i * 2, none⟩ (.int .i64 v)) := by
  have hst : ∀ k, k ≠ a.g → (w.setCell ⟨a.g, 1 + i * 2, none⟩ (.int .i64 v)).heap[k]? = w.heap[k]? := fun k hk => heap_setCell_other w ⟨a.g, 1 + i * 2, none⟩ k _ hk
  refine ⟨⟨h.n8, by have := h.blk.put (1 + i * 2) (.int .i64 v); rwa [qcells_setR a S hi] at this, h.map.heap (hst _ h.gm.symm), fun j hj => (h.row j hj).heap fun k e => hst k fun e2 => (h.ag j hj).1 (by rw [e, e2]), h.gm, h.ag, h.aa⟩, (Ch.refl _ _).cell _ _ fun _ => .inl rfl⟩
/-- The map is another. -/
theorem QR.putM (h : QR w a S) {M : IM} (hm : IMap w' a.m M) (hc : Ch (· = a.m) w w') : QR w' a (S.setM M) ∧ Ch a.foot w w' :=
  ⟨⟨h.n8, h.blk.ch hc h.gm, hm, fun j hj => (h.row j hj).ch hc fun k e e2 => (h.ag j hj).2 (by rw [e, e2]), h.gm, h.ag, h.aa⟩, hc.mono fun k _ e => .inr (.inl e)⟩
/-- A hart's queue is another row. -/
theorem QR.putQ (h : QR w a S) {i : Nat} (hi : i < 8) {A : Option Addr} {c : Nat} {l : List Int} (hr : Rw w' 3 1 A l.length c (iv l)) (hc : Ch (fun k => blkOf (a.A i) = some k) w w') (hA : blkOf A = blkOf (a.A i) ∨ ∃ k, blkOf A = some k ∧ w.heap.size ≤ k) :
    QR (w'.setCell ⟨a.g, 1 + i * 2 + 1, none⟩ (.slice A l.length c)) (a.setA i A c) (S.setQ i l) ∧ Ch a.foot w (w'.setCell ⟨a.g, 1 + i * 2 + 1, none⟩ (.slice A l.length c)) := by
  have hst : ∀ k, k ≠ a.g → (w'.setCell ⟨a.g, 1 + i * 2 + 1, none⟩ (.slice A l.length c)).heap[k]? = w'.heap[k]? := fun k hk => heap_setCell_other w' ⟨a.g, 1 + i * 2 + 1, none⟩ k _ hk
  have hg : blkOf A ≠ some a.g ∧ blkOf A ≠ some a.m := by
    rcases hA with e | ⟨k, e, hk⟩
    · rw [e]; exact h.ag i hi
    · rw [e]; exact ⟨fun e2 => by injection e2 with e2; have := h.blk.lt; omega, fun e2 => by injection e2 with e2; have := h.map.lt; omega⟩
  have hne : ∀ j, j < 8 → j ≠ i → ∀ b, blkOf (a.A j) = some b → blkOf A ≠ some b := fun j hj hji b hb => by
    rcases hA with e | ⟨k, e, hk⟩
    · rw [e]; exact h.aa j i hj hi hji b hb
    · rw [e]; intro e2; injection e2 with e2; have := (h.row j hj).lt b hb; omega
  have hB : Blk w' a.g (qcells a S) := h.blk.ch hc (h.ag i hi).1
  refine ⟨⟨h.n8, by have := hB.put (1 + i * 2 + 1) (.slice A l.length c); rwa [qcells_setQ a S hi] at this, (h.map.ch hc (h.ag i hi).2).heap (hst _ h.gm.symm), fun j hj => ?_, h.gm, fun j hj => ?_, fun j k hj hk hjk b hb => ?_⟩, ?_⟩
  · by_cases e : j = i
    · subst e
      simp only [QA.setA, QS.setQ, if_pos]
      exact hr.heap fun k e2 => hst k fun e3 => hg.1 (by rw [e2, e3])
    · simp only [QA.setA, QS.setQ, if_neg e]
      exact ((h.row j hj).ch hc fun k e2 e3 => h.aa j i hj hi e k e2 e3).heap fun k e2 => hst k fun e3 => (h.ag j hj).1 (by rw [e2, e3])
  · by_cases e : j = i
    · subst e; simp only [QA.setA, if_pos]; exact hg
    · simp only [QA.setA, if_neg e]; exact h.ag j hj
  · by_cases e : j = i
    · subst e
      simp only [QA.setA, if_pos] at hb
      simp only [QA.setA, if_neg (Ne.symm hjk)]
      intro e2
      exact hne k hk (Ne.symm hjk) b e2 hb
    · simp only [QA.setA, if_neg e] at hb
      by_cases e2 : k = i
      · subst e2; simp only [QA.setA, if_pos]; exact hne j hj e b hb
      · simp only [QA.setA, if_neg e2]; exact h.aa j k hj hk hjk b hb
  · exact (hc.mono fun k _ e => .inr (.inr ⟨i, hi, e⟩)).cell _ _ fun _ => .inl rfl
theorem QA.foot_setA {a : QA} {i : Nat} {A : Option Addr} {c k : Nat} {N : Nat} (hi : i < 8) (hA : blkOf A = blkOf (a.A i) ∨ ∃ k, blkOf A = some k ∧ N ≤ k) (hk : (a.setA i A c).foot k) : a.foot k ∨ N ≤ k := by
  rcases hk with e | e | ⟨j, hj, e⟩
  · exact .inl (.inl e)
  · exact .inl (.inr (.inl e))
  · by_cases hji : j = i
    · subst hji
      simp only [QA.setA, if_pos] at e
      rcases hA with e2 | ⟨q, e2, hq⟩
      · exact .inl (.inr (.inr ⟨j, hj, by rw [← e2]; exact e⟩))
      · rw [e2] at e; injection e with e; exact .inr (by omega)
    · simp only [QA.setA, if_neg hji] at e
      exact .inl (.inr (.inr ⟨j, hj, e⟩))
end
end Go.Proofs.Ytphikmdgdbdaiaa
