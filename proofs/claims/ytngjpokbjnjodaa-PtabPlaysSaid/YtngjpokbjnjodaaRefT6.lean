import Derived.Test.YtngjpokbjnjodaaRefT5
import Derived.Test.YtngjpokbjnjodaaBoth1
import Derived.Test.YtngjpokbjnjodaaFreeT
import Derived.Test.YtngjpokbjnjodaaKit
/- The reference table: its leaves, by their words; what the three appends keep. -/
namespace Go.Proofs.Ytngjpokbjnjodaa
open Go.RowKit Go.BigFrame
set_option linter.unusedVariables false
set_option linter.unusedSimpArgs false
attribute [local go_sem] szIs_lit row_at row_past row_alloc nf_alloc row_set nf_set row_cell nf_cell row_drew nf_drew row_drewN nf_drewN cell_setRow frozen_setRow nlt1 nlt2 nlt3 nlt4 nne1 nne2 nne3 nen1 nen2 nen3
attribute [local go_sem] by_get by_set
/-- Leaves by their words. -/
def lvL (L : Nat → Option Nat) : List (Nat × Nat) := (List.range 4).filterMap fun k => (L k).map fun f => (k, f)
theorem lvL_eq (L : Nat → Option Nat) : lvL L = (L 0).toList.map (Prod.mk 0) ++ (L 1).toList.map (Prod.mk 1) ++ (L 2).toList.map (Prod.mk 2) ++ (L 3).toList.map (Prod.mk 3) := by
  have e : List.range 4 = [0, 1, 2, 3] := rfl
  unfold lvL
  rw [e]
  cases h0 : L 0 <;> cases h1 : L 1 <;> cases h2 : L 2 <;> cases h3 : L 3 <;> simp [h0, h1, h2, h3]
theorem lvL_len (L : Nat → Option Nat) : (lvL L).length ≤ 4 := Nat.le_trans (List.length_filterMap_le _ _) (by simp)
theorem lvL_mem {L : Nat → Option Nat} {k f : Nat} : (k, f) ∈ lvL L ↔ k < 4 ∧ L k = some f := by
  unfold lvL
  rw [List.mem_filterMap]
  constructor
  · rintro ⟨a, ha, h⟩
    cases hl : L a with
    | none => rw [hl] at h; cases h
    | some y => rw [hl] at h; injection h with h; injection h with h1 h2; subst h1 h2; exact ⟨List.mem_range.1 ha, hl⟩
  · rintro ⟨h1, h2⟩
    exact ⟨k, List.mem_range.2 h1, by rw [h2]; rfl⟩
theorem hasW_lvL {L : Nat → Option Nat} {q : Nat} (hq : q < 4) : hasW (lvL L) (q : Int) = (L q).isSome := by
  unfold hasW
  rw [Bool.eq_iff_iff, List.any_eq_true]
  constructor
  · rintro ⟨⟨k, f⟩, hm, he⟩
    obtain ⟨h1, h2⟩ := lvL_mem.1 hm
    have : k = q := by
      have h9 : (k : Int) = q := by simpa using he
      omega
    subst this; rw [h2]; rfl
  · intro h
    obtain ⟨f, hf⟩ := Option.isSome_iff_exists.1 h
    exact ⟨(q, f), lvL_mem.2 ⟨hq, hf⟩, by simp⟩
theorem lvL_ins {L : Nat → Option Nat} {q s i : Nat} (hq : q < 4) (hL : L q = none) (hi : i ≤ (lvL L).length) (h1 : ∀ j kf, j < i → (lvL L)[j]? = some kf → kf.1 < q) (h2 : ∀ kf, (lvL L)[i]? = some kf → q ≤ kf.1) :
    (lvL L).take i ++ [(q, s)] ++ (lvL L).drop i = lvL (updL L q s) := by
  have hi4 := Nat.le_trans hi (lvL_len L)
  rw [lvL_eq] at hi h1 h2 ⊢
  rw [lvL_eq (updL L q s)]
  unfold updL
  rcases (show q = 0 ∨ q = 1 ∨ q = 2 ∨ q = 3 by omega) with rfl | rfl | rfl | rfl <;> rw [hL] at hi h1 h2 ⊢ <;> clear hL <;>
  (generalize L 0 = a at *
   generalize L 1 = b at *
   generalize L 2 = c at *
   generalize L 3 = d at *
   (rcases (show i = 0 ∨ i = 1 ∨ i = 2 ∨ i = 3 ∨ i = 4 by omega) with rfl | rfl | rfl | rfl | rfl) <;>
   cases a <;> cases b <;> cases c <;> cases d <;>
   first
   | (simp; done)
   | (exfalso; simp at hi; done)
   | (exfalso; have := h2 _ rfl; simp at this; done)
   | (exfalso; have := h1 0 _ (by decide) rfl; simp at this; done)
   | (exfalso; have := h1 1 _ (by decide) rfl; simp at this; done)
   | (exfalso; have := h1 2 _ (by decide) rfl; simp at this; done))
theorem lv_len (l : List (Nat × Nat)) : (lv l).length = l.length * 2 := by
  induction l with
  | nil => rfl
  | cons a l ih => show (lv l).length + 1 + 1 = _; rw [ih]; simp; omega
theorem lv_app (a b : List (Nat × Nat)) : lv (a ++ b) = lv a ++ lv b := by unfold lv; rw [List.flatMap_append]
theorem lv_take (l : List (Nat × Nat)) (i : Nat) : (lv l).take (i * 2) = lv (l.take i) := by
  induction l generalizing i with
  | nil => simp [lv]
  | cons a l ih =>
    cases i with
    | zero => rfl
    | succ i =>
      have e : lv (a :: l) = .int .i64 (a.1 : Int) :: .int .i64 (a.2 : Int) :: lv l := rfl
      rw [e, show (i + 1) * 2 = i * 2 + 1 + 1 by omega, List.take_succ_cons, List.take_succ_cons, ih]; rfl
theorem lv_drop (l : List (Nat × Nat)) (i : Nat) : (lv l).drop (i * 2) = lv (l.drop i) := by
  induction l generalizing i with
  | nil => simp [lv]
  | cons a l ih =>
    cases i with
    | zero => rfl
    | succ i =>
      have e : lv (a :: l) = .int .i64 (a.1 : Int) :: .int .i64 (a.2 : Int) :: lv l := rfl
      rw [e, show (i + 1) * 2 = i * 2 + 1 + 1 by omega, List.drop_succ_cons, List.drop_succ_cons, ih]; rfl
theorem lv_one (l : List (Nat × Nat)) : ∀ u ∈ lv l, u.oneCell' = true := by
  intro u hu
  unfold lv at hu
  rw [List.mem_flatMap] at hu
  obtain ⟨kf, _, h⟩ := hu
  simp at h
  rcases h with rfl | rfl <;> rfl
theorem elT : ElT Try.prog 95 100 2 16 (.agg #[.int .i64 0, .int .i64 0]) := ⟨by kernel_rfl, by kernel_rfl, rfl, by simp [Value.cells, Value.oneCell'], by decide⟩
/-- The reference's table, in memory; its leaves lie in no block of Z. -/
structure RT (w : World) (x : Nat) (Z : Nat → Prop) (F root : Int) (L : Nat → Option Nat) (E : Nat → Int) : Prop where
  ex : ∃ A c, Blk w x (rrow F root (.slice A (lvL L).length c) E) ∧ Rw w 100 2 A (lvL L).length c (lv (lvL L)) ∧ ∀ k, blkOf A = some k → ¬ Z k
theorem RT.lt {w : World} {x : Nat} {Z : Nat → Prop} {F root : Int} {L : Nat → Option Nat} {E : Nat → Int} (h : RT w x Z F root L E) : x < w.heap.size := by obtain ⟨A, c, h, _⟩ := h.ex; exact h.lt
theorem RT.below {w w' : World} {x : Nat} {Z : Nat → Prop} {F root : Int} {L : Nat → Option Nat} {E : Nat → Int} (h : RT w x Z F root L E) (hb : Below w.heap.size w w') : RT w' x Z F root L E := by
  obtain ⟨A, c, h1, h2, h3⟩ := h.ex
  exact ⟨A, c, h1.below hb h1.lt, h2.below hb, h3⟩
theorem RT.only {w w' : World} {x b : Nat} {Z : Nat → Prop} {F root : Int} {L : Nat → Option Nat} {E : Nat → Int} (h : RT w x Z F root L E) (hg : w.grownBy w' (some b)) (hx : x ≠ b) (hZ : Z b) : RT w' x Z F root L E := by
  obtain ⟨A, c, h1, h2, h3⟩ := h.ex
  exact ⟨A, c, h1.only hg h1.lt hx, h2.heap fun k hk => hg.block k (h2.lt k hk) (fun e => by injection e with e; subst e; exact h3 _ hk hZ), h3⟩
theorem Rd.same {w w' : World} {A : Option Addr} {us : List Value} (h : Rd w A us) (hs : ∀ ad, A = some ad → w'.heap[ad.block]? = w.heap[ad.block]?) : Rd w' A us := by
  refine ⟨fun hne => ?_, h.2⟩
  obtain ⟨ad, e, h1⟩ := h.1 hne
  refine ⟨ad, e, fun j u hu => ?_⟩
  rw [← h1 j u hu]
  exact World.cell?_of_block (by rw [block_of_add]; exact hs ad e)
/-- The second cut, of what stands behind. -/
theorem cut_behind {w : World} {A : Option Addr} {n c i : Nat} {l : List (Nat × Nat)} (h : Rw w 100 2 A n c (lv l)) (hn : l.length = n) (hi : i ≤ n) : ∃ A', (∀ w : World, (Instr.slice 95 (.slice A n c) (some (.int .i64 (i : Int))) none none).run Try.prog w = .ok (.slice A' (n - i) (c - i)) w) ∧ Rd w A' (lv (l.drop i)) ∧ (A' = none → c - i = 0) ∧ (∀ ad, A' = some ad → blkOf A = some ad.block) := by
  rcases h.addr with ⟨rfl, rfl, rfl⟩ | ⟨b, rfl⟩
  · obtain rfl : i = 0 := by omega
    have : l = [] := List.length_eq_zero_iff.1 hn
    subst this
    refine ⟨none, fun w => ?_, Rd.nil _ _, fun _ => rfl, by simp⟩
    have := run_slice_l (P := Try.prog) w 95 none 0 0 (by rw [elT.elem]; exact elT.ht) .i64 ((0 : Nat) : Int) (by omega) (by omega)
    rw [this, elT.elem, elT.size w]
    rfl
  · obtain ⟨hle, hm⟩ := h.le
    obtain ⟨A', h1, h2, h3⟩ := cut_l elT b n c i hi hle hm
    refine ⟨A', h1, ?_, fun e => (by rw [e] at h3; cases h3), fun ad e => ?_⟩
    · by_cases hc : 0 < c - i
      · obtain rfl := h2 hc
        refine Rd.of_cells (fun j u hu => ?_) (lv_one _)
        rw [← lv_drop] at hu
        rw [List.getElem?_drop] at hu
        have hj : i * 2 + j < n * 2 := by
          have := (List.getElem?_eq_some_iff.1 hu).1
          rw [lv_len, hn] at this; exact this
        rw [h.cell _ hj]; exact hu
      · have : l.drop i = [] := List.drop_eq_nil_iff.2 (by omega)
        rw [this]; exact Rd.nil _ _
    · by_cases hc : 0 < c - i
      · rw [h2 hc] at e; injection e with e; subst e; rfl
      · have hq := run_slice_l (P := Try.prog) w 95 (some ⟨b, 0, none⟩) n c (by rw [elT.elem]; exact elT.ht) .i64 (i : Int) (by omega) (by omega)
        rw [h1 w, elT.elem, elT.size w] at hq
        have hci : c = i := by omega
        subst hci
        simp [sliced] at hq
        rw [hq] at e
        injection e with e
        subst e
        rfl
end Go.Proofs.Ytngjpokbjnjodaa
