import Derived.Test.YthbbiobffoihaaaNil
import Derived.Test.YthbbiobffoihaaaPMap
import Derived.Test.YthbbiobffoihaaaHpRow
import Derived.Test.YthbbiobffoihaaaFreeT
/- Open files: where they lie, what they say; New, made, find, Move, Get. -/
namespace Go.Proofs.Ythbbiobffoihaaa
open Go.RowKit Go.BigFrame
set_option linter.unusedVariables false
set_option linter.unusedSimpArgs false
attribute [local go_sem] szIs_lit row_at row_past row_alloc nf_alloc row_set nf_set row_cell nf_cell row_drew nf_drew row_drewN nf_drewN cell_setRow frozen_setRow nlt1 nlt2 nlt3 nlt4 nne1 nne2 nne3 nen1 nen2 nen3
set_option maxRecDepth 20000
theorem ty50 : Try.prog.underlying 50 = some (.map 3 70) := by kernel_rfl
theorem ty3 : Try.prog.underlying 3 = some (.int .i64) := by kernel_rfl
theorem zero70 (w : World) : (zeroValue 70).run Try.prog w = .ok (.pointer none) w := by kernel_rfl
theorem intT : ElT Try.prog 56 3 1 8 (.int .i64 0) := ⟨by kernel_rfl, by kernel_rfl, rfl, by simp [Value.cells, Value.oneCell'], by decide⟩
def iv (l : List Int) : List Value := l.map (.int .i64)
theorem iv_len (l : List Int) : (iv l).length = l.length := by simp [iv]
theorem iv_one (l : List Int) : ∀ v ∈ iv l, v.oneCell' = true := by
  intro v hv; obtain ⟨x, _, rfl⟩ := List.mem_map.1 hv; rfl
theorem iv_get {l : List Int} {j : Nat} {x : Int} (h : l[j]? = some x) : (iv l)[j]? = some (.int .i64 x) := by simp [iv, h]
theorem ret_int {k : IntKind} {a b : Int} (h : a = b) : Ending.returned (.int k a) = .returned (.int k b) := by rw [h]
theorem ret_bool {a b : Bool} (h : a = b) : Ending.returned (.bool a) = .returned (.bool b) := by rw [h]
/-- An open file. -/
structure Fl where
  kd : Int
  wh : Int
  at_ : Int
  fg : Int
  rf : Int
  deriving DecidableEq
def Fl.cells (f : Fl) : Array Value := #[.int .i64 f.kd, .int .i64 f.wh, .int .i64 f.at_, .int .i64 f.fg, .int .i64 f.rf]
def Fl.zero : Fl := ⟨0, 0, 0, 0, 0⟩
structure FR (w : World) (g m : Nat) (L : PL Fl) : Prop where
  blk : Blk w g #[.map (some m)]
  pm : PMap Fl.cells w m L
  gm : ¬ PL.foot m L g
  ids : ∀ x ∈ PL.ks L, 0 ≤ x ∧ x < 64
section
variable {w w' : World} {g m : Nat} {L : PL Fl}
def FR.all (g m : Nat) (L : PL Fl) (k : Nat) : Prop := k = g ∨ PL.foot m L k
theorem FR.lt (h : FR w g m L) {k : Nat} (hk : FR.all g m L k) : k < w.heap.size := by
  rcases hk with rfl | hk
  · exact h.blk.lt
  · exact h.pm.foot_lt hk
theorem FR.same (h : FR w g m L) (hk : ∀ k, FR.all g m L k → w'.heap[k]? = w.heap[k]?) : FR w' g m L := ⟨h.blk.same (hk g (.inl rfl)), h.pm.same fun k q => hk k (.inr q), h.gm, h.ids⟩
theorem FR.ch {F : Nat → Prop} (h : FR w g m L) (hc : Ch F w w') (hF : ∀ k, FR.all g m L k → ¬ F k) : FR w' g m L := h.same fun k hk => hc.block k (h.lt hk) (hF k hk)
theorem FR.below (h : FR w g m L) (hb : Below w.heap.size w w') : FR w' g m L := h.same fun k hk => hb.block k (h.lt hk)
theorem FR.alloc (h : FR w g m L) (o : Obj) : FR (w.alloc o) g m L := h.below ((Below.refl _ _).alloc (Nat.le_refl _) _)
theorem FR.drew (h : FR w g m L) : FR w.drew g m L := h.same fun _ _ => rfl
theorem FR.drewN (h : FR w g m L) (n : Nat) : FR (w.drewN n) g m L := h.same fun _ _ => rfl
theorem FR.c0 (h : FR w g m L) : w.cell? ⟨g, 0, none⟩ = some (.map (some m)) := (h.blk.all.2.2.1 0).trans rfl
theorem FR.look (h : FR w g m L) (x : Int) : (Instr.lookup 50 (.map (some m)) (.int .i64 x) false).run Try.prog w = .ok (.pointer ((PL.get L x).map fun q => ⟨q.1, 0, none⟩)) w := h.pm.lookup ty50 ty3 (zero70 w) x
theorem FR.look_yes (h : FR w g m L) {x : Int} {b : Nat} {f : Fl} (hg : PL.get L x = some (b, f)) : (Instr.lookup 50 (.map (some m)) (.int .i64 x) false).run Try.prog w = .ok (.pointer (some ⟨b, 0, none⟩)) w := by rw [h.look x, hg]; rfl
theorem FR.look_no (h : FR w g m L) {x : Int} (hg : PL.get L x = none) : (Instr.lookup 50 (.map (some m)) (.int .i64 x) false).run Try.prog w = .ok (.pointer none) w := by rw [h.look x, hg]; rfl
theorem FR.cells (h : FR w g m L) {x : Int} {b : Nat} {f : Fl} (hg : PL.get L x = some (b, f)) : w.cell? ⟨b, 0, none⟩ = some (.int .i64 f.kd) ∧ w.cell? ⟨b, 1, none⟩ = some (.int .i64 f.wh) ∧ w.cell? ⟨b, 2, none⟩ = some (.int .i64 f.at_) ∧ w.cell? ⟨b, 3, none⟩ = some (.int .i64 f.fg) ∧ w.cell? ⟨b, 4, none⟩ = some (.int .i64 f.rf) ∧ (∀ i, w.frozen? ⟨b, i, none⟩ = false) ∧ row w b = #[.int .i64 f.kd, .int .i64 f.wh, .int .i64 f.at_, .int .i64 f.fg, .int .i64 f.rf] ∧ nf w b = true := by
  obtain ⟨r1, r2, r3, r4⟩ := (h.pm.row hg).all
  exact ⟨(r3 0).trans rfl, (r3 1).trans rfl, (r3 2).trans rfl, (r3 3).trans rfl, (r3 4).trans rfl, r4, r1, r2⟩
theorem PL.get_in {α : Type} {L : PL α} {x : Int} {q : Nat × α} (h : PL.get L x = some q) : x ∈ PL.ks L := List.mem_map_of_mem (f := fun p : Int × Nat × α => p.1) (PL.get_mem h)
theorem PL.get_bs {α : Type} {L : PL α} {x : Int} {b : Nat} {a : α} (h : PL.get L x = some (b, a)) : b ∈ PL.bs L := List.mem_map_of_mem (f := fun p : Int × Nat × α => p.2.1) (PL.get_mem h)
theorem FR.set (h : FR w g m L) {x : Int} {b : Nat} {f f' : Fl} {i : Nat} {v : Value} (hg : PL.get L x = some (b, f)) (hc : f.cells.setIfInBounds i v = f'.cells) : FR (w.setCell ⟨b, i, none⟩ v) g m (PL.set L x f') := by
  have hb := PL.get_bs hg
  refine ⟨h.blk.same (heap_setCell_other w ⟨b, i, none⟩ g v fun e => h.gm (.inr (by rw [e]; exact hb))), h.pm.store hg hc, ?_, ?_⟩
  · unfold PL.foot; rw [PL.bs_set]; exact h.gm
  · rw [PL.ks_set]; exact h.ids
theorem FR.ch_set {x : Int} {b i : Nat} {f : Fl} {v : Value} (hg : PL.get L x = some (b, f)) : Ch (PL.foot m L) w (w.setCell ⟨b, i, none⟩ v) := (Ch.refl _ _).cell _ _ fun _ => .inr (PL.get_bs hg)
theorem made_ok (h : FR w g m L) : Calls Try.prog 27 #[.pointer (some ⟨g, 0, none⟩)] w fun e w' => e = .returned (.bool true) ∧ w = w' := by
  have c0 := h.c0
  have hq := fun w => neq50_some m w
  clear h
  go_enter Try.func27, Try.ntmps27
  go_wp2
  go_ret
  exact ⟨by first | rfl | simp, rfl⟩
theorem find_yes (h : FR w g m L) {x : Int} {b : Nat} {f : Fl} (hg : PL.get L x = some (b, f)) : Calls Try.prog 28 #[.pointer (some ⟨g, 0, none⟩), .int .i64 x] w fun e w' => e = .returned (.tuple #[.pointer (some ⟨b, 0, none⟩), .int .i64 0]) ∧ w = w' := by
  have HM := Lib.hid (made_ok h)
  have c0 := h.c0
  have hl := h.look_yes hg
  clear h hg
  go_enter Try.func28, Try.ntmps28
  go_wp2_with fail
  refine HM.out.mono ?_
  rintro e w' ⟨rfl, rfl⟩
  go_wp2
  go_ret2
  exact ⟨by first | rfl | simp, rfl⟩
theorem find_no (h : FR w g m L) {x : Int} (hg : PL.get L x = none) : Calls Try.prog 28 #[.pointer (some ⟨g, 0, none⟩), .int .i64 x] w fun e w' => e = .returned (.tuple #[.pointer none, .int .i64 221]) ∧ w = w' := by
  have HM := Lib.hid (made_ok h)
  have c0 := h.c0
  have hl := h.look_no hg
  clear h hg
  go_enter Try.func28, Try.ntmps28
  go_wp2_with fail
  refine HM.out.mono ?_
  rintro e w' ⟨rfl, rfl⟩
  go_wp2
  go_ret2
  exact ⟨by first | rfl | simp, rfl⟩
theorem move_no (h : FR w g m L) {x : Int} (hg : PL.get L x = none) (a : Int) : Calls Try.prog 14 #[.pointer (some ⟨g, 0, none⟩), .int .i64 x, .int .i64 a] w fun e w' => e = .returned (.int .i64 221) ∧ w = w' := by
  have HM := Lib.hid (find_no h hg)
  clear h hg
  go_enter Try.func14, Try.ntmps14
  go_wp2_with fail
  refine HM.out.mono ?_
  rintro e w' ⟨rfl, rfl⟩
  go_wp2
  go_ret
  exact ⟨by first | rfl | simp, rfl⟩
theorem move_neg (h : FR w g m L) {x : Int} {b : Nat} {f : Fl} (hg : PL.get L x = some (b, f)) (a : Int) (ha : a < 0) : Calls Try.prog 14 #[.pointer (some ⟨g, 0, none⟩), .int .i64 x, .int .i64 a] w fun e w' => e = .returned (.int .i64 1) ∧ w = w' := by
  have HM := Lib.hid (find_yes h hg)
  clear h hg
  go_enter Try.func14, Try.ntmps14
  go_wp2_with fail
  refine HM.out.mono ?_
  rintro e w' ⟨rfl, rfl⟩
  go_wp2
  go_ret
  exact ⟨by first | rfl | simp, rfl⟩
theorem move_yes (h : FR w g m L) {x : Int} {b : Nat} {f : Fl} (hg : PL.get L x = some (b, f)) (a : Int) (ha : 0 ≤ a) : Calls Try.prog 14 #[.pointer (some ⟨g, 0, none⟩), .int .i64 x, .int .i64 a] w fun e w' => e = .returned (.int .i64 0) ∧ FR w' g m (PL.set L x { f with at_ := a }) ∧ Ch (PL.foot m L) w w' := by
  have HM := Lib.hid (find_yes h hg)
  obtain ⟨_, _, c2, _, _, cf, _, _⟩ := h.cells hg
  have HS := Lib.hid (And.intro (h.set (i := 2) (v := .int .i64 a) (f' := { f with at_ := a }) hg rfl) (FR.ch_set (w := w) (m := m) (i := 2) (v := .int .i64 a) hg))
  clear h hg
  go_enter Try.func14, Try.ntmps14
  go_wp2_with fail
  refine HM.out.mono ?_
  rintro e w' ⟨rfl, rfl⟩
  go_wp2
  go_ret
  exact ⟨by first | rfl | simp, HS.out⟩
end
end Go.Proofs.Ythbbiobffoihaaa
