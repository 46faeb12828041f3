import Derived.Test.YtmifomppnmhmpaaStep
/- Consoles, the program's and the reference's: what each call does. -/
namespace Go.Proofs.Ytmifomppnmhmpaa
open Go.RowKit
set_option linter.unusedVariables false
set_option linter.unusedSimpArgs false
attribute [local go_sem] szIs_lit row_at row_past row_alloc nf_alloc row_set nf_set row_cell nf_cell row_drew nf_drew row_drewN nf_drewN cell_setRow frozen_setRow nlt1 nlt2 nlt3 nlt4 nne1 nne2 nne3 nen1 nen2 nen3
attribute [local go_sem] rg_setf rg_setn rg_setm

abbrev Lay := Value → Bool → Value → Array Value
def rc : Lay := fun i e o => #[i, .bool e, o]
def u8s (Q : Nat → Int) : Nat → Value := fun i => .int .u8 (Q i)
/-- The blocks of a console. -/
def foot (g : Nat) (I O : Option Addr) (k : Nat) : Prop := k = g ∨ inB I = some k ∨ inB O = some k
structure Con (lay : Lay) (w : World) (base g : Nat) (I : Option Addr) (n ci : Nat) (P : Nat → Int) (en : Bool) (O : Option Addr) (q co : Nat) (R : Nat → Int) : Prop where
  blk : Blk w g (lay (.slice I n ci) en (.slice O q co))
  inp : Own w base 5 I n ci (u8s P)
  out : Own w base 5 O q co (u8s R)
  base : base ≤ g
  ig : inB I ≠ some g
  og : inB O ≠ some g
  io : ∀ k, inB I = some k → inB O ≠ some k
section
variable {lay : Lay} {w w' : World} {base g n ci q co : Nat} {I O : Option Addr} {P R : Nat → Int} {en : Bool}
theorem Con.foot_lt (h : Con lay w base g I n ci P en O q co R) {k : Nat} (hk : foot g I O k) : base ≤ k ∧ k < w.heap.size := by
  rcases hk with rfl | hk | hk
  · exact ⟨h.base, h.blk.lt⟩
  · exact h.inp.lt k hk
  · exact h.out.lt k hk
theorem Con.kept (h : Con lay w base g I n ci P en O q co R) (hk : ∀ k, foot g I O k → w'.heap[k]? = w.heap[k]?) : Con lay w' base g I n ci P en O q co R :=
  ⟨⟨(row_heap (hk g (.inl rfl))).trans h.blk.1, (nf_heap (hk g (.inl rfl))).trans h.blk.2⟩, h.inp.heap fun k e => hk k (.inr (.inl e)), h.out.heap fun k e => hk k (.inr (.inr e)), h.base, h.ig, h.og, h.io⟩
theorem Con.below (h : Con lay w base g I n ci P en O q co R) (hb : Below w.heap.size w w') : Con lay w' base g I n ci P en O q co R := h.kept fun k hk => hb.block k (h.foot_lt hk).2
end
/-- What a call of a console leaves. -/
structure FrC (w w' : World) (g : Nat) (I O I' O' : Option Addr) : Prop where
  os : w'.os = w.os
  tape : w'.tape = w.tape
  output : w'.output = w.output
  size : w.heap.size ≤ w'.heap.size
  block : ∀ k, k < w.heap.size → ¬ foot g I O k → w'.heap[k]? = w.heap[k]?
  new : ∀ k, foot g I' O' k → foot g I O k ∨ w.heap.size ≤ k
theorem FrC.refl (w : World) (g : Nat) (I O : Option Addr) : FrC w w g I O I O := ⟨rfl, rfl, rfl, Nat.le_refl _, fun _ _ _ => rfl, fun _ h => .inl h⟩
theorem FrC.below {lay : Lay} {w w' : World} {base g n ci q co : Nat} {I O I' O' : Option Addr} {P R : Nat → Int} {en : Bool} (hf : FrC w w' g I O I' O') (h : Con lay w base g I n ci P en O q co R) (hb : base ≤ w.heap.size) : Below base w w' :=
  ⟨hf.os, hf.tape, hf.output, hf.size, fun k hk => hf.block k (by omega) (fun e => by have := (h.foot_lt e).1; omega)⟩
theorem FrC.undrew {w w' : World} {g : Nat} {I O I' O' : Option Addr} (h : FrC w.drew w' g I O I' O') : FrC w w' g I O I' O' := ⟨h.os, h.tape, h.output, h.size, h.block, h.new⟩
theorem u8s_cat (P Y : Nat → Int) (n i : Nat) : catV (u8s P) n (u8s Y) i = u8s (cat P n Y) i := by unfold catV u8s cat; split <;> rfl
theorem clone_ok (A : Option Addr) (n c : Nat) (V : Nat → Value) (w : World) (h0 : A = none → n = 0) (hn : n ≤ 140737488355328) (hc : n ≤ c) (hR : RdV w A n V) : Calls Try.prog 42 #[.slice A n c] w fun e w' => ∃ A' c', e = .returned (.slice A' n c') ∧ Own w' w.heap.size 5 A' n c' V ∧ Below w.heap.size w w' := by
  cases A with
  | none =>
    obtain rfl := h0 rfl
    clear hR h0
    have e1 := fun (w : World) (c : Nat) => Lib.run_eql_slice_nil (P := Try.prog) w 26 5 none 0 c 0 0 u26
    go_enter Try.func42, Try.ntmps42
    go_wp2
    go_ret
    exact ⟨none, 0, by simp, Own.nil _ _ _ _, Below.refl _ _⟩
  | some ad =>
    have HR := Lib.hid hR
    have HL1 := Lib.hid (show 0 + n ≤ maxLen by unfold maxLen; omega)
    have HL2 := Lib.hid (show (0 + n) * 1 ≤ 140737488355328 by omega)
    clear hR h0
    have e1 := fun (w : World) => Lib.run_eql_slice_nil (P := Try.prog) w 26 5 (some ad) n c 0 0 u26
    go_enter Try.func42, Try.ntmps42
    go_wp2_with (at_builtin; go_must (refine wpList_app rfl (.tmp 5) (.tmp 6) 26 5 rfl (.int .u8 0) 1 ty26 i5 rfl w.heap.size _ _ _ rfl _ _ _ rfl (fun _ => .int .u8 0) (own_empty _ (heap_at rfl) (Nat.le_refl _)) V ?_ HL1.out HL2.out (by simp) ?_; (focus (exact rd_below HR.out ((Below.refl _ _).alloc (Nat.le_refl _) _))); intro A6 c6 w6 hO6 hg6 hb6; have HO6 := Lib.hid hO6; have HG6 := Lib.hid hg6; clear hO6 hg6 hb6))
    go_ret
    have h6 := HO6.out
    rw [Nat.zero_add] at h6
    exact ⟨A6, c6, by simp, h6.ext fun i hi => by unfold catV; rw [if_neg (by omega), Nat.sub_zero], below_new ((Below.refl _ _).alloc (Nat.le_refl _) _) HG6.out (Nat.le_refl _) (by simp)⟩
end Go.Proofs.Ytmifomppnmhmpaa
