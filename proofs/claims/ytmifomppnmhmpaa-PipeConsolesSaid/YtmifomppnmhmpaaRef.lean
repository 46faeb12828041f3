import Derived.Test.YtmifomppnmhmpaaOrder
import Derived.RegionTactic
import Derived.Deep.RegionLaw
import Derived.Deep.QuietTactic
import Derived.BigQuiet
/- The reference's pipe: its calls. -/
namespace Go.Proofs.Ytmifomppnmhmpaa
open Go.RowKit
set_option linter.unusedVariables false
set_option linter.unusedSimpArgs false
attribute [local go_sem] szIs_lit row_at row_past row_alloc nf_alloc row_set nf_set row_cell nf_cell row_drew nf_drew row_drewN nf_drewN cell_setRow frozen_setRow nlt1 nlt2 nlt3 nlt4 nne1 nne2 nne3 nen1 nen2 nen3
attribute [local go_sem] rg_setf rg_setn rg_setm

def rp (A : Option Addr) (n c : Nat) (r s : Int) : Array Value := #[.slice A n c, .int .i64 r, .int .i64 s]
theorem rnew (w : World) : Calls Try.prog 17 #[] w fun e w' => e = .returned (.pointer (some ⟨w.heap.size, 0, none⟩)) ∧ Blk w' w.heap.size (rp none 0 0 1 1) ∧ Below w.heap.size w w' := by
  go_enter Try.func17, Try.ntmps17
  go_wp2
  go_ret
  exact ⟨by simp, Blk.of_heap (heap_at rfl), (Below.refl _ _).alloc (Nat.le_refl _) _⟩
theorem ropen_t (x n c : Nat) (A : Option Addr) (r s : Int) (w : World) (h : Blk w x (rp A n c r s)) (h0 : 0 ≤ s) (h1 : s < 2147483647) : Calls Try.prog 31 #[.pointer (some ⟨x, 0, none⟩), .bool true] w fun e w' => e = .returned (.int .i64 0) ∧ Blk w' x (rp A n c r (s + 1)) ∧ w.grownBy w' (some x) := by
  obtain ⟨gr, gn, gc, gf⟩ := h.all
  have c0 := (gc 0).trans (show _ = some (.slice A n c) from rfl)
  have c1 := (gc 1).trans (show _ = some (.int .i64 r) from rfl)
  have c2 := (gc 2).trans (show _ = some (.int .i64 s) from rfl)
  have HB := Lib.hid h
  clear gc h
  go_enter Try.func31, Try.ntmps31
  go_wp2
  go_ret
  exact ⟨by first | (simp; done) | (simp; omega), HB.out.put 2 _, only_cell (only_refl _ _) _ _⟩
theorem ropen_f (x n c : Nat) (A : Option Addr) (r s : Int) (w : World) (h : Blk w x (rp A n c r s)) (h0 : 0 ≤ r) (h1 : r < 2147483647) : Calls Try.prog 31 #[.pointer (some ⟨x, 0, none⟩), .bool false] w fun e w' => e = .returned (.int .i64 0) ∧ Blk w' x (rp A n c (r + 1) s) ∧ w.grownBy w' (some x) := by
  obtain ⟨gr, gn, gc, gf⟩ := h.all
  have c0 := (gc 0).trans (show _ = some (.slice A n c) from rfl)
  have c1 := (gc 1).trans (show _ = some (.int .i64 r) from rfl)
  have c2 := (gc 2).trans (show _ = some (.int .i64 s) from rfl)
  have HB := Lib.hid h
  clear gc h
  go_enter Try.func31, Try.ntmps31
  go_wp2
  go_ret
  exact ⟨by first | (simp; done) | (simp; omega), HB.out.put 1 _, only_cell (only_refl _ _) _ _⟩
theorem rclose_t_none (x n c : Nat) (A : Option Addr) (r s : Int) (w : World) (h : Blk w x (rp A n c r s)) (h0 : s = 0) : Calls Try.prog 32 #[.pointer (some ⟨x, 0, none⟩), .bool true] w fun e w' => e = .returned (.tuple #[.bool false, .int .i64 4]) ∧ w = w' := by
  obtain ⟨gr, gn, gc, gf⟩ := h.all
  have c0 := (gc 0).trans (show _ = some (.slice A n c) from rfl)
  have c1 := (gc 1).trans (show _ = some (.int .i64 r) from rfl)
  have c2 := (gc 2).trans (show _ = some (.int .i64 s) from rfl)
  have HB := Lib.hid h
  clear gc h
  have n0 : (s == 0) = true := beq_iff_eq.2 h0
  clear h0
  go_enter Try.func32, Try.ntmps32
  go_wp2
  go_ret2
  exact ⟨by first | (simp; done) | (simp; omega), rfl⟩
theorem rclose_t_z (x n c : Nat) (A : Option Addr) (r s : Int) (w : World) (h : Blk w x (rp A n c r s)) (h0 : 0 < s) (h1 : s ≤ 2147483647) (h2 : r = 0) : Calls Try.prog 32 #[.pointer (some ⟨x, 0, none⟩), .bool true] w fun e w' => e = .returned (.tuple #[.bool (s - 1 == 0), .int .i64 0]) ∧ Blk w' x (rp A n c r (s - 1)) ∧ w.grownBy w' (some x) := by
  obtain ⟨gr, gn, gc, gf⟩ := h.all
  have c0 := (gc 0).trans (show _ = some (.slice A n c) from rfl)
  have c1 := (gc 1).trans (show _ = some (.int .i64 r) from rfl)
  have c2 := (gc 2).trans (show _ = some (.int .i64 s) from rfl)
  have HB := Lib.hid h
  clear gc h
  have n0 : (s == 0) = false := beq_eq_false_iff_ne.2 (by omega)
  have n2 : (r == 0) = true := beq_iff_eq.2 h2
  clear h2
  go_enter Try.func32, Try.ntmps32
  go_wp2
  go_ret2
  exact ⟨by first | (simp; done) | (simp; omega), HB.out.put 2 _, only_cell (only_refl _ _) _ _⟩
theorem rclose_t_p (x n c : Nat) (A : Option Addr) (r s : Int) (w : World) (h : Blk w x (rp A n c r s)) (h0 : 0 < s) (h1 : s ≤ 2147483647) (h2 : 0 < r) : Calls Try.prog 32 #[.pointer (some ⟨x, 0, none⟩), .bool true] w fun e w' => e = .returned (.tuple #[.bool (false), .int .i64 0]) ∧ Blk w' x (rp A n c r (s - 1)) ∧ w.grownBy w' (some x) := by
  obtain ⟨gr, gn, gc, gf⟩ := h.all
  have c0 := (gc 0).trans (show _ = some (.slice A n c) from rfl)
  have c1 := (gc 1).trans (show _ = some (.int .i64 r) from rfl)
  have c2 := (gc 2).trans (show _ = some (.int .i64 s) from rfl)
  have HB := Lib.hid h
  clear gc h
  have n0 : (s == 0) = false := beq_eq_false_iff_ne.2 (by omega)
  have n2 : (r == 0) = false := beq_eq_false_iff_ne.2 (by omega)
  go_enter Try.func32, Try.ntmps32
  go_wp2
  go_ret2
  exact ⟨by first | (simp; done) | (simp; omega), HB.out.put 2 _, only_cell (only_refl _ _) _ _⟩
theorem rclose_f_none (x n c : Nat) (A : Option Addr) (r s : Int) (w : World) (h : Blk w x (rp A n c r s)) (h0 : r = 0) : Calls Try.prog 32 #[.pointer (some ⟨x, 0, none⟩), .bool false] w fun e w' => e = .returned (.tuple #[.bool false, .int .i64 4]) ∧ w = w' := by
  obtain ⟨gr, gn, gc, gf⟩ := h.all
  have c0 := (gc 0).trans (show _ = some (.slice A n c) from rfl)
  have c1 := (gc 1).trans (show _ = some (.int .i64 r) from rfl)
  have c2 := (gc 2).trans (show _ = some (.int .i64 s) from rfl)
  have HB := Lib.hid h
  clear gc h
  have n0 : (r == 0) = true := beq_iff_eq.2 h0
  clear h0
  go_enter Try.func32, Try.ntmps32
  go_wp2
  go_ret2
  exact ⟨by first | (simp; done) | (simp; omega), rfl⟩
theorem rclose_f_p (x n c : Nat) (A : Option Addr) (r s : Int) (w : World) (h : Blk w x (rp A n c r s)) (h0 : 1 < r) (h1 : r ≤ 2147483647) : Calls Try.prog 32 #[.pointer (some ⟨x, 0, none⟩), .bool false] w fun e w' => e = .returned (.tuple #[.bool false, .int .i64 0]) ∧ Blk w' x (rp A n c (r - 1) s) ∧ w.grownBy w' (some x) := by
  obtain ⟨gr, gn, gc, gf⟩ := h.all
  have c0 := (gc 0).trans (show _ = some (.slice A n c) from rfl)
  have c1 := (gc 1).trans (show _ = some (.int .i64 r) from rfl)
  have c2 := (gc 2).trans (show _ = some (.int .i64 s) from rfl)
  have HB := Lib.hid h
  clear gc h
  have n0 : (r == 0) = false := beq_eq_false_iff_ne.2 (by omega)
  have n1 : (r - 1 == 0) = false := beq_eq_false_iff_ne.2 (by omega)
  go_enter Try.func32, Try.ntmps32
  go_wp2
  go_ret2
  exact ⟨by first | (simp; done) | (simp; omega), HB.out.put 1 _, only_cell (only_refl _ _) _ _⟩
theorem rclose_f_z (x n c : Nat) (A : Option Addr) (s : Int) (w : World) (h : Blk w x (rp A n c 1 s))  : Calls Try.prog 32 #[.pointer (some ⟨x, 0, none⟩), .bool false] w fun e w' => e = .returned (.tuple #[.bool (s == 0), .int .i64 0]) ∧ Blk w' x (rp A n c 0 s) ∧ w.grownBy w' (some x) := by
  obtain ⟨gr, gn, gc, gf⟩ := h.all
  have c0 := (gc 0).trans (show _ = some (.slice A n c) from rfl)
  have c1 := (gc 1).trans (show _ = some (.int .i64 1) from rfl)
  have c2 := (gc 2).trans (show _ = some (.int .i64 s) from rfl)
  have HB := Lib.hid h
  clear gc h
  go_enter Try.func32, Try.ntmps32
  go_wp2
  go_ret2
  exact ⟨by first | (simp; done) | (simp; omega), HB.out.put 1 _, only_cell (only_refl _ _) _ _⟩
theorem rready_w0 (x n c : Nat) (A : Option Addr) (r s : Int) (w : World) (h : Blk w x (rp A n c r s)) (h0 : r = 0) : Calls Try.prog 36 #[.pointer (some ⟨x, 0, none⟩), .bool true] w fun e w' => e = .returned (.bool true) ∧ w = w' := by
  obtain ⟨gr, gn, gc, gf⟩ := h.all
  have c0 := (gc 0).trans (show _ = some (.slice A n c) from rfl)
  have c1 := (gc 1).trans (show _ = some (.int .i64 r) from rfl)
  have c2 := (gc 2).trans (show _ = some (.int .i64 s) from rfl)
  have HB := Lib.hid h
  clear gc h
  have n0 : (r == 0) = true := beq_iff_eq.2 h0
  clear h0
  go_enter Try.func36, Try.ntmps36
  go_wp2
  go_ret
  exact ⟨by first | (simp; done) | (simp; omega), rfl⟩
theorem rready_w1 (x n c : Nat) (A : Option Addr) (r s : Int) (w : World) (h : Blk w x (rp A n c r s)) (h0 : 0 < r) (h1 : n < 512) : Calls Try.prog 36 #[.pointer (some ⟨x, 0, none⟩), .bool true] w fun e w' => e = .returned (.bool true) ∧ w = w' := by
  obtain ⟨gr, gn, gc, gf⟩ := h.all
  have c0 := (gc 0).trans (show _ = some (.slice A n c) from rfl)
  have c1 := (gc 1).trans (show _ = some (.int .i64 r) from rfl)
  have c2 := (gc 2).trans (show _ = some (.int .i64 s) from rfl)
  have HB := Lib.hid h
  clear gc h
  have n0 : (r == 0) = false := beq_eq_false_iff_ne.2 (by omega)
  go_enter Try.func36, Try.ntmps36
  go_wp2
  go_ret
  exact ⟨by first | (simp; done) | (simp; omega), rfl⟩
theorem rready_w2 (x n c : Nat) (A : Option Addr) (r s : Int) (w : World) (h : Blk w x (rp A n c r s)) (h0 : 0 < r) (h1 : n = 512) : Calls Try.prog 36 #[.pointer (some ⟨x, 0, none⟩), .bool true] w fun e w' => e = .returned (.bool false) ∧ w = w' := by
  obtain ⟨gr, gn, gc, gf⟩ := h.all
  have c0 := (gc 0).trans (show _ = some (.slice A n c) from rfl)
  have c1 := (gc 1).trans (show _ = some (.int .i64 r) from rfl)
  have c2 := (gc 2).trans (show _ = some (.int .i64 s) from rfl)
  have HB := Lib.hid h
  clear gc h
  have n0 : (r == 0) = false := beq_eq_false_iff_ne.2 (by omega)
  have n1 : ¬ n < 512 := by omega
  clear h1
  go_enter Try.func36, Try.ntmps36
  go_wp2
  go_ret
  exact ⟨by first | (simp; done) | (simp; omega), rfl⟩
theorem rready_r0 (x n c : Nat) (A : Option Addr) (r s : Int) (w : World) (h : Blk w x (rp A n c r s)) (h0 : s = 0) : Calls Try.prog 36 #[.pointer (some ⟨x, 0, none⟩), .bool false] w fun e w' => e = .returned (.bool true) ∧ w = w' := by
  obtain ⟨gr, gn, gc, gf⟩ := h.all
  have c0 := (gc 0).trans (show _ = some (.slice A n c) from rfl)
  have c1 := (gc 1).trans (show _ = some (.int .i64 r) from rfl)
  have c2 := (gc 2).trans (show _ = some (.int .i64 s) from rfl)
  have HB := Lib.hid h
  clear gc h
  have n0 : (s == 0) = true := beq_iff_eq.2 h0
  clear h0
  go_enter Try.func36, Try.ntmps36
  go_wp2
  go_ret
  exact ⟨by first | (simp; done) | (simp; omega), rfl⟩
theorem rready_r1 (x n c : Nat) (A : Option Addr) (r s : Int) (w : World) (h : Blk w x (rp A n c r s)) (h0 : 0 < s) (h1 : 0 < n) : Calls Try.prog 36 #[.pointer (some ⟨x, 0, none⟩), .bool false] w fun e w' => e = .returned (.bool true) ∧ w = w' := by
  obtain ⟨gr, gn, gc, gf⟩ := h.all
  have c0 := (gc 0).trans (show _ = some (.slice A n c) from rfl)
  have c1 := (gc 1).trans (show _ = some (.int .i64 r) from rfl)
  have c2 := (gc 2).trans (show _ = some (.int .i64 s) from rfl)
  have HB := Lib.hid h
  clear gc h
  have n0 : (s == 0) = false := beq_eq_false_iff_ne.2 (by omega)
  go_enter Try.func36, Try.ntmps36
  go_wp2
  go_ret
  exact ⟨by first | (simp; done) | (simp; omega), rfl⟩
theorem rready_r2 (x n c : Nat) (A : Option Addr) (r s : Int) (w : World) (h : Blk w x (rp A n c r s)) (h0 : 0 < s) (h1 : n = 0) : Calls Try.prog 36 #[.pointer (some ⟨x, 0, none⟩), .bool false] w fun e w' => e = .returned (.bool false) ∧ w = w' := by
  obtain ⟨gr, gn, gc, gf⟩ := h.all
  have c0 := (gc 0).trans (show _ = some (.slice A n c) from rfl)
  have c1 := (gc 1).trans (show _ = some (.int .i64 r) from rfl)
  have c2 := (gc 2).trans (show _ = some (.int .i64 s) from rfl)
  have HB := Lib.hid h
  clear gc h
  have n0 : (s == 0) = false := beq_eq_false_iff_ne.2 (by omega)
  have n1 : ¬ 0 < n := by omega
  clear h1
  go_enter Try.func36, Try.ntmps36
  go_wp2
  go_ret
  exact ⟨by first | (simp; done) | (simp; omega), rfl⟩
theorem rwrite_shut (x n c : Nat) (A : Option Addr) (r s : Int) (w : World) (h : Blk w x (rp A n c r s)) (A2 : Option Addr) (m c2 : Nat) (h0 : r = 0) : Calls Try.prog 35 #[.pointer (some ⟨x, 0, none⟩), .slice A2 m c2] w fun e w' => e = .returned (.tuple #[.int .i64 0, .int .i64 210]) ∧ w = w' := by
  obtain ⟨gr, gn, gc, gf⟩ := h.all
  have c0 := (gc 0).trans (show _ = some (.slice A n c) from rfl)
  have c1 := (gc 1).trans (show _ = some (.int .i64 r) from rfl)
  have c2' := (gc 2).trans (show _ = some (.int .i64 s) from rfl)
  have HB := Lib.hid h
  clear gc h
  have n0 : (r == 0) = true := beq_iff_eq.2 h0
  clear h0
  go_enter Try.func35, Try.ntmps35
  go_wp2
  go_ret2
  exact ⟨by first | (simp; done) | (simp; omega), rfl⟩
theorem rwrite_none (x n c : Nat) (A : Option Addr) (r s : Int) (w : World) (h : Blk w x (rp A n c r s)) (A2 : Option Addr) (m c2 : Nat) (h0 : 0 < r) (hm : m = 0) : Calls Try.prog 35 #[.pointer (some ⟨x, 0, none⟩), .slice A2 m c2] w fun e w' => e = .returned (.tuple #[.int .i64 0, .int .i64 0]) ∧ w = w' := by
  obtain ⟨gr, gn, gc, gf⟩ := h.all
  have c0 := (gc 0).trans (show _ = some (.slice A n c) from rfl)
  have c1 := (gc 1).trans (show _ = some (.int .i64 r) from rfl)
  have c2' := (gc 2).trans (show _ = some (.int .i64 s) from rfl)
  have HB := Lib.hid h
  clear gc h
  have n0 : (r == 0) = false := beq_eq_false_iff_ne.2 (by omega)
  have n1 : ((m : Int) == 0) = true := beq_iff_eq.2 (by omega)
  clear hm
  go_enter Try.func35, Try.ntmps35
  go_wp2
  go_ret2
  exact ⟨by first | (simp; done) | (simp; omega), rfl⟩
theorem rwrite_full (x n c : Nat) (A : Option Addr) (r s : Int) (w : World) (h : Blk w x (rp A n c r s)) (A2 : Option Addr) (m c2 : Nat) (h0 : 0 < r) (hm : 0 < m) (hn : n = 512) : Calls Try.prog 35 #[.pointer (some ⟨x, 0, none⟩), .slice A2 m c2] w fun e w' => e = .returned (.tuple #[.int .i64 0, .int .i64 211]) ∧ w = w' := by
  obtain ⟨gr, gn, gc, gf⟩ := h.all
  have c0 := (gc 0).trans (show _ = some (.slice A n c) from rfl)
  have c1 := (gc 1).trans (show _ = some (.int .i64 r) from rfl)
  have c2' := (gc 2).trans (show _ = some (.int .i64 s) from rfl)
  have HB := Lib.hid h
  clear gc h
  have n0 : (r == 0) = false := beq_eq_false_iff_ne.2 (by omega)
  have n1 : ((m : Int) == 0) = false := beq_eq_false_iff_ne.2 (by omega)
  have n2 : (512 - (n : Int) == 0) = true := beq_iff_eq.2 (by omega)
  have n3 : n ≤ 512 := by omega
  clear hn
  go_enter Try.func35, Try.ntmps35
  go_wp2
  go_ret2
  exact ⟨by first | (simp; done) | (simp; omega), rfl⟩
theorem rread_neg (x n c : Nat) (A : Option Addr) (r s : Int) (w : World) (h : Blk w x (rp A n c r s)) (N : Int) (h0 : N < 0) : Calls Try.prog 33 #[.pointer (some ⟨x, 0, none⟩), .int .i64 N] w fun e w' => e = .returned (.tuple #[.slice none 0 0, .int .i64 1]) ∧ w = w' := by
  obtain ⟨gr, gn, gc, gf⟩ := h.all
  have c0 := (gc 0).trans (show _ = some (.slice A n c) from rfl)
  have c1 := (gc 1).trans (show _ = some (.int .i64 r) from rfl)
  have c2 := (gc 2).trans (show _ = some (.int .i64 s) from rfl)
  have HB := Lib.hid h
  clear gc h
  go_enter Try.func33, Try.ntmps33
  go_wp2
  go_ret2
  exact ⟨by first | (simp; done) | (simp; omega), rfl⟩
theorem rread_zero (x n c : Nat) (A : Option Addr) (r s : Int) (w : World) (h : Blk w x (rp A n c r s)) (N : Int) (h0 : N = 0) : Calls Try.prog 33 #[.pointer (some ⟨x, 0, none⟩), .int .i64 N] w fun e w' => e = .returned (.tuple #[.slice none 0 0, .int .i64 0]) ∧ w = w' := by
  obtain ⟨gr, gn, gc, gf⟩ := h.all
  have c0 := (gc 0).trans (show _ = some (.slice A n c) from rfl)
  have c1 := (gc 1).trans (show _ = some (.int .i64 r) from rfl)
  have c2 := (gc 2).trans (show _ = some (.int .i64 s) from rfl)
  have HB := Lib.hid h
  clear gc h
  subst h0
  go_enter Try.func33, Try.ntmps33
  go_wp2
  go_ret2
  exact ⟨by first | (simp; done) | (simp; omega), rfl⟩
theorem rread_end (x n c : Nat) (A : Option Addr) (r s : Int) (w : World) (h : Blk w x (rp A n c r s)) (N : Int) (h0 : 0 < N) (h1 : n = 0) (h2 : s = 0) : Calls Try.prog 33 #[.pointer (some ⟨x, 0, none⟩), .int .i64 N] w fun e w' => e = .returned (.tuple #[.slice none 0 0, .int .i64 0]) ∧ w = w' := by
  obtain ⟨gr, gn, gc, gf⟩ := h.all
  have c0 := (gc 0).trans (show _ = some (.slice A n c) from rfl)
  have c1 := (gc 1).trans (show _ = some (.int .i64 r) from rfl)
  have c2 := (gc 2).trans (show _ = some (.int .i64 s) from rfl)
  have HB := Lib.hid h
  clear gc h
  have n0 : (N == 0) = false := beq_eq_false_iff_ne.2 (by omega)
  have n1 : ((n : Int) == 0) = true := beq_iff_eq.2 (by omega)
  have n2 : (s == 0) = true := beq_iff_eq.2 h2
  clear h1 h2
  go_enter Try.func33, Try.ntmps33
  go_wp2
  go_ret2
  exact ⟨by first | (simp; done) | (simp; omega), rfl⟩
theorem rread_wait (x n c : Nat) (A : Option Addr) (r s : Int) (w : World) (h : Blk w x (rp A n c r s)) (N : Int) (h0 : 0 < N) (h1 : n = 0) (h2 : 0 < s) : Calls Try.prog 33 #[.pointer (some ⟨x, 0, none⟩), .int .i64 N] w fun e w' => e = .returned (.tuple #[.slice none 0 0, .int .i64 211]) ∧ w = w' := by
  obtain ⟨gr, gn, gc, gf⟩ := h.all
  have c0 := (gc 0).trans (show _ = some (.slice A n c) from rfl)
  have c1 := (gc 1).trans (show _ = some (.int .i64 r) from rfl)
  have c2 := (gc 2).trans (show _ = some (.int .i64 s) from rfl)
  have HB := Lib.hid h
  clear gc h
  have n0 : (N == 0) = false := beq_eq_false_iff_ne.2 (by omega)
  have n1 : ((n : Int) == 0) = true := beq_iff_eq.2 (by omega)
  have n2 : (s == 0) = false := beq_eq_false_iff_ne.2 (by omega)
  clear h1
  go_enter Try.func33, Try.ntmps33
  go_wp2
  go_ret2
  exact ⟨by first | (simp; done) | (simp; omega), rfl⟩
end Go.Proofs.Ytmifomppnmhmpaa
