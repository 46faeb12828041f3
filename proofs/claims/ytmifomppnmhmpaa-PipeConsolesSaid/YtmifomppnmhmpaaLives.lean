import Derived.Test.YtmifomppnmhmpaaIo
import Derived.Laws.BytesArg
import Derived.Laws.BytesString
import Derived.Lib.SlBytesConst
/- lives, and what it needs of the console; bytes as strings. -/
namespace Go.Proofs.Ytmifomppnmhmpaa
open Go.RowKit
set_option linter.unusedVariables false
set_option linter.unusedSimpArgs false
attribute [local go_sem] szIs_lit row_at row_past row_alloc nf_alloc row_set nf_set row_cell nf_cell row_drew nf_drew row_drewN nf_drewN cell_setRow frozen_setRow nlt1 nlt2 nlt3 nlt4 nne1 nne2 nne3 nen1 nen2 nen3
attribute [local go_sem] rg_setf rg_setn rg_setm

def strOf (Q : Nat → Int) (n : Nat) : ByteArray := strOfNums ((List.range n).map Q)
theorem strOf_congr (Q Y : Nat → Int) (n : Nat) (h : ∀ i, i < n → Q i = Y i) : strOf Q n = strOf Y n := by
  unfold strOf
  congr 1
  exact List.map_congr_left fun i hi => h i (List.mem_range.1 hi)
/-- Bytes that can be read: where they lie is open. -/
def Rd (w : World) (A : Option Addr) (n : Nat) (Q : Nat → Int) : Prop := 0 < n → ∃ ad, A = some ad ∧ ∀ i, i < n → w.cell? (ad.add i) = some (.int .u8 (Q i))
theorem conv9 (w : World) (A : Option Addr) (n cap : Nat) (Q : Nat → Int) (h : Rd w A n Q) : (convert 26 9 (.slice A n cap)).run Try.prog w = .ok (.string (strOf Q n)) w := by
  have h9 : Try.prog.underlying 9 = some .string := by kernel_rfl
  have h5 : Try.prog.underlying 5 = some (.int .u8) := by kernel_rfl
  rcases Nat.eq_zero_or_pos n with rfl | hn
  · rw [run_convert_bytes_string w 26 9 5 A 0 cap u26 h5 h9]
    cases A with
    | none => simp [Conv.bytesToString]; rfl
    | some ad =>
      have hl : (loadCells ad 0).run Try.prog w = .ok (([] : List Int).map (Value.int .u8)).toArray w := by
        simpa using run_loadCells_list (P := Try.prog) w ad [] (fun j v hj => by simp at hj)
      rw [run_bytesToString w ad 0 cap [] hl]; rfl
  · obtain ⟨ad, rfl, hc⟩ := h hn
    have hl : (loadCells ad n).run Try.prog w = .ok (((List.range n).map Q).map (Value.int .u8)).toArray w := by
      have := run_loadCells_list (P := Try.prog) w ad (((List.range n).map Q).map (Value.int .u8)) (fun j v hj => by
        have hjn : j < n := by have := (List.getElem?_eq_some_iff.1 hj).1; simpa using this
        rw [hc j hjn]
        simpa [hjn] using hj)
      simpa using this
    rw [run_convert_bytes_string w 26 9 5 (some ad) n cap u26 h5 h9, run_bytesToString w _ n cap _ hl, foldl_push_bytes]
    simp [strOf, strOfNums, ByteArray.empty, ByteArray.emptyWithCapacity]
    rfl
theorem Rd.of_blk {w : World} {g n : Nat} {Q : Nat → Int} (h : 0 < n → Blk w g (bytes Q n)) : Rd w (some ⟨g, 0, none⟩) n Q := fun hn => ⟨_, rfl, fun i hi => by
  have e : ((⟨g, 0, none⟩ : Addr).add i) = ⟨g, i, none⟩ := by unfold Addr.add; by_cases h : i = 0 <;> simp [h]
  rw [e]; exact ((h hn).all.2.2.1 i).trans (by_get _ _ _ hi)⟩
theorem same_yes (A A' : Option Addr) (n cap cap' : Nat) (Q Y : Nat → Int) (w : World) (h : Rd w A n Q) (h2 : Rd w A' n Y) (hq : ∀ i, i < n → Q i = Y i) :
    Calls Try.prog 14 #[.slice A n cap, .slice A' n cap'] w fun e w' => e = .returned (.bool true) ∧ w = w' := by
  have c1 := conv9 w A n cap Q h
  have c2 := conv9 w A' n cap' Y h2
  rw [← strOf_congr Q Y n hq] at c2
  clear h h2 hq
  go_enter Try.func14, Try.ntmps14
  go_wp2
  go_ret
  exact ⟨by simp, rfl⟩
def con (i : Value) (e : Bool) (o : Value) : Array Value := #[.bool true, i, .bool e, o]
theorem con_new (w : World) : Calls Try.prog 19 #[] w fun e w' => e = .returned (.pointer (some ⟨w.heap.size, 0, none⟩)) ∧ Blk w' w.heap.size (con (.slice none 0 0) false (.slice none 0 0)) ∧ Below w.heap.size w w' := by
  go_enter Try.func19, Try.ntmps19
  go_wp2
  go_ret
  exact ⟨by simp, Blk.of_heap (heap_at rfl), (Below.refl _ _).alloc (Nat.le_refl _) _⟩
theorem is_ok (g : Nat) (i o : Value) (en : Bool) (w : World) (h : Blk w g (con i en o)) : Calls Try.prog 41 #[.pointer (some ⟨g, 0, none⟩)] w fun e w' => e = .returned (.bool true) ∧ w = w' := by
  obtain ⟨gr, gn, gc, gf⟩ := h.all
  have c0 := (gc 0).trans (show _ = some (.bool true) from rfl)
  clear gr gn gc gf
  go_enter Try.func41, Try.ntmps41
  go_wp2
  go_ret
  exact ⟨by simp, rfl⟩
theorem conread_wait (g cap : Nat) (A : Option Addr) (o : Value) (w : World) (N : Int) (hN : 0 < N) (h : Blk w g (con (.slice A 0 cap) false o)) : Calls Try.prog 21 #[.pointer (some ⟨g, 0, none⟩), .int .i64 N] w fun e w' => e = .returned (.tuple #[.slice none 0 0, .int .i64 211]) ∧ w = w' := by
  have HM := Lib.hid (is_ok g _ _ _ w h)
  obtain ⟨gr, gn, gc, gf⟩ := h.all
  have c1 := (gc 1).trans (show _ = some (.slice A 0 cap) from rfl)
  have c2 := (gc 2).trans (show _ = some (.bool false) from rfl)
  have ne : (N == 0) = false := beq_eq_false_iff_ne.2 (by omega)
  clear gr gn gc gf h
  go_enter Try.func21, Try.ntmps21
  go_wp2_with fail
  refine (HM.out).mono ?_; rintro e w' ⟨rfl, rfl⟩
  go_wp2
  go_ret2
  exact ⟨by simp, rfl⟩
theorem lives_ok (w : World) : Calls Try.prog 10 #[] w fun e w' => e = .returned (.bool true) ∧ Below w.heap.size w w' := by
  have kc := fun (w : World) (C : Array Value) (n c : Nat) => Lib.run_convert_bytes_const (P := Try.prog) w 26 5 C n c u26 (by kernel_rfl)
  go_enter Try.func10, Try.ntmps10
  go_wp2_with fail
  refine (new_ok _).mono ?_
  rintro e w1 ⟨g, m, rfl, hg, hm, hP1, hB1⟩
  have HP1 := Lib.hid hP1
  have HB1 := Lib.hid hB1
  clear hP1 hB1
  go_wp2_with fail
  refine (con_new _).mono ?_
  rintro e w2 ⟨rfl, hC2, hB2⟩
  have HP2 := Lib.hid (HP1.out.below hB2 HP1.out.lt.1 HP1.out.lt.2)
  have HC2 := Lib.hid hC2
  have HB2 := Lib.hid (HB1.out.trans (hB2.mono HB1.out.size))
  have hh : w1.heap.size < w2.heap.size := hC2.lt
  obtain ⟨hgh, hmh⟩ := HP1.out.lt
  have HW1 := Lib.hid HB1.out.size
  generalize hhq : w1.heap.size = h at *
  clear hB2 hC2 hhq HB1 HP1
  go_wp2_with fail
  have hal : Below w2.heap.size w2 (w2.alloc (.cells #[.int .u8 97, .int .u8 98, .int .u8 99] 5 (3, 4))) := (Below.refl _ _).alloc (Nat.le_refl _) _
  have HP3 := Lib.hid (HP2.out.below hal HP2.out.lt.1 HP2.out.lt.2)
  have HC3 := Lib.hid (HC2.out.below hal hh)
  have HB3 := Lib.hid (HB2.out.trans (hal.mono HB2.out.size))
  have HS := Lib.hid (show Src (w2.alloc (.cells #[.int .u8 97, .int .u8 98, .int .u8 99] 5 (3, 4))) g (some ⟨w2.heap.size, 0, none⟩) 3 (fun i => [(97 : Int), 98, 99].getD i 0) from fun _ => ⟨_, rfl, fun e => by have := HP2.out.lt.1; simp at e; omega, fun i hi => by
    have e : ((⟨w2.heap.size, 0, none⟩ : Addr).add i) = ⟨w2.heap.size, i, none⟩ := by unfold Addr.add; by_cases h : i = 0 <;> simp [h]
    rw [e, cell_of_row _ _ i _ _ _ (heap_alloc_new w2 _)]
    match i, hi with
    | 0, _ => rfl
    | 1, _ => rfl
    | 2, _ => rfl⟩)
  clear hal
  generalize w2.alloc (.cells #[.int .u8 97, .int .u8 98, .int .u8 99] 5 (3, 4)) = w3 at *
  refine (write_any g m 0 _ 1 1 w3 HP3.out _ 3 3 _ (by omega) (by omega) (by omega) HS.out).mono ?_
  rintro e w4 ⟨rfl, hP4, hK4⟩
  have e1 : wrote 1 0 3 = 3 := by decide
  have e2 : wroteE 1 0 3 = 0 := by decide
  rw [e1] at hP4 ⊢
  rw [e2]
  have HP4 := Lib.hid hP4
  have HC4 := Lib.hid (hK4.blk HC3.out (by omega) (by omega))
  have HB4 := Lib.hid (HB3.out.trans (hK4.below hg hm HB3.out.size))
  clear e1 e2 hP4 hK4 HP2 HP3 HC2 HC3 HB2 HB3 HS
  go_wp2_with fail
  refine (read_any g m 3 _ 1 1 w4 HP4.out 2 (by omega)).mono ?_
  rintro e w5 ⟨A, rfl, hA, _, hP5, hK5⟩
  have e1 : took 3 2 = 2 := by decide
  have e2 : tookE 1 3 2 = 0 := by decide
  rw [e1] at hP5 hA ⊢
  rw [e2]
  obtain ⟨rfl, hA5⟩ := hA (by omega)
  have HA5 := Lib.hid hA5
  have HP5 := Lib.hid hP5
  have HC5 := Lib.hid (hK5.blk HC4.out (by omega) (by omega))
  have HB5 := Lib.hid (HB4.out.trans (hK5.below hg hm HB4.out.size))
  clear e1 e2 hP5 hK5 HP4 HC4 HB4 hA hA5
  generalize w4.heap.size = a at *
  go_wp2_with fail
  refine (conread_wait h 0 none _ w5 1 (by omega) HC5.out).mono ?_
  rintro e w6 ⟨rfl, rfl⟩
  have cv := conv9 w5 _ 2 2 _ (Rd.of_blk fun _ => HA5.out)
  have es : strOf (fun i => cat (fun _ => 0) 0 (fun i => [(97 : Int), 98, 99].getD i 0) i) 2 = ⟨#[97, 98]⟩ := by decide +kernel
  rw [es] at cv
  have HL := Lib.hid (len_ok g m _ _ _ _ w5 HP5.out)
  go_wp2_with fail
  refine (HL.out).mono ?_
  rintro e w7 ⟨rfl, rfl⟩
  go_wp2
  go_ret
  exact ⟨by simp, HB5.out⟩
end Go.Proofs.Ytmifomppnmhmpaa
