import Derived.Test.YtjmdikabikgjhaaBoth
import Derived.Test.YtjmdikabikgjhaaEql
/- Encode, of both; and what must come of every program. -/
namespace Go.Proofs.Ytjmdikabikgjhaa
open Go.RowKit
set_option linter.unusedVariables false
attribute [local go_sem] cpu_get cpu_get16 cpu_set cpu_set16 szIs_cpu szIs_lit row_at row_past row_alloc nf_alloc row_set nf_set row_cell nf_cell row_drew nf_drew row_drewN nf_drewN cell_setRow frozen_setRow nlt1 nlt2 nlt3 nlt4 nne1 nne2 nne3 nen1 nen2 nen3
attribute [local go_sem ↓] exec_load35 exec_store35
attribute [local go_sem] run_load35 run_store35

def EncOk (op k m imm : Int) : Prop := 1 ≤ op ∧ op ≤ 28 ∧ 0 ≤ k ∧ k ≤ 15 ∧ 0 ≤ m ∧ m ≤ 15 ∧ -32768 ≤ imm ∧ imm ≤ 32767
def encW (op k m imm : Int) : Int := op + 256 * k + 4096 * m + 65536 * (imm % 65536)
theorem encW_word (op k m imm : Int) (h : EncOk op k m imm) : word (encW op k m imm) := by
  obtain ⟨a1, a2, a3, a4, a5, a6, a7, a8⟩ := h
  unfold encW; exact ⟨by omega, by omega⟩
def insnA (op k m imm : Int) : Array Value := #[.agg #[.int .i64 op, .int .i64 k, .int .i64 m, .int .i64 imm]]
theorem enc_ok (op k m imm : Int) (h : EncOk op k m imm) : Both 13 14 (insnA op k m imm) (insnA op k m imm) (.tuple #[.int .u32 (encW op k m imm), .int .i64 0]) := by
  obtain ⟨a1, a2, a3, a4, a5, a6, a7, a8⟩ := h
  refine ⟨fun w => ?_, fun w => ?_⟩
  · exact enc_p_ok op k m imm (imm % 65536) w a1 a2 a3 a4 a5 a6 a7 a8 (IntKind.wrap_u16 imm) (by omega) (by omega)
      (by rw [u32_or8 _ _ (by omega) (by omega) (by omega) (by omega) (by omega)]; omega)
      (by rw [or12 _ _ (by omega) (by omega) (by omega) (by omega) (by omega)]; omega)
      (by rw [u32_or16 _ _ (by omega) (by omega) (by omega) (by omega) (by omega)]; omega)
  · by_cases hi : 0 ≤ imm
    · have e : encW op k m imm = op + 256 * k + 4096 * m + 65536 * imm := by unfold encW; omega
      rw [e]; exact enc_r_okp op k m imm 0 w a1 a2 a3 a4 a5 a6 a7 a8 hi
    · have e : encW op k m imm = op + 256 * k + 4096 * m + 65536 * (imm + 65536) := by unfold encW; omega
      rw [e]; exact enc_r_okn op k m imm 0 w a1 a2 a3 a4 a5 a6 a7 a8 (by omega)
theorem enc_bad (op k m imm : Int) (h : ¬ EncOk op k m imm) : Both 13 14 (insnA op k m imm) (insnA op k m imm) (.tuple #[.int .u32 0, .int .i64 30]) := by
  by_cases a1 : 1 ≤ op
  case neg => exact ⟨fun w => enc_p_bad1 op k m imm 0 w  (by omega), fun w => enc_r_bad1 op k m imm 0 w  (by omega)⟩
  by_cases a2 : op ≤ 28
  case neg => exact ⟨fun w => enc_p_bad2 op k m imm 0 w a1 (by omega), fun w => enc_r_bad2 op k m imm 0 w a1 (by omega)⟩
  by_cases a3 : 0 ≤ k
  case neg => exact ⟨fun w => enc_p_bad3 op k m imm 0 w a1 a2 (by omega), fun w => enc_r_bad3 op k m imm 0 w a1 a2 (by omega)⟩
  by_cases a4 : k ≤ 15
  case neg => exact ⟨fun w => enc_p_bad4 op k m imm 0 w a1 a2 a3 (by omega), fun w => enc_r_bad4 op k m imm 0 w a1 a2 a3 (by omega)⟩
  by_cases a5 : 0 ≤ m
  case neg => exact ⟨fun w => enc_p_bad5 op k m imm 0 w a1 a2 a3 a4 (by omega), fun w => enc_r_bad5 op k m imm 0 w a1 a2 a3 a4 (by omega)⟩
  by_cases a6 : m ≤ 15
  case neg => exact ⟨fun w => enc_p_bad6 op k m imm 0 w a1 a2 a3 a4 a5 (by omega), fun w => enc_r_bad6 op k m imm 0 w a1 a2 a3 a4 a5 (by omega)⟩
  by_cases a7 : -32768 ≤ imm
  case neg => exact ⟨fun w => enc_p_bad7 op k m imm 0 w a1 a2 a3 a4 a5 a6 (by omega), fun w => enc_r_bad7 op k m imm 0 w a1 a2 a3 a4 a5 a6 (by omega)⟩
  by_cases a8 : imm ≤ 32767
  case neg => exact ⟨fun w => enc_p_bad8 op k m imm 0 w a1 a2 a3 a4 a5 a6 a7 (by omega), fun w => enc_r_bad8 op k m imm 0 w a1 a2 a3 a4 a5 a6 a7 (by omega)⟩
  exact absurd ⟨a1, a2, a3, a4, a5, a6, a7, a8⟩ h
/-- Back and forth. -/
theorem enc_dec (x : Int) (h : word x) (c1 : 1 ≤ opOf x) (c2 : opOf x ≤ 28) : EncOk (opOf x) (regA x) (regB x) (immOf x) ∧ encW (opOf x) (regA x) (regB x) (immOf x) = x := by
  obtain ⟨h0, h1⟩ := h
  unfold EncOk encW opOf regA regB immOf at *
  split <;> omega
theorem dec_enc (op k m imm : Int) (h : EncOk op k m imm) : opOf (encW op k m imm) = op ∧ (regA (encW op k m imm) : Int) = k ∧ (regB (encW op k m imm) : Int) = m ∧ immOf (encW op k m imm) = imm := by
  obtain ⟨a1, a2, a3, a4, a5, a6, a7, a8⟩ := h
  unfold encW opOf regA regB immOf
  refine ⟨by omega, by omega, by omega, ?_⟩
  split <;> omega

theorem cpu_zero : cpu (fun _ => 0) 0 = #[.int .u32 0, .int .u32 0, .int .u32 0, .int .u32 0, .int .u32 0, .int .u32 0, .int .u32 0, .int .u32 0, .int .u32 0, .int .u32 0, .int .u32 0, .int .u32 0, .int .u32 0, .int .u32 0, .int .u32 0, .int .u32 0, .int .u32 0] := rfl
set_option maxHeartbeats 1000000 in
set_option maxRecDepth 100000 in
theorem lives_true (w : World) : Calls Try.prog 12 #[] w fun e w' => e = .returned (.bool true) ∧ Below w.heap.size w w' := by
  have henc : ∀ w, Calls Try.prog 13 #[.agg #[.int .i64 1, .int .i64 3, .int .i64 0, .int .i64 (-1)]] w fun e w' => e = .returned (.tuple #[.int .u32 4294902529, .int .i64 0]) ∧ Below w.heap.size w w' :=
    (enc_ok 1 3 0 (-1) ⟨by decide, by decide, by decide, by decide, by decide, by decide, by decide, by decide⟩).1
  have hdec : ∀ w, Calls Try.prog 10 #[.int .u32 4294902529] w fun e w' => e = .returned (.tuple #[.agg #[.int .i64 1, .int .i64 (3 : Nat), .int .i64 (0 : Nat), .int .i64 (-1)], .int .i64 0]) ∧ Below w.heap.size w w' :=
    (dec_ok 4294902529 ⟨by decide, by decide⟩ (by decide) (by decide)).1
  have hstep : ∀ w, Calls Try.prog 15 #[.agg #[.int .u32 0, .int .u32 0, .int .u32 0, .int .u32 0, .int .u32 0, .int .u32 0, .int .u32 0, .int .u32 0, .int .u32 0, .int .u32 0, .int .u32 0, .int .u32 0, .int .u32 0, .int .u32 0, .int .u32 0, .int .u32 0, .int .u32 0], .int .u32 4294902529] w fun e w' => e = .returned (.tuple #[.agg (cpu (upd (fun _ => 0) 3 4294967295) 4), .agg #[.int .i64 1, .int .u32 0, .int .i64 0, .int .i64 0, .int .u32 0, .int .u32 0]]) ∧ Below w.heap.size w w' :=
    fun w => step_p_val (fun _ => 0) 0 4294902529 (-1) 1 4294967295 3 0 w (by decide) (by decide) hdec
      (fun w => mem_none (fun _ => 0) 0 (-1) 3 0 1 w (by decide) (by decide) (by decide) (by decide) (by decide) (by decide) (by decide))
      (fun w => val_p1 0 0 4294967295 w (by decide) (by decide) (by decide) (by decide))
  have He := Lib.hid henc
  have Hs := Lib.hid hstep
  clear henc hdec hstep
  have hr : upd (fun _ => 0) 3 4294967295 3 = 4294967295 := rfl
  go_enter Try.func12, Try.ntmps12
  go_wp2_with fail
  refine (He.out _).mono ?_; rintro e w1 ⟨rfl, hb1⟩
  go_wp2_with fail
  refine (Hs.out _).mono ?_; rintro e w2 ⟨rfl, hb2⟩
  go_wp2
  go_ret
  refine ⟨by simp, ?_⟩
  have z1 := hb1.size
  have z2 := hb2.size
  repeat (first | (with_reducible exact Below.refl _ _) | (with_reducible refine Below.alloc ?_ ?h _; (case h => (first | omega | (simp; done) | (simp; omega)))) | (with_reducible refine Below.drew ?_) | (with_reducible refine below_drewN ?_ _) | (with_reducible refine Below.setCell ?_ ?h _; (case h => (first | omega | (simp; done) | (simp; omega)))) | (with_reducible refine below_row ?_ ?h _; (case h => (first | omega | (simp; done) | (simp; omega)))) | (with_reducible refine Below.trans ?_ (Below.mono hb2 ?h); (case h => (first | omega | (simp; done) | (simp; omega)))) | (with_reducible refine Below.trans ?_ (Below.mono hb1 ?h); (case h => (first | omega | (simp; done) | (simp; omega)))))
end Go.Proofs.Ytjmdikabikgjhaa
