import Derived.Test.YtjmdikabikgjhaaCpu
import Derived.Laws.StructEq
/- Two processors that are the same are equal. -/
namespace Go.Proofs.Ytjmdikabikgjhaa
open Go.RowKit
theorem cpu_lit (r : Nat → Int) (pc : Int) : cpu r pc = #[.int .u32 (r 0), .int .u32 (r 1), .int .u32 (r 2), .int .u32 (r 3), .int .u32 (r 4), .int .u32 (r 5), .int .u32 (r 6), .int .u32 (r 7), .int .u32 (r 8), .int .u32 (r 9), .int .u32 (r 10), .int .u32 (r 11), .int .u32 (r 12), .int .u32 (r 13), .int .u32 (r 14), .int .u32 (r 15), .int .u32 pc] := rfl
theorem run_forIn_same {P : Program} {β : Type} (f : Nat → β → Sem (ForInStep β)) (s : β) (w : World) : ∀ l : List Nat, (∀ i ∈ l, (f i s).run P w = .ok (.yield s) w) → (forIn l s f).run P w = .ok s w
  | [], _ => by simp
  | i :: l, h => by
    rw [List.forIn_cons, Sem.run_bind, h i (by simp)]
    simp only [Result.andThen_ok]
    exact run_forIn_same f s w l (fun j hj => h j (by simp [hj]))
theorem size_of {P : Program} {t : TypeId} {n : Nat} (h : (P.info? t).map (·.size) = some n) (w : World) : (sizeOf t).run P w = .ok n w := by
  cases hq : P.info? t with
  | none => simp [hq] at h
  | some i => simp [hq] at h; simp [sizeOf, typeInfo, hq, h]
theorem run_equalIn_arr (w : World) (d : Nat) (C : Array Value) (hC : ∀ i, i < 16 → ∃ n, C[i]? = some (.int .u32 n)) :
    (Op.equalIn (d + 2) 33 (.agg C) (.agg C)).run Try.prog w = .ok true w := by
  have hs := fun w => size_of (P := Try.prog) (t := 22) (n := 1) (by kernel_rfl) w
  rw [Op.equalIn]
  simp only [Sem.run_bind, run_underlying Try.underlying33, Result.andThen_ok, hs, Std.Legacy.Range.forIn_eq_forIn_range']
  rw [run_forIn_same]
  · simp
  · intro i hi
    have hi : i < 16 := by simp [Std.Legacy.Range.size] at hi; exact hi
    obtain ⟨n, hn⟩ := hC i hi
    simp [hn, part, isAgg, run_underlying Try.underlying22, run_equalIn_int (P := Try.prog) w d 22 .u32 .u32 n n Try.underlying22]
theorem run_eq_cpu (w : World) (d : Nat) (r : Nat → Int) (pc : Int) : (Op.equalIn (d + 3) 35 (.agg (cpu r pc)) (.agg (cpu r pc))).run Try.prog w = .ok true w := by
  rw [run_equalIn_agg (P := Try.prog) w (d + 2) 35 _ _ (by kernel_rfl) (by kernel_rfl)]
  have hs := fun w => size_of (P := Try.prog) (t := 33) (n := 16) (by kernel_rfl) w
  have h1 : ∀ i, i < 16 → ∃ n, ((cpu r pc).extract 0 16)[i]? = some (.int .u32 n) := fun i hi => ⟨r i, by rw [Array.getElem?_extract, cpu_size]; simp [hi, cpu_get r pc i hi]⟩
  have h2 := run_equalIn_arr w d _ h1
  simp [Program.fieldsOf, Try.underlying35, Op.eqFields, part, isAgg, run_underlying Try.underlying33, run_underlying Try.underlying22, hs, cpu_get16, h2, run_equalIn_int (P := Try.prog) w (d + 1) 22 .u32 .u32 pc pc Try.underlying22]
theorem eql_cpu (w : World) (r : Nat → Int) (pc : Int) : (binOp .eql 35 (.agg (cpu r pc)) (.agg (cpu r pc))).run Try.prog w = .ok (.bool true) w := by
  rw [run_eql_struct, run_eq_cpu w 9997]; rfl
theorem neq_cpu (w : World) (r : Nat → Int) (pc : Int) : (binOp .neq 35 (.agg (cpu r pc)) (.agg (cpu r pc))).run Try.prog w = .ok (.bool false) w := by
  rw [run_neq_struct, run_eq_cpu w 9997]; rfl
end Go.Proofs.Ytjmdikabikgjhaa
