import Derived.Test.YtmifomppnmhmpaaBase
import Derived.MapKept
import Derived.OwnWalk
import Derived.Laws.CopyRow
/- A pipe's struct (a ring of bytes, two counters, a map of two holders), and what the map's operations and copy do. -/
namespace Go.Proofs.Ytmifomppnmhmpaa
open Go.RowKit
def bytes (M : Nat → Int) (n : Nat) : Array Value := ((List.range n).map fun i => Value.int .u8 (M i)).toArray
theorem by_size (M : Nat → Int) (n : Nat) : (bytes M n).size = n := by simp [bytes]
theorem by_get (M : Nat → Int) (n i : Nat) (h : i < n) : (bytes M n)[i]? = some (.int .u8 (M i)) := by simp [bytes, h]
theorem by_none (M : Nat → Int) (n i : Nat) (h : n ≤ i) : (bytes M n)[i]? = none := Array.getElem?_eq_none (by rw [by_size]; exact h)
/-- The struct's cells. -/
def ring (B : Nat → Int) (f n : Int) (v : Value) : Array Value := bytes B 512 ++ #[.int .i64 f, .int .i64 n, v]
theorem rg_size (B : Nat → Int) (f n : Int) (v : Value) : (ring B f n v).size = 515 := by simp [ring, by_size]
theorem rg_get (B : Nat → Int) (f n : Int) (v : Value) (i : Nat) (h : i < 512) : (ring B f n v)[i]? = some (.int .u8 (B i)) := by
  unfold ring; rw [Array.getElem?_append_left (by rw [by_size]; exact h), by_get _ _ _ h]
theorem rg_past (B : Nat → Int) (f n : Int) (v : Value) (i : Nat) : (ring B f n v)[512 + i]? = #[Value.int .i64 f, .int .i64 n, v][i]? := by
  unfold ring; rw [Array.getElem?_append_right (by rw [by_size]; omega), by_size, Nat.add_sub_cancel_left]
theorem rg_first (B : Nat → Int) (f n : Int) (v : Value) : (ring B f n v)[512]? = some (.int .i64 f) := by rw [rg_past B f n v 0]; rfl
theorem rg_n (B : Nat → Int) (f n : Int) (v : Value) : (ring B f n v)[513]? = some (.int .i64 n) := by rw [rg_past B f n v 1]; rfl
theorem rg_map (B : Nat → Int) (f n : Int) (v : Value) : (ring B f n v)[514]? = some v := by rw [rg_past B f n v 2]; rfl
theorem rg_none (B : Nat → Int) (f n : Int) (v : Value) (i : Nat) (h : 515 ≤ i) : (ring B f n v)[i]? = none := Array.getElem?_eq_none (by rw [rg_size]; exact h)
theorem rg_ext (B : Nat → Int) (f n : Int) (v : Value) (c : Array Value) (hs : c.size = 515) (hb : ∀ i, i < 512 → c[i]? = some (.int .u8 (B i))) (h1 : c[512]? = some (.int .i64 f)) (h2 : c[513]? = some (.int .i64 n)) (h3 : c[514]? = some v) : c = ring B f n v := by
  apply Array.ext_getElem?
  intro i
  by_cases hi : i < 512
  · rw [hb i hi, rg_get _ _ _ _ _ hi]
  · by_cases e : i = 512
    · subst e; rw [h1, rg_first]
    · by_cases e : i = 513
      · subst e; rw [h2, rg_n]
      · by_cases e : i = 514
        · subst e; rw [h3, rg_map]
        · rw [rg_none _ _ _ _ _ (by omega), Array.getElem?_eq_none (by omega)]
theorem rg_setf (B : Nat → Int) (f n x : Int) (v : Value) : (ring B f n v).setIfInBounds 512 (.int .i64 x) = ring B x n v := by
  apply rg_ext
  · simp [rg_size]
  · intro i hi; rw [Array.getElem?_setIfInBounds, if_neg (by omega), rg_get _ _ _ _ _ hi]
  · rw [Array.getElem?_setIfInBounds, if_pos rfl, if_pos (by rw [rg_size]; decide)]
  · rw [Array.getElem?_setIfInBounds, if_neg (by decide), rg_n]
  · rw [Array.getElem?_setIfInBounds, if_neg (by decide), rg_map]
theorem rg_setm (B : Nat → Int) (f n : Int) (v x : Value) : (ring B f n v).setIfInBounds 514 x = ring B f n x := by
  apply rg_ext
  · simp [rg_size]
  · intro i hi; rw [Array.getElem?_setIfInBounds, if_neg (by omega), rg_get _ _ _ _ _ hi]
  · rw [Array.getElem?_setIfInBounds, if_neg (by decide), rg_first]
  · rw [Array.getElem?_setIfInBounds, if_neg (by decide), rg_n]
  · rw [Array.getElem?_setIfInBounds, if_pos rfl, if_pos (by rw [rg_size]; decide)]
theorem rg_setn (B : Nat → Int) (f n x : Int) (v : Value) : (ring B f n v).setIfInBounds 513 (.int .i64 x) = ring B f x v := by
  apply rg_ext
  · simp [rg_size]
  · intro i hi; rw [Array.getElem?_setIfInBounds, if_neg (by omega), rg_get _ _ _ _ _ hi]
  · rw [Array.getElem?_setIfInBounds, if_neg (by decide), rg_first]
  · rw [Array.getElem?_setIfInBounds, if_pos rfl, if_pos (by rw [rg_size]; decide)]
  · rw [Array.getElem?_setIfInBounds, if_neg (by decide), rg_map]
/-- The map of the holders. -/
def held (r s : Int) : Obj := .map #[⟨.bool false, .int .i64 r, 0⟩, ⟨.bool true, .int .i64 s, 1⟩] 2
theorem u58 : Try.prog.underlying 58 = some (.map 4 3) := by kernel_rfl
theorem u4 : Try.prog.underlying 4 = some .bool := by kernel_rfl
theorem isKeyB (x : Bool) : MapKept.IsKey .bool (.bool x) := by simp [MapKept.IsKey]
theorem look_held {w : World} {m : Nat} {r s : Int} (h : w.heap[m]? = some (held r s)) (x : Bool) : (Instr.lookup 58 (.map (some m)) (.bool x) false).run Try.prog w = .ok (.int .i64 (if x then s else r)) w := by
  have hf : Instr.findNow .bool (.bool x) [⟨.bool false, .int .i64 r, 0⟩, ⟨.bool true, .int .i64 s, 1⟩] 0 = some (some (if x then 1 else 0, .int .i64 (if x then s else r))) := by cases x <;> simp [Instr.findNow, Instr.sameNow]
  have := MapKept.run_findKey (P := Try.prog) (w := w) (kt := 4) u4 hf
  simp [Instr.lookup, run_underlying u58, MapKept.run_getObj_map h, MapKept.run_checkKey u4 (isKeyB x), this, Result.andThen]
/-- The world with the map turned. -/
def reheld (w : World) (m : Nat) (r s : Int) : World := { w with heap := w.heap.setIfInBounds m (held r s) }
theorem upd_held {w : World} {m : Nat} {r s : Int} (h : w.heap[m]? = some (held r s)) (x : Bool) (v : Int) : (Instr.mapUpdate 58 (.map (some m)) (.bool x) (.int .i64 v)).run Try.prog w = .ok () (reheld w m (if x then r else v) (if x then v else s)) := by
  have hf : Instr.findNow .bool (.bool x) [⟨.bool false, .int .i64 r, 0⟩, ⟨.bool true, .int .i64 s, 1⟩] 0 = some (some (if x then 1 else 0, .int .i64 (if x then s else r))) := by cases x <;> simp [Instr.findNow, Instr.sameNow]
  have := MapKept.run_findKey (P := Try.prog) (w := w) (kt := 4) u4 hf
  cases x <;>
  simp [Instr.mapUpdate, run_underlying u58, MapKept.run_getObj_map h, MapKept.run_checkKey u4 (isKeyB _), this, Result.andThen, Instr.keyThatStays, Instr.sameBits, MapKept.run_setObj_map _ h, reheld, held]
end Go.Proofs.Ytmifomppnmhmpaa
