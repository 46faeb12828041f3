/-
  No cell of these rows narrows 'for every input' (looked for: loops, veiled, ifaces, maps, wideKeys, modest, calm, conditions, laid).
  DERIVED. THE GIVEN ROWS OF THIS SEAT. 3 by the template 'for every input the law returns true; each argument reads behind the call as it read before'; 0 by the template 'total and deterministic' (their statements: YthbbiobffoihaaaTotals.lean).
  GIVEN WITH THE SEED: the statements are not yours to turn. If you find one false, say at which input.
  Laid BY PROGRAM, IN A SANDBOX (cutbox-rows.mjs): the forced cells as the released guide's own fill.sh prints them over the translation 54df7cca8ef278e2… (all of the seat's roots in one cut). By AI agents, Wed Nov 11 2026. No macro, syntax, notation, axiom, sorry.
-/
import Derived.Test.YthbbiobffoihaaaChecked
import GoSem.Claim
import GoSem.ClaimJoined
import GoSem.ClaimMapViews
import Derived.JoinedTies
import Derived.KernelRfl
namespace Go.Proofs.Ythbbiobffoihaaa
/- THE CELL 'sum', in the pinned program and in every row, IS THE sha256 OF THE DUMP (.gsa) THAT YthbbiobffoihaaaProg.lean LOADS. Nothing in Lean hashes anything: it is a label: what it is worth is what the hold of that sum in a sandbox is worth. -/
noncomputable def Try.pinned : Pinned := { name := "ythbbiobffoihaaa", sum := "54df7cca8ef278e22fe12bd33a7c2632899f1eb46b6a48b31015c88166987021", checked := Try.checked }
namespace Rows
def none {H : Type} : Left H := { results := [], args := [] }

/-- 'parapetlaw22.FdCounts': WHATEVER THE INPUT: true; the input reads as it did. -/
def fdCountsSpec : ChangeSpec := { name := "fdCounts", fn := fun _ => fun
  | [d] => { results := [.lit (.bool true)], args := [d] }
  | _ => none }
def fdCountsRow : OpenClaim := { program := "ythbbiobffoihaaa", sum := "54df7cca8ef278e22fe12bd33a7c2632899f1eb46b6a48b31015c88166987021", func := "parapet/parapetlaw22.FdCounts", spec := "fdCounts", unfollowed := true, recurses := true, apart := false }
def FdCountsSaid : Prop := fdCountsRow.holds Try.pinned (OpenSpec.ofChange fdCountsSpec)

/-- ITS FALSE NEIGHBOUR: 'it returns false'. Refute it at one input. -/
def fdCountsWrong : ChangeSpec := { name := "fdCounts", fn := fun _ => fun
  | [d] => { results := [.lit (.bool false)], args := [d] }
  | _ => none }
def FdCountsWrongFalsely : Prop := fdCountsRow.holds Try.pinned (OpenSpec.ofChange fdCountsWrong)

/-- 'parapetlaw22.FdDoes': WHATEVER THE INPUT: true; the input reads as it did. -/
def fdDoesSpec : ChangeSpec := { name := "fdDoes", fn := fun _ => fun
  | [d] => { results := [.lit (.bool true)], args := [d] }
  | _ => none }
def fdDoesRow : OpenClaim := { program := "ythbbiobffoihaaa", sum := "54df7cca8ef278e22fe12bd33a7c2632899f1eb46b6a48b31015c88166987021", func := "parapet/parapetlaw22.FdDoes", spec := "fdDoes", unfollowed := true, recurses := true, apart := false }
def FdDoesSaid : Prop := fdDoesRow.holds Try.pinned (OpenSpec.ofChange fdDoesSpec)

/-- ITS FALSE NEIGHBOUR: 'it returns false'. Refute it at one input. -/
def fdDoesWrong : ChangeSpec := { name := "fdDoes", fn := fun _ => fun
  | [d] => { results := [.lit (.bool false)], args := [d] }
  | _ => none }
def FdDoesWrongFalsely : Prop := fdDoesRow.holds Try.pinned (OpenSpec.ofChange fdDoesWrong)

/-- 'parapetlaw22.FdNobody': WHATEVER THE INPUT: true; the input reads as it did. -/
def fdNobodySpec : ChangeSpec := { name := "fdNobody", fn := fun _ => fun
  | [d] => { results := [.lit (.bool true)], args := [d] }
  | _ => none }
def fdNobodyRow : OpenClaim := { program := "ythbbiobffoihaaa", sum := "54df7cca8ef278e22fe12bd33a7c2632899f1eb46b6a48b31015c88166987021", func := "parapet/parapetlaw22.FdNobody", spec := "fdNobody", unfollowed := true, recurses := true, apart := false }
def FdNobodySaid : Prop := fdNobodyRow.holds Try.pinned (OpenSpec.ofChange fdNobodySpec)

/-- ITS FALSE NEIGHBOUR: 'it returns false'. Refute it at one input. -/
def fdNobodyWrong : ChangeSpec := { name := "fdNobody", fn := fun _ => fun
  | [d] => { results := [.lit (.bool false)], args := [d] }
  | _ => none }
def FdNobodyWrongFalsely : Prop := fdNobodyRow.holds Try.pinned (OpenSpec.ofChange fdNobodyWrong)

/- THE SECOND FORM. 'bulk': how many values and letters a reading holds, each counted each time it is reached (what is shared counts as often as it is met; a slice's spare places count too). A statement '..UptoSaid' is the law's where the arguments, and the package variables that the reading takes, are together of bulk at most 1048576: NARROWER than '..Said'. Prove '..Said' where nothing that the law and all that it calls make is longer than what came in: it says more and counts as full. Else prove '..UptoSaid'. A law counts once. -/
mutual
def uptoBulk {H : Type} : DataW H → Nat
  | .lit (.string bytes) => bytes.length + 1
  | .lit _ => 1
  | .nil => 1
  | .ptr d => uptoBulk d + 1
  | .slice elems spare => uptoBulkAll elems + uptoBulkAll spare + 1
  | .agg parts => uptoBulkAll parts + 1
  | .iface _ d => uptoBulk d + 1
  | .map entries => uptoBulkEntries entries + 1
  | .held _ => 1
def uptoBulkAll {H : Type} : List (DataW H) → Nat
  | [] => 0
  | d :: r => uptoBulk d + uptoBulkAll r
def uptoBulkEntries {H : Type} : List (Lit × DataW H) → Nat
  | [] => 0
  | x :: r => uptoBulkEntry x + uptoBulkEntries r
def uptoBulkEntry {H : Type} : Lit × DataW H → Nat
  | (.string bytes, d) => bytes.length + uptoBulk d + 1
  | (_, d) => uptoBulk d + 1
 end
def uptoSmall : (H : Type) → List (DataW H) → Bool := fun _ ds => decide (uptoBulkAll ds ≤ 1048576)
def OpenSpec.upto (s : _root_.Go.ChangeSpec) : _root_.Go.OpenSpec := { _root_.Go.OpenSpec.ofChange s with cond := some uptoSmall }

/-- 'parapetlaw22.FdCounts', WHERE WHAT IT READS IS OF BULK AT MOST 1048576: true; the input reads as it did. -/
def fdCountsUptoRow : OpenClaim := { program := "ythbbiobffoihaaa", sum := "54df7cca8ef278e22fe12bd33a7c2632899f1eb46b6a48b31015c88166987021", func := "parapet/parapetlaw22.FdCounts", spec := "fdCounts", unfollowed := true, recurses := true, apart := false, narrowed := true }
def FdCountsUptoSaid : Prop := fdCountsUptoRow.holds Try.pinned (OpenSpec.upto fdCountsSpec)

/-- 'parapetlaw22.FdDoes', WHERE WHAT IT READS IS OF BULK AT MOST 1048576: true; the input reads as it did. -/
def fdDoesUptoRow : OpenClaim := { program := "ythbbiobffoihaaa", sum := "54df7cca8ef278e22fe12bd33a7c2632899f1eb46b6a48b31015c88166987021", func := "parapet/parapetlaw22.FdDoes", spec := "fdDoes", unfollowed := true, recurses := true, apart := false, narrowed := true }
def FdDoesUptoSaid : Prop := fdDoesUptoRow.holds Try.pinned (OpenSpec.upto fdDoesSpec)

/-- 'parapetlaw22.FdNobody', WHERE WHAT IT READS IS OF BULK AT MOST 1048576: true; the input reads as it did. -/
def fdNobodyUptoRow : OpenClaim := { program := "ythbbiobffoihaaa", sum := "54df7cca8ef278e22fe12bd33a7c2632899f1eb46b6a48b31015c88166987021", func := "parapet/parapetlaw22.FdNobody", spec := "fdNobody", unfollowed := true, recurses := true, apart := false, narrowed := true }
def FdNobodyUptoSaid : Prop := fdNobodyUptoRow.holds Try.pinned (OpenSpec.upto fdNobodySpec)

end Rows
end Go.Proofs.Ythbbiobffoihaaa
