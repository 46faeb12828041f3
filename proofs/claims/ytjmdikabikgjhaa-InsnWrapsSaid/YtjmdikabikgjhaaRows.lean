/-
  No cell of these rows narrows 'for every input' (looked for: loops, veiled, ifaces, maps, wideKeys, modest, calm, conditions, laid).
  DERIVED. THE GIVEN ROWS OF THIS SEAT. 7 by the template 'for every input the law returns true; each argument reads behind the call as it read before'; 0 by the template 'total and deterministic' (their statements: YtjmdikabikgjhaaTotals.lean).
  GIVEN WITH THE SEED: the statements are not yours to turn. If you find one false, say at which input.
  Laid BY PROGRAM, IN A SANDBOX (cutbox-rows.mjs): the forced cells as the released guide's own fill.sh prints them over the translation 1a1e5e2000d8b038… (all of the seat's roots in one cut). By AI agents, Wed Nov 11 2026. No macro, syntax, notation, axiom, sorry.
-/
import Derived.Test.YtjmdikabikgjhaaChecked
import GoSem.Claim
import GoSem.ClaimJoined
import GoSem.ClaimMapViews
import Derived.JoinedTies
import Derived.KernelRfl
namespace Go.Proofs.Ytjmdikabikgjhaa
/- THE CELL 'sum', in the pinned program and in every row, IS THE sha256 OF THE DUMP (.gsa) THAT YtjmdikabikgjhaaProg.lean LOADS. Nothing in Lean hashes anything: it is a label: what it is worth is what the hold of that sum in a sandbox is worth. -/
noncomputable def Try.pinned : Pinned := { name := "ytjmdikabikgjhaa", sum := "1a1e5e2000d8b03821eac3c9e6701854359c7ea3ffb2bc303d4c93327ff79d89", checked := Try.checked }
namespace Rows
def none {H : Type} : Left H := { results := [], args := [] }

/-- 'parapetlaw03.InsnDecodes': WHATEVER THE INPUT: true; the input reads as it did. -/
def insnDecodesSpec : ChangeSpec := { name := "insnDecodes", fn := fun _ => fun
  | [d] => { results := [.lit (.bool true)], args := [d] }
  | _ => none }
def insnDecodesRow : OpenClaim := { program := "ytjmdikabikgjhaa", sum := "1a1e5e2000d8b03821eac3c9e6701854359c7ea3ffb2bc303d4c93327ff79d89", func := "parapet/parapetlaw03.InsnDecodes", spec := "insnDecodes", apart := false }
def InsnDecodesSaid : Prop := insnDecodesRow.holds Try.pinned (OpenSpec.ofChange insnDecodesSpec)

/-- ITS FALSE NEIGHBOUR: 'it returns false'. Refute it at one input. -/
def insnDecodesWrong : ChangeSpec := { name := "insnDecodes", fn := fun _ => fun
  | [d] => { results := [.lit (.bool false)], args := [d] }
  | _ => none }
def InsnDecodesWrongFalsely : Prop := insnDecodesRow.holds Try.pinned (OpenSpec.ofChange insnDecodesWrong)

/-- 'parapetlaw03.InsnEncodes': WHATEVER THE INPUT: true; the input reads as it did. -/
def insnEncodesSpec : ChangeSpec := { name := "insnEncodes", fn := fun _ => fun
  | [d] => { results := [.lit (.bool true)], args := [d] }
  | _ => none }
def insnEncodesRow : OpenClaim := { program := "ytjmdikabikgjhaa", sum := "1a1e5e2000d8b03821eac3c9e6701854359c7ea3ffb2bc303d4c93327ff79d89", func := "parapet/parapetlaw03.InsnEncodes", spec := "insnEncodes", apart := false }
def InsnEncodesSaid : Prop := insnEncodesRow.holds Try.pinned (OpenSpec.ofChange insnEncodesSpec)

/-- ITS FALSE NEIGHBOUR: 'it returns false'. Refute it at one input. -/
def insnEncodesWrong : ChangeSpec := { name := "insnEncodes", fn := fun _ => fun
  | [d] => { results := [.lit (.bool false)], args := [d] }
  | _ => none }
def InsnEncodesWrongFalsely : Prop := insnEncodesRow.holds Try.pinned (OpenSpec.ofChange insnEncodesWrong)

/-- 'parapetlaw03.InsnWraps': WHATEVER THE INPUT: true; the input reads as it did. -/
def insnWrapsSpec : ChangeSpec := { name := "insnWraps", fn := fun _ => fun
  | [d1, d2] => { results := [.lit (.bool true)], args := [d1, d2] }
  | _ => none }
def insnWrapsRow : OpenClaim := { program := "ytjmdikabikgjhaa", sum := "1a1e5e2000d8b03821eac3c9e6701854359c7ea3ffb2bc303d4c93327ff79d89", func := "parapet/parapetlaw03.InsnWraps", spec := "insnWraps", apart := false }
def InsnWrapsSaid : Prop := insnWrapsRow.holds Try.pinned (OpenSpec.ofChange insnWrapsSpec)

/-- ITS FALSE NEIGHBOUR: 'it returns false'. Refute it at one input. -/
def insnWrapsWrong : ChangeSpec := { name := "insnWraps", fn := fun _ => fun
  | [d1, d2] => { results := [.lit (.bool false)], args := [d1, d2] }
  | _ => none }
def InsnWrapsWrongFalsely : Prop := insnWrapsRow.holds Try.pinned (OpenSpec.ofChange insnWrapsWrong)

/-- 'parapetlaw03.InsnSteps': WHATEVER THE INPUT: true; the input reads as it did. -/
def insnStepsSpec : ChangeSpec := { name := "insnSteps", fn := fun _ => fun
  | [d1, d2, d3] => { results := [.lit (.bool true)], args := [d1, d2, d3] }
  | _ => none }
def insnStepsRow : OpenClaim := { program := "ytjmdikabikgjhaa", sum := "1a1e5e2000d8b03821eac3c9e6701854359c7ea3ffb2bc303d4c93327ff79d89", func := "parapet/parapetlaw03.InsnSteps", spec := "insnSteps", apart := false }
def InsnStepsSaid : Prop := insnStepsRow.holds Try.pinned (OpenSpec.ofChange insnStepsSpec)

/-- ITS FALSE NEIGHBOUR: 'it returns false'. Refute it at one input. -/
def insnStepsWrong : ChangeSpec := { name := "insnSteps", fn := fun _ => fun
  | [d1, d2, d3] => { results := [.lit (.bool false)], args := [d1, d2, d3] }
  | _ => none }
def InsnStepsWrongFalsely : Prop := insnStepsRow.holds Try.pinned (OpenSpec.ofChange insnStepsWrong)

/-- 'parapetlaw03.InsnOps': WHATEVER THE INPUT: true; the input reads as it did. -/
def insnOpsSpec : ChangeSpec := { name := "insnOps", fn := fun _ => fun
  | [d1, d2, d3] => { results := [.lit (.bool true)], args := [d1, d2, d3] }
  | _ => none }
def insnOpsRow : OpenClaim := { program := "ytjmdikabikgjhaa", sum := "1a1e5e2000d8b03821eac3c9e6701854359c7ea3ffb2bc303d4c93327ff79d89", func := "parapet/parapetlaw03.InsnOps", spec := "insnOps", apart := false }
def InsnOpsSaid : Prop := insnOpsRow.holds Try.pinned (OpenSpec.ofChange insnOpsSpec)

/-- ITS FALSE NEIGHBOUR: 'it returns false'. Refute it at one input. -/
def insnOpsWrong : ChangeSpec := { name := "insnOps", fn := fun _ => fun
  | [d1, d2, d3] => { results := [.lit (.bool false)], args := [d1, d2, d3] }
  | _ => none }
def InsnOpsWrongFalsely : Prop := insnOpsRow.holds Try.pinned (OpenSpec.ofChange insnOpsWrong)

/-- 'parapetlaw03.InsnFew': WHATEVER THE INPUT: true; the input reads as it did. -/
def insnFewSpec : ChangeSpec := { name := "insnFew", fn := fun _ => fun
  | [d1, d2, d3] => { results := [.lit (.bool true)], args := [d1, d2, d3] }
  | _ => none }
def insnFewRow : OpenClaim := { program := "ytjmdikabikgjhaa", sum := "1a1e5e2000d8b03821eac3c9e6701854359c7ea3ffb2bc303d4c93327ff79d89", func := "parapet/parapetlaw03.InsnFew", spec := "insnFew", apart := false }
def InsnFewSaid : Prop := insnFewRow.holds Try.pinned (OpenSpec.ofChange insnFewSpec)

/-- ITS FALSE NEIGHBOUR: 'it returns false'. Refute it at one input. -/
def insnFewWrong : ChangeSpec := { name := "insnFew", fn := fun _ => fun
  | [d1, d2, d3] => { results := [.lit (.bool false)], args := [d1, d2, d3] }
  | _ => none }
def InsnFewWrongFalsely : Prop := insnFewRow.holds Try.pinned (OpenSpec.ofChange insnFewWrong)

/-- 'parapetlaw03.InsnRuns': WHATEVER THE INPUT: true; the input reads as it did. -/
def insnRunsSpec : ChangeSpec := { name := "insnRuns", fn := fun _ => fun
  | [d1, d2] => { results := [.lit (.bool true)], args := [d1, d2] }
  | _ => none }
def insnRunsRow : OpenClaim := { program := "ytjmdikabikgjhaa", sum := "1a1e5e2000d8b03821eac3c9e6701854359c7ea3ffb2bc303d4c93327ff79d89", func := "parapet/parapetlaw03.InsnRuns", spec := "insnRuns", apart := false }
def InsnRunsSaid : Prop := insnRunsRow.holds Try.pinned (OpenSpec.ofChange insnRunsSpec)

/-- ITS FALSE NEIGHBOUR: 'it returns false'. Refute it at one input. -/
def insnRunsWrong : ChangeSpec := { name := "insnRuns", fn := fun _ => fun
  | [d1, d2] => { results := [.lit (.bool false)], args := [d1, d2] }
  | _ => none }
def InsnRunsWrongFalsely : Prop := insnRunsRow.holds Try.pinned (OpenSpec.ofChange insnRunsWrong)

/- THE SECOND FORM. 'bulk': how many values and letters a reading holds, each counted each time it is reached (what is shared counts as often as it is met; a slice's spare places count too). A statement '..UptoSaid' is the law's where the arguments, and the package variables that the reading takes, are together of bulk at most 1048576: NARROWER than '..Said'. Prove '..Said' where nothing that the law and all that it calls make is longer than what came in: it says more and counts as full. Else prove '..UptoSaid'. A law counts once. -/
mutual
def uptoBulk {H : Type} : DataW H → Nat
  | .lit (.string bytes) => bytes.length + 1
  | .lit _ => 1
  | .nil => 1
  | .ptr d => uptoBulk d + 1
  | .slice elems spare => uptoBulkAll elems + uptoBulkAll spare + 1
  | .agg parts => uptoBulkAll parts + 1
  | .iface _ d => uptoBulk d + 1
  | .map entries => uptoBulkEntries entries + 1
  | .held _ => 1
def uptoBulkAll {H : Type} : List (DataW H) → Nat
  | [] => 0
  | d :: r => uptoBulk d + uptoBulkAll r
def uptoBulkEntries {H : Type} : List (Lit × DataW H) → Nat
  | [] => 0
  | x :: r => uptoBulkEntry x + uptoBulkEntries r
def uptoBulkEntry {H : Type} : Lit × DataW H → Nat
  | (.string bytes, d) => bytes.length + uptoBulk d + 1
  | (_, d) => uptoBulk d + 1
 end
def uptoSmall : (H : Type) → List (DataW H) → Bool := fun _ ds => decide (uptoBulkAll ds ≤ 1048576)
def OpenSpec.upto (s : _root_.Go.ChangeSpec) : _root_.Go.OpenSpec := { _root_.Go.OpenSpec.ofChange s with cond := some uptoSmall }

/-- 'parapetlaw03.InsnDecodes', WHERE WHAT IT READS IS OF BULK AT MOST 1048576: true; the input reads as it did. -/
def insnDecodesUptoRow : OpenClaim := { program := "ytjmdikabikgjhaa", sum := "1a1e5e2000d8b03821eac3c9e6701854359c7ea3ffb2bc303d4c93327ff79d89", func := "parapet/parapetlaw03.InsnDecodes", spec := "insnDecodes", apart := false, narrowed := true }
def InsnDecodesUptoSaid : Prop := insnDecodesUptoRow.holds Try.pinned (OpenSpec.upto insnDecodesSpec)

/-- 'parapetlaw03.InsnEncodes', WHERE WHAT IT READS IS OF BULK AT MOST 1048576: true; the input reads as it did. -/
def insnEncodesUptoRow : OpenClaim := { program := "ytjmdikabikgjhaa", sum := "1a1e5e2000d8b03821eac3c9e6701854359c7ea3ffb2bc303d4c93327ff79d89", func := "parapet/parapetlaw03.InsnEncodes", spec := "insnEncodes", apart := false, narrowed := true }
def InsnEncodesUptoSaid : Prop := insnEncodesUptoRow.holds Try.pinned (OpenSpec.upto insnEncodesSpec)

/-- 'parapetlaw03.InsnWraps', WHERE WHAT IT READS IS OF BULK AT MOST 1048576: true; the input reads as it did. -/
def insnWrapsUptoRow : OpenClaim := { program := "ytjmdikabikgjhaa", sum := "1a1e5e2000d8b03821eac3c9e6701854359c7ea3ffb2bc303d4c93327ff79d89", func := "parapet/parapetlaw03.InsnWraps", spec := "insnWraps", apart := false, narrowed := true }
def InsnWrapsUptoSaid : Prop := insnWrapsUptoRow.holds Try.pinned (OpenSpec.upto insnWrapsSpec)

/-- 'parapetlaw03.InsnSteps', WHERE WHAT IT READS IS OF BULK AT MOST 1048576: true; the input reads as it did. -/
def insnStepsUptoRow : OpenClaim := { program := "ytjmdikabikgjhaa", sum := "1a1e5e2000d8b03821eac3c9e6701854359c7ea3ffb2bc303d4c93327ff79d89", func := "parapet/parapetlaw03.InsnSteps", spec := "insnSteps", apart := false, narrowed := true }
def InsnStepsUptoSaid : Prop := insnStepsUptoRow.holds Try.pinned (OpenSpec.upto insnStepsSpec)

/-- 'parapetlaw03.InsnOps', WHERE WHAT IT READS IS OF BULK AT MOST 1048576: true; the input reads as it did. -/
def insnOpsUptoRow : OpenClaim := { program := "ytjmdikabikgjhaa", sum := "1a1e5e2000d8b03821eac3c9e6701854359c7ea3ffb2bc303d4c93327ff79d89", func := "parapet/parapetlaw03.InsnOps", spec := "insnOps", apart := false, narrowed := true }
def InsnOpsUptoSaid : Prop := insnOpsUptoRow.holds Try.pinned (OpenSpec.upto insnOpsSpec)

/-- 'parapetlaw03.InsnFew', WHERE WHAT IT READS IS OF BULK AT MOST 1048576: true; the input reads as it did. -/
def insnFewUptoRow : OpenClaim := { program := "ytjmdikabikgjhaa", sum := "1a1e5e2000d8b03821eac3c9e6701854359c7ea3ffb2bc303d4c93327ff79d89", func := "parapet/parapetlaw03.InsnFew", spec := "insnFew", apart := false, narrowed := true }
def InsnFewUptoSaid : Prop := insnFewUptoRow.holds Try.pinned (OpenSpec.upto insnFewSpec)

/-- 'parapetlaw03.InsnRuns', WHERE WHAT IT READS IS OF BULK AT MOST 1048576: true; the input reads as it did. -/
def insnRunsUptoRow : OpenClaim := { program := "ytjmdikabikgjhaa", sum := "1a1e5e2000d8b03821eac3c9e6701854359c7ea3ffb2bc303d4c93327ff79d89", func := "parapet/parapetlaw03.InsnRuns", spec := "insnRuns", apart := false, narrowed := true }
def InsnRunsUptoSaid : Prop := insnRunsUptoRow.holds Try.pinned (OpenSpec.upto insnRunsSpec)

end Rows
end Go.Proofs.Ytjmdikabikgjhaa
