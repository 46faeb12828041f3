/-
  No cell of these rows narrows 'for every input' (looked for: loops, veiled, ifaces, maps, wideKeys, modest, calm, conditions, laid).
  DERIVED. THE GIVEN ROWS OF THIS SEAT. 6 by the template 'for every input the law returns true; each argument reads behind the call as it read before'; 0 by the template 'total and deterministic' (their statements: YtphikmdgdbdaiaaTotals.lean).
  GIVEN WITH THE SEED: the statements are not yours to turn. If you find one false, say at which input.
  Laid BY PROGRAM, IN A SANDBOX (cutbox-rows.mjs): the forced cells as the released guide's own fill.sh prints them over the translation b06c6176275d8b0b… (all of the seat's roots in one cut). By AI agents, Wed Nov 11 2026. No macro, syntax, notation, axiom, sorry.
-/
import Derived.Test.YtphikmdgdbdaiaaChecked
import GoSem.Claim
import GoSem.ClaimJoined
import GoSem.ClaimMapViews
import Derived.JoinedTies
import Derived.KernelRfl
namespace Go.Proofs.Ytphikmdgdbdaiaa
/- THE CELL 'sum', in the pinned program and in every row, IS THE sha256 OF THE DUMP (.gsa) THAT YtphikmdgdbdaiaaProg.lean LOADS. Nothing in Lean hashes anything: it is a label: what it is worth is what the hold of that sum in a sandbox is worth. -/
noncomputable def Try.pinned : Pinned := { name := "ytphikmdgdbdaiaa", sum := "b06c6176275d8b0b2d8b4fa33038de4ad31c136a9d3694bab28d28e8a645f162", checked := Try.checked }
namespace Rows
def none {H : Type} : Left H := { results := [], args := [] }

/-- 'parapetlaw11.RunqTurn': WHATEVER THE INPUT: true; the input reads as it did. -/
def runqTurnSpec : ChangeSpec := { name := "runqTurn", fn := fun _ => fun
  | [d1, d2] => { results := [.lit (.bool true)], args := [d1, d2] }
  | _ => none }
def runqTurnRow : OpenClaim := { program := "ytphikmdgdbdaiaa", sum := "b06c6176275d8b0b2d8b4fa33038de4ad31c136a9d3694bab28d28e8a645f162", func := "parapet/parapetlaw11.RunqTurn", spec := "runqTurn", apart := false }
def RunqTurnSaid : Prop := runqTurnRow.holds Try.pinned (OpenSpec.ofChange runqTurnSpec)

/-- ITS FALSE NEIGHBOUR: 'it returns false'. Refute it at one input. -/
def runqTurnWrong : ChangeSpec := { name := "runqTurn", fn := fun _ => fun
  | [d1, d2] => { results := [.lit (.bool false)], args := [d1, d2] }
  | _ => none }
def RunqTurnWrongFalsely : Prop := runqTurnRow.holds Try.pinned (OpenSpec.ofChange runqTurnWrong)

/-- 'parapetlaw11.RunqAll': WHATEVER THE INPUT: true; the input reads as it did. -/
def runqAllSpec : ChangeSpec := { name := "runqAll", fn := fun _ => fun
  | [d1, d2, d3] => { results := [.lit (.bool true)], args := [d1, d2, d3] }
  | _ => none }
def runqAllRow : OpenClaim := { program := "ytphikmdgdbdaiaa", sum := "b06c6176275d8b0b2d8b4fa33038de4ad31c136a9d3694bab28d28e8a645f162", func := "parapet/parapetlaw11.RunqAll", spec := "runqAll", apart := false }
def RunqAllSaid : Prop := runqAllRow.holds Try.pinned (OpenSpec.ofChange runqAllSpec)

/-- ITS FALSE NEIGHBOUR: 'it returns false'. Refute it at one input. -/
def runqAllWrong : ChangeSpec := { name := "runqAll", fn := fun _ => fun
  | [d1, d2, d3] => { results := [.lit (.bool false)], args := [d1, d2, d3] }
  | _ => none }
def RunqAllWrongFalsely : Prop := runqAllRow.holds Try.pinned (OpenSpec.ofChange runqAllWrong)

/-- 'parapetlaw11.RunqFinds': WHATEVER THE INPUT: true; the input reads as it did. -/
def runqFindsSpec : ChangeSpec := { name := "runqFinds", fn := fun _ => fun
  | [d1, d2, d3] => { results := [.lit (.bool true)], args := [d1, d2, d3] }
  | _ => none }
def runqFindsRow : OpenClaim := { program := "ytphikmdgdbdaiaa", sum := "b06c6176275d8b0b2d8b4fa33038de4ad31c136a9d3694bab28d28e8a645f162", func := "parapet/parapetlaw11.RunqFinds", spec := "runqFinds", apart := false }
def RunqFindsSaid : Prop := runqFindsRow.holds Try.pinned (OpenSpec.ofChange runqFindsSpec)

/-- ITS FALSE NEIGHBOUR: 'it returns false'. Refute it at one input. -/
def runqFindsWrong : ChangeSpec := { name := "runqFinds", fn := fun _ => fun
  | [d1, d2, d3] => { results := [.lit (.bool false)], args := [d1, d2, d3] }
  | _ => none }
def RunqFindsWrongFalsely : Prop := runqFindsRow.holds Try.pinned (OpenSpec.ofChange runqFindsWrong)

/-- 'parapetlaw11.RunqOnce': WHATEVER THE INPUT: true; the input reads as it did. -/
def runqOnceSpec : ChangeSpec := { name := "runqOnce", fn := fun _ => fun
  | [d1, d2] => { results := [.lit (.bool true)], args := [d1, d2] }
  | _ => none }
def runqOnceRow : OpenClaim := { program := "ytphikmdgdbdaiaa", sum := "b06c6176275d8b0b2d8b4fa33038de4ad31c136a9d3694bab28d28e8a645f162", func := "parapet/parapetlaw11.RunqOnce", spec := "runqOnce", unfollowed := true, recurses := true, apart := false }
def RunqOnceSaid : Prop := runqOnceRow.holds Try.pinned (OpenSpec.ofChange runqOnceSpec)

/-- ITS FALSE NEIGHBOUR: 'it returns false'. Refute it at one input. -/
def runqOnceWrong : ChangeSpec := { name := "runqOnce", fn := fun _ => fun
  | [d1, d2] => { results := [.lit (.bool false)], args := [d1, d2] }
  | _ => none }
def RunqOnceWrongFalsely : Prop := runqOnceRow.holds Try.pinned (OpenSpec.ofChange runqOnceWrong)

/-- 'parapetlaw11.RunqPlays': WHATEVER THE INPUT: true; the input reads as it did. -/
def runqPlaysSpec : ChangeSpec := { name := "runqPlays", fn := fun _ => fun
  | [d1, d2] => { results := [.lit (.bool true)], args := [d1, d2] }
  | _ => none }
def runqPlaysRow : OpenClaim := { program := "ytphikmdgdbdaiaa", sum := "b06c6176275d8b0b2d8b4fa33038de4ad31c136a9d3694bab28d28e8a645f162", func := "parapet/parapetlaw11.RunqPlays", spec := "runqPlays", unfollowed := true, recurses := true, apart := false }
def RunqPlaysSaid : Prop := runqPlaysRow.holds Try.pinned (OpenSpec.ofChange runqPlaysSpec)

/-- ITS FALSE NEIGHBOUR: 'it returns false'. Refute it at one input. -/
def runqPlaysWrong : ChangeSpec := { name := "runqPlays", fn := fun _ => fun
  | [d1, d2] => { results := [.lit (.bool false)], args := [d1, d2] }
  | _ => none }
def RunqPlaysWrongFalsely : Prop := runqPlaysRow.holds Try.pinned (OpenSpec.ofChange runqPlaysWrong)

/-- 'parapetlaw11.RunqNobody': WHATEVER THE INPUT: true; the input reads as it did. -/
def runqNobodySpec : ChangeSpec := { name := "runqNobody", fn := fun _ => fun
  | [d1, d2] => { results := [.lit (.bool true)], args := [d1, d2] }
  | _ => none }
def runqNobodyRow : OpenClaim := { program := "ytphikmdgdbdaiaa", sum := "b06c6176275d8b0b2d8b4fa33038de4ad31c136a9d3694bab28d28e8a645f162", func := "parapet/parapetlaw11.RunqNobody", spec := "runqNobody", unfollowed := true, recurses := true, apart := false }
def RunqNobodySaid : Prop := runqNobodyRow.holds Try.pinned (OpenSpec.ofChange runqNobodySpec)

/-- ITS FALSE NEIGHBOUR: 'it returns false'. Refute it at one input. -/
def runqNobodyWrong : ChangeSpec := { name := "runqNobody", fn := fun _ => fun
  | [d1, d2] => { results := [.lit (.bool false)], args := [d1, d2] }
  | _ => none }
def RunqNobodyWrongFalsely : Prop := runqNobodyRow.holds Try.pinned (OpenSpec.ofChange runqNobodyWrong)

/- THE SECOND FORM. 'bulk': how many values and letters a reading holds, each counted each time it is reached (what is shared counts as often as it is met; a slice's spare places count too). A statement '..UptoSaid' is the law's where the arguments, and the package variables that the reading takes, are together of bulk at most 1048576: NARROWER than '..Said'. Prove '..Said' where nothing that the law and all that it calls make is longer than what came in: it says more and counts as full. Else prove '..UptoSaid'. A law counts once. -/
mutual
def uptoBulk {H : Type} : DataW H → Nat
  | .lit (.string bytes) => bytes.length + 1
  | .lit _ => 1
  | .nil => 1
  | .ptr d => uptoBulk d + 1
  | .slice elems spare => uptoBulkAll elems + uptoBulkAll spare + 1
  | .agg parts => uptoBulkAll parts + 1
  | .iface _ d => uptoBulk d + 1
  | .map entries => uptoBulkEntries entries + 1
  | .held _ => 1
def uptoBulkAll {H : Type} : List (DataW H) → Nat
  | [] => 0
  | d :: r => uptoBulk d + uptoBulkAll r
def uptoBulkEntries {H : Type} : List (Lit × DataW H) → Nat
  | [] => 0
  | x :: r => uptoBulkEntry x + uptoBulkEntries r
def uptoBulkEntry {H : Type} : Lit × DataW H → Nat
  | (.string bytes, d) => bytes.length + uptoBulk d + 1
  | (_, d) => uptoBulk d + 1
 end
def uptoSmall : (H : Type) → List (DataW H) → Bool := fun _ ds => decide (uptoBulkAll ds ≤ 1048576)
def OpenSpec.upto (s : _root_.Go.ChangeSpec) : _root_.Go.OpenSpec := { _root_.Go.OpenSpec.ofChange s with cond := some uptoSmall }

/-- 'parapetlaw11.RunqTurn', WHERE WHAT IT READS IS OF BULK AT MOST 1048576: true; the input reads as it did. -/
def runqTurnUptoRow : OpenClaim := { program := "ytphikmdgdbdaiaa", sum := "b06c6176275d8b0b2d8b4fa33038de4ad31c136a9d3694bab28d28e8a645f162", func := "parapet/parapetlaw11.RunqTurn", spec := "runqTurn", apart := false, narrowed := true }
def RunqTurnUptoSaid : Prop := runqTurnUptoRow.holds Try.pinned (OpenSpec.upto runqTurnSpec)

/-- 'parapetlaw11.RunqAll', WHERE WHAT IT READS IS OF BULK AT MOST 1048576: true; the input reads as it did. -/
def runqAllUptoRow : OpenClaim := { program := "ytphikmdgdbdaiaa", sum := "b06c6176275d8b0b2d8b4fa33038de4ad31c136a9d3694bab28d28e8a645f162", func := "parapet/parapetlaw11.RunqAll", spec := "runqAll", apart := false, narrowed := true }
def RunqAllUptoSaid : Prop := runqAllUptoRow.holds Try.pinned (OpenSpec.upto runqAllSpec)

/-- 'parapetlaw11.RunqFinds', WHERE WHAT IT READS IS OF BULK AT MOST 1048576: true; the input reads as it did. -/
def runqFindsUptoRow : OpenClaim := { program := "ytphikmdgdbdaiaa", sum := "b06c6176275d8b0b2d8b4fa33038de4ad31c136a9d3694bab28d28e8a645f162", func := "parapet/parapetlaw11.RunqFinds", spec := "runqFinds", apart := false, narrowed := true }
def RunqFindsUptoSaid : Prop := runqFindsUptoRow.holds Try.pinned (OpenSpec.upto runqFindsSpec)

/-- 'parapetlaw11.RunqOnce', WHERE WHAT IT READS IS OF BULK AT MOST 1048576: true; the input reads as it did. -/
def runqOnceUptoRow : OpenClaim := { program := "ytphikmdgdbdaiaa", sum := "b06c6176275d8b0b2d8b4fa33038de4ad31c136a9d3694bab28d28e8a645f162", func := "parapet/parapetlaw11.RunqOnce", spec := "runqOnce", unfollowed := true, recurses := true, apart := false, narrowed := true }
def RunqOnceUptoSaid : Prop := runqOnceUptoRow.holds Try.pinned (OpenSpec.upto runqOnceSpec)

/-- 'parapetlaw11.RunqPlays', WHERE WHAT IT READS IS OF BULK AT MOST 1048576: true; the input reads as it did. -/
def runqPlaysUptoRow : OpenClaim := { program := "ytphikmdgdbdaiaa", sum := "b06c6176275d8b0b2d8b4fa33038de4ad31c136a9d3694bab28d28e8a645f162", func := "parapet/parapetlaw11.RunqPlays", spec := "runqPlays", unfollowed := true, recurses := true, apart := false, narrowed := true }
def RunqPlaysUptoSaid : Prop := runqPlaysUptoRow.holds Try.pinned (OpenSpec.upto runqPlaysSpec)

/-- 'parapetlaw11.RunqNobody', WHERE WHAT IT READS IS OF BULK AT MOST 1048576: true; the input reads as it did. -/
def runqNobodyUptoRow : OpenClaim := { program := "ytphikmdgdbdaiaa", sum := "b06c6176275d8b0b2d8b4fa33038de4ad31c136a9d3694bab28d28e8a645f162", func := "parapet/parapetlaw11.RunqNobody", spec := "runqNobody", unfollowed := true, recurses := true, apart := false, narrowed := true }
def RunqNobodyUptoSaid : Prop := runqNobodyUptoRow.holds Try.pinned (OpenSpec.upto runqNobodySpec)

end Rows
end Go.Proofs.Ytphikmdgdbdaiaa
