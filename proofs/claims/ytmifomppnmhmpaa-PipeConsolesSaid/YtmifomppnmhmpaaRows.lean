/-
  No cell of these rows narrows 'for every input' (looked for: loops, veiled, ifaces, maps, wideKeys, modest, calm, conditions, laid).
  DERIVED. THE GIVEN ROWS OF THIS SEAT. 6 by the template 'for every input the law returns true; each argument reads behind the call as it read before'; 0 by the template 'total and deterministic' (their statements: YtmifomppnmhmpaaTotals.lean).
  GIVEN WITH THE SEED: the statements are not yours to turn. If you find one false, say at which input.
  Laid BY PROGRAM, IN A SANDBOX (cutbox-rows.mjs): the forced cells as the released guide's own fill.sh prints them over the translation 5a6f6cc05922240b… (all of the seat's roots in one cut). By AI agents, Wed Nov 11 2026. No macro, syntax, notation, axiom, sorry.
-/
import Derived.Test.YtmifomppnmhmpaaChecked
import GoSem.Claim
import GoSem.ClaimJoined
import GoSem.ClaimMapViews
import Derived.JoinedTies
import Derived.KernelRfl
namespace Go.Proofs.Ytmifomppnmhmpaa
/- THE CELL 'sum', in the pinned program and in every row, IS THE sha256 OF THE DUMP (.gsa) THAT YtmifomppnmhmpaaProg.lean LOADS. Nothing in Lean hashes anything: it is a label: what it is worth is what the hold of that sum in a sandbox is worth. -/
noncomputable def Try.pinned : Pinned := { name := "ytmifomppnmhmpaa", sum := "5a6f6cc05922240b5c86ee775293eec181edd39f6c401c151681b8bbcc80596d", checked := Try.checked }
namespace Rows
def none {H : Type} : Left H := { results := [], args := [] }

/-- 'parapetlaw21.PipeOrder': WHATEVER THE INPUT: true; the input reads as it did. -/
def pipeOrderSpec : ChangeSpec := { name := "pipeOrder", fn := fun _ => fun
  | [d] => { results := [.lit (.bool true)], args := [d] }
  | _ => none }
def pipeOrderRow : OpenClaim := { program := "ytmifomppnmhmpaa", sum := "5a6f6cc05922240b5c86ee775293eec181edd39f6c401c151681b8bbcc80596d", func := "parapet/parapetlaw21.PipeOrder", spec := "pipeOrder", apart := false }
def PipeOrderSaid : Prop := pipeOrderRow.holds Try.pinned (OpenSpec.ofChange pipeOrderSpec)

/-- ITS FALSE NEIGHBOUR: 'it returns false'. Refute it at one input. -/
def pipeOrderWrong : ChangeSpec := { name := "pipeOrder", fn := fun _ => fun
  | [d] => { results := [.lit (.bool false)], args := [d] }
  | _ => none }
def PipeOrderWrongFalsely : Prop := pipeOrderRow.holds Try.pinned (OpenSpec.ofChange pipeOrderWrong)

/-- 'parapetlaw21.PipePieces': WHATEVER THE INPUT: true; the input reads as it did. -/
def pipePiecesSpec : ChangeSpec := { name := "pipePieces", fn := fun _ => fun
  | [d1, d2, d3] => { results := [.lit (.bool true)], args := [d1, d2, d3] }
  | _ => none }
def pipePiecesRow : OpenClaim := { program := "ytmifomppnmhmpaa", sum := "5a6f6cc05922240b5c86ee775293eec181edd39f6c401c151681b8bbcc80596d", func := "parapet/parapetlaw21.PipePieces", spec := "pipePieces", apart := false }
def PipePiecesSaid : Prop := pipePiecesRow.holds Try.pinned (OpenSpec.ofChange pipePiecesSpec)

/-- ITS FALSE NEIGHBOUR: 'it returns false'. Refute it at one input. -/
def pipePiecesWrong : ChangeSpec := { name := "pipePieces", fn := fun _ => fun
  | [d1, d2, d3] => { results := [.lit (.bool false)], args := [d1, d2, d3] }
  | _ => none }
def PipePiecesWrongFalsely : Prop := pipePiecesRow.holds Try.pinned (OpenSpec.ofChange pipePiecesWrong)

/-- 'parapetlaw21.PipeEnds': WHATEVER THE INPUT: true; the input reads as it did. -/
def pipeEndsSpec : ChangeSpec := { name := "pipeEnds", fn := fun _ => fun
  | [d1, d2] => { results := [.lit (.bool true)], args := [d1, d2] }
  | _ => none }
def pipeEndsRow : OpenClaim := { program := "ytmifomppnmhmpaa", sum := "5a6f6cc05922240b5c86ee775293eec181edd39f6c401c151681b8bbcc80596d", func := "parapet/parapetlaw21.PipeEnds", spec := "pipeEnds", apart := false }
def PipeEndsSaid : Prop := pipeEndsRow.holds Try.pinned (OpenSpec.ofChange pipeEndsSpec)

/-- ITS FALSE NEIGHBOUR: 'it returns false'. Refute it at one input. -/
def pipeEndsWrong : ChangeSpec := { name := "pipeEnds", fn := fun _ => fun
  | [d1, d2] => { results := [.lit (.bool false)], args := [d1, d2] }
  | _ => none }
def PipeEndsWrongFalsely : Prop := pipeEndsRow.holds Try.pinned (OpenSpec.ofChange pipeEndsWrong)

/-- 'parapetlaw21.PipePlays': WHATEVER THE INPUT: true; the input reads as it did. -/
def pipePlaysSpec : ChangeSpec := { name := "pipePlays", fn := fun _ => fun
  | [d] => { results := [.lit (.bool true)], args := [d] }
  | _ => none }
def pipePlaysRow : OpenClaim := { program := "ytmifomppnmhmpaa", sum := "5a6f6cc05922240b5c86ee775293eec181edd39f6c401c151681b8bbcc80596d", func := "parapet/parapetlaw21.PipePlays", spec := "pipePlays", apart := false }
def PipePlaysSaid : Prop := pipePlaysRow.holds Try.pinned (OpenSpec.ofChange pipePlaysSpec)

/-- ITS FALSE NEIGHBOUR: 'it returns false'. Refute it at one input. -/
def pipePlaysWrong : ChangeSpec := { name := "pipePlays", fn := fun _ => fun
  | [d] => { results := [.lit (.bool false)], args := [d] }
  | _ => none }
def PipePlaysWrongFalsely : Prop := pipePlaysRow.holds Try.pinned (OpenSpec.ofChange pipePlaysWrong)

/-- 'parapetlaw21.PipeConsoles': WHATEVER THE INPUT: true; the input reads as it did. -/
def pipeConsolesSpec : ChangeSpec := { name := "pipeConsoles", fn := fun _ => fun
  | [d] => { results := [.lit (.bool true)], args := [d] }
  | _ => none }
def pipeConsolesRow : OpenClaim := { program := "ytmifomppnmhmpaa", sum := "5a6f6cc05922240b5c86ee775293eec181edd39f6c401c151681b8bbcc80596d", func := "parapet/parapetlaw21.PipeConsoles", spec := "pipeConsoles", apart := false }
def PipeConsolesSaid : Prop := pipeConsolesRow.holds Try.pinned (OpenSpec.ofChange pipeConsolesSpec)

/-- ITS FALSE NEIGHBOUR: 'it returns false'. Refute it at one input. -/
def pipeConsolesWrong : ChangeSpec := { name := "pipeConsoles", fn := fun _ => fun
  | [d] => { results := [.lit (.bool false)], args := [d] }
  | _ => none }
def PipeConsolesWrongFalsely : Prop := pipeConsolesRow.holds Try.pinned (OpenSpec.ofChange pipeConsolesWrong)

/-- 'parapetlaw21.PipeNobody': WHATEVER THE INPUT: true; the input reads as it did. -/
def pipeNobodySpec : ChangeSpec := { name := "pipeNobody", fn := fun _ => fun
  | [d1, d2] => { results := [.lit (.bool true)], args := [d1, d2] }
  | _ => none }
def pipeNobodyRow : OpenClaim := { program := "ytmifomppnmhmpaa", sum := "5a6f6cc05922240b5c86ee775293eec181edd39f6c401c151681b8bbcc80596d", func := "parapet/parapetlaw21.PipeNobody", spec := "pipeNobody", apart := false }
def PipeNobodySaid : Prop := pipeNobodyRow.holds Try.pinned (OpenSpec.ofChange pipeNobodySpec)

/-- ITS FALSE NEIGHBOUR: 'it returns false'. Refute it at one input. -/
def pipeNobodyWrong : ChangeSpec := { name := "pipeNobody", fn := fun _ => fun
  | [d1, d2] => { results := [.lit (.bool false)], args := [d1, d2] }
  | _ => none }
def PipeNobodyWrongFalsely : Prop := pipeNobodyRow.holds Try.pinned (OpenSpec.ofChange pipeNobodyWrong)

/- THE SECOND FORM. 'bulk': how many values and letters a reading holds, each counted each time it is reached (what is shared counts as often as it is met; a slice's spare places count too). A statement '..UptoSaid' is the law's where the arguments, and the package variables that the reading takes, are together of bulk at most 1048576: NARROWER than '..Said'. Prove '..Said' where nothing that the law and all that it calls make is longer than what came in: it says more and counts as full. Else prove '..UptoSaid'. A law counts once. -/
mutual
def uptoBulk {H : Type} : DataW H → Nat
  | .lit (.string bytes) => bytes.length + 1
  | .lit _ => 1
  | .nil => 1
  | .ptr d => uptoBulk d + 1
  | .slice elems spare => uptoBulkAll elems + uptoBulkAll spare + 1
  | .agg parts => uptoBulkAll parts + 1
  | .iface _ d => uptoBulk d + 1
  | .map entries => uptoBulkEntries entries + 1
  | .held _ => 1
def uptoBulkAll {H : Type} : List (DataW H) → Nat
  | [] => 0
  | d :: r => uptoBulk d + uptoBulkAll r
def uptoBulkEntries {H : Type} : List (Lit × DataW H) → Nat
  | [] => 0
  | x :: r => uptoBulkEntry x + uptoBulkEntries r
def uptoBulkEntry {H : Type} : Lit × DataW H → Nat
  | (.string bytes, d) => bytes.length + uptoBulk d + 1
  | (_, d) => uptoBulk d + 1
 end
def uptoSmall : (H : Type) → List (DataW H) → Bool := fun _ ds => decide (uptoBulkAll ds ≤ 1048576)
def OpenSpec.upto (s : _root_.Go.ChangeSpec) : _root_.Go.OpenSpec := { _root_.Go.OpenSpec.ofChange s with cond := some uptoSmall }

/-- 'parapetlaw21.PipeOrder', WHERE WHAT IT READS IS OF BULK AT MOST 1048576: true; the input reads as it did. -/
def pipeOrderUptoRow : OpenClaim := { program := "ytmifomppnmhmpaa", sum := "5a6f6cc05922240b5c86ee775293eec181edd39f6c401c151681b8bbcc80596d", func := "parapet/parapetlaw21.PipeOrder", spec := "pipeOrder", apart := false, narrowed := true }
def PipeOrderUptoSaid : Prop := pipeOrderUptoRow.holds Try.pinned (OpenSpec.upto pipeOrderSpec)

/-- 'parapetlaw21.PipePieces', WHERE WHAT IT READS IS OF BULK AT MOST 1048576: true; the input reads as it did. -/
def pipePiecesUptoRow : OpenClaim := { program := "ytmifomppnmhmpaa", sum := "5a6f6cc05922240b5c86ee775293eec181edd39f6c401c151681b8bbcc80596d", func := "parapet/parapetlaw21.PipePieces", spec := "pipePieces", apart := false, narrowed := true }
def PipePiecesUptoSaid : Prop := pipePiecesUptoRow.holds Try.pinned (OpenSpec.upto pipePiecesSpec)

/-- 'parapetlaw21.PipeEnds', WHERE WHAT IT READS IS OF BULK AT MOST 1048576: true; the input reads as it did. -/
def pipeEndsUptoRow : OpenClaim := { program := "ytmifomppnmhmpaa", sum := "5a6f6cc05922240b5c86ee775293eec181edd39f6c401c151681b8bbcc80596d", func := "parapet/parapetlaw21.PipeEnds", spec := "pipeEnds", apart := false, narrowed := true }
def PipeEndsUptoSaid : Prop := pipeEndsUptoRow.holds Try.pinned (OpenSpec.upto pipeEndsSpec)

/-- 'parapetlaw21.PipePlays', WHERE WHAT IT READS IS OF BULK AT MOST 1048576: true; the input reads as it did. -/
def pipePlaysUptoRow : OpenClaim := { program := "ytmifomppnmhmpaa", sum := "5a6f6cc05922240b5c86ee775293eec181edd39f6c401c151681b8bbcc80596d", func := "parapet/parapetlaw21.PipePlays", spec := "pipePlays", apart := false, narrowed := true }
def PipePlaysUptoSaid : Prop := pipePlaysUptoRow.holds Try.pinned (OpenSpec.upto pipePlaysSpec)

/-- 'parapetlaw21.PipeConsoles', WHERE WHAT IT READS IS OF BULK AT MOST 1048576: true; the input reads as it did. -/
def pipeConsolesUptoRow : OpenClaim := { program := "ytmifomppnmhmpaa", sum := "5a6f6cc05922240b5c86ee775293eec181edd39f6c401c151681b8bbcc80596d", func := "parapet/parapetlaw21.PipeConsoles", spec := "pipeConsoles", apart := false, narrowed := true }
def PipeConsolesUptoSaid : Prop := pipeConsolesUptoRow.holds Try.pinned (OpenSpec.upto pipeConsolesSpec)

/-- 'parapetlaw21.PipeNobody', WHERE WHAT IT READS IS OF BULK AT MOST 1048576: true; the input reads as it did. -/
def pipeNobodyUptoRow : OpenClaim := { program := "ytmifomppnmhmpaa", sum := "5a6f6cc05922240b5c86ee775293eec181edd39f6c401c151681b8bbcc80596d", func := "parapet/parapetlaw21.PipeNobody", spec := "pipeNobody", apart := false, narrowed := true }
def PipeNobodyUptoSaid : Prop := pipeNobodyUptoRow.holds Try.pinned (OpenSpec.upto pipeNobodySpec)

end Rows
end Go.Proofs.Ytmifomppnmhmpaa
