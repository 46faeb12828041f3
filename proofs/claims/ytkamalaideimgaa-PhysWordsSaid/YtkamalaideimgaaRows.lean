/-
  No cell of these rows narrows 'for every input' (looked for: loops, veiled, ifaces, maps, wideKeys, modest, calm, conditions, laid).
  DERIVED. THE GIVEN ROWS OF THIS SEAT. 3 by the template 'for every input the law returns true; each argument reads behind the call as it read before'; 0 by the template 'total and deterministic' (their statements: YtkamalaideimgaaTotals.lean).
  GIVEN WITH THE SEED: the statements are not yours to turn. If you find one false, say at which input.
  Laid BY PROGRAM, IN A SANDBOX (cutbox-rows.mjs): the forced cells as the released guide's own fill.sh prints them over the translation 0a3f57b93ed9f84e… (all of the seat's roots in one cut). By AI agents, Wed Nov 11 2026. No macro, syntax, notation, axiom, sorry.
-/
import Derived.Test.YtkamalaideimgaaChecked
import GoSem.Claim
import GoSem.ClaimJoined
import GoSem.ClaimMapViews
import Derived.JoinedTies
import Derived.KernelRfl
namespace Go.Proofs.Ytkamalaideimgaa
/- THE CELL 'sum', in the pinned program and in every row, IS THE sha256 OF THE DUMP (.gsa) THAT YtkamalaideimgaaProg.lean LOADS. Nothing in Lean hashes anything: it is a label: what it is worth is what the hold of that sum in a sandbox is worth. -/
noncomputable def Try.pinned : Pinned := { name := "ytkamalaideimgaa", sum := "0a3f57b93ed9f84e435e143a60425420e21535999a670a6e134583c8708453dd", checked := Try.checked }
namespace Rows
def none {H : Type} : Left H := { results := [], args := [] }

/-- 'parapetlaw01.PhysOnce': WHATEVER THE INPUT: true; the input reads as it did. -/
def physOnceSpec : ChangeSpec := { name := "physOnce", fn := fun _ => fun
  | [d1, d2, d3] => { results := [.lit (.bool true)], args := [d1, d2, d3] }
  | _ => none }
def physOnceRow : OpenClaim := { program := "ytkamalaideimgaa", sum := "0a3f57b93ed9f84e435e143a60425420e21535999a670a6e134583c8708453dd", func := "parapet/parapetlaw01.PhysOnce", spec := "physOnce", apart := false }
def PhysOnceSaid : Prop := physOnceRow.holds Try.pinned (OpenSpec.ofChange physOnceSpec)

/-- ITS FALSE NEIGHBOUR: 'it returns false'. Refute it at one input. -/
def physOnceWrong : ChangeSpec := { name := "physOnce", fn := fun _ => fun
  | [d1, d2, d3] => { results := [.lit (.bool false)], args := [d1, d2, d3] }
  | _ => none }
def PhysOnceWrongFalsely : Prop := physOnceRow.holds Try.pinned (OpenSpec.ofChange physOnceWrong)

/-- 'parapetlaw01.PhysWords': WHATEVER THE INPUT: true; the input reads as it did. -/
def physWordsSpec : ChangeSpec := { name := "physWords", fn := fun _ => fun
  | [d1, d2, d3] => { results := [.lit (.bool true)], args := [d1, d2, d3] }
  | _ => none }
def physWordsRow : OpenClaim := { program := "ytkamalaideimgaa", sum := "0a3f57b93ed9f84e435e143a60425420e21535999a670a6e134583c8708453dd", func := "parapet/parapetlaw01.PhysWords", spec := "physWords", apart := false }
def PhysWordsSaid : Prop := physWordsRow.holds Try.pinned (OpenSpec.ofChange physWordsSpec)

/-- ITS FALSE NEIGHBOUR: 'it returns false'. Refute it at one input. -/
def physWordsWrong : ChangeSpec := { name := "physWords", fn := fun _ => fun
  | [d1, d2, d3] => { results := [.lit (.bool false)], args := [d1, d2, d3] }
  | _ => none }
def PhysWordsWrongFalsely : Prop := physWordsRow.holds Try.pinned (OpenSpec.ofChange physWordsWrong)

/-- 'parapetlaw01.PhysNobody': WHATEVER THE INPUT: true; the input reads as it did. -/
def physNobodySpec : ChangeSpec := { name := "physNobody", fn := fun _ => fun
  | [d1, d2, d3] => { results := [.lit (.bool true)], args := [d1, d2, d3] }
  | _ => none }
def physNobodyRow : OpenClaim := { program := "ytkamalaideimgaa", sum := "0a3f57b93ed9f84e435e143a60425420e21535999a670a6e134583c8708453dd", func := "parapet/parapetlaw01.PhysNobody", spec := "physNobody", apart := false }
def PhysNobodySaid : Prop := physNobodyRow.holds Try.pinned (OpenSpec.ofChange physNobodySpec)

/-- ITS FALSE NEIGHBOUR: 'it returns false'. Refute it at one input. -/
def physNobodyWrong : ChangeSpec := { name := "physNobody", fn := fun _ => fun
  | [d1, d2, d3] => { results := [.lit (.bool false)], args := [d1, d2, d3] }
  | _ => none }
def PhysNobodyWrongFalsely : Prop := physNobodyRow.holds Try.pinned (OpenSpec.ofChange physNobodyWrong)

/- THE SECOND FORM. 'bulk': how many values and letters a reading holds, each counted each time it is reached (what is shared counts as often as it is met; a slice's spare places count too). A statement '..UptoSaid' is the law's where the arguments, and the package variables that the reading takes, are together of bulk at most 1048576: NARROWER than '..Said'. Prove '..Said' where nothing that the law and all that it calls make is longer than what came in: it says more and counts as full. Else prove '..UptoSaid'. A law counts once. -/
mutual
def uptoBulk {H : Type} : DataW H → Nat
  | .lit (.string bytes) => bytes.length + 1
  | .lit _ => 1
  | .nil => 1
  | .ptr d => uptoBulk d + 1
  | .slice elems spare => uptoBulkAll elems + uptoBulkAll spare + 1
  | .agg parts => uptoBulkAll parts + 1
  | .iface _ d => uptoBulk d + 1
  | .map entries => uptoBulkEntries entries + 1
  | .held _ => 1
def uptoBulkAll {H : Type} : List (DataW H) → Nat
  | [] => 0
  | d :: r => uptoBulk d + uptoBulkAll r
def uptoBulkEntries {H : Type} : List (Lit × DataW H) → Nat
  | [] => 0
  | x :: r => uptoBulkEntry x + uptoBulkEntries r
def uptoBulkEntry {H : Type} : Lit × DataW H → Nat
  | (.string bytes, d) => bytes.length + uptoBulk d + 1
  | (_, d) => uptoBulk d + 1
 end
def uptoSmall : (H : Type) → List (DataW H) → Bool := fun _ ds => decide (uptoBulkAll ds ≤ 1048576)
def OpenSpec.upto (s : _root_.Go.ChangeSpec) : _root_.Go.OpenSpec := { _root_.Go.OpenSpec.ofChange s with cond := some uptoSmall }

/-- 'parapetlaw01.PhysOnce', WHERE WHAT IT READS IS OF BULK AT MOST 1048576: true; the input reads as it did. -/
def physOnceUptoRow : OpenClaim := { program := "ytkamalaideimgaa", sum := "0a3f57b93ed9f84e435e143a60425420e21535999a670a6e134583c8708453dd", func := "parapet/parapetlaw01.PhysOnce", spec := "physOnce", apart := false, narrowed := true }
def PhysOnceUptoSaid : Prop := physOnceUptoRow.holds Try.pinned (OpenSpec.upto physOnceSpec)

/-- 'parapetlaw01.PhysWords', WHERE WHAT IT READS IS OF BULK AT MOST 1048576: true; the input reads as it did. -/
def physWordsUptoRow : OpenClaim := { program := "ytkamalaideimgaa", sum := "0a3f57b93ed9f84e435e143a60425420e21535999a670a6e134583c8708453dd", func := "parapet/parapetlaw01.PhysWords", spec := "physWords", apart := false, narrowed := true }
def PhysWordsUptoSaid : Prop := physWordsUptoRow.holds Try.pinned (OpenSpec.upto physWordsSpec)

/-- 'parapetlaw01.PhysNobody', WHERE WHAT IT READS IS OF BULK AT MOST 1048576: true; the input reads as it did. -/
def physNobodyUptoRow : OpenClaim := { program := "ytkamalaideimgaa", sum := "0a3f57b93ed9f84e435e143a60425420e21535999a670a6e134583c8708453dd", func := "parapet/parapetlaw01.PhysNobody", spec := "physNobody", apart := false, narrowed := true }
def PhysNobodyUptoSaid : Prop := physNobodyUptoRow.holds Try.pinned (OpenSpec.upto physNobodySpec)

end Rows
end Go.Proofs.Ytkamalaideimgaa
