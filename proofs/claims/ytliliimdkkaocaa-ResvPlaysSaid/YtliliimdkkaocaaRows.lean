/-
  No cell of these rows narrows 'for every input' (looked for: loops, veiled, ifaces, maps, wideKeys, modest, calm, conditions, laid).
  DERIVED. THE GIVEN ROWS OF THIS SEAT. 6 by the template 'for every input the law returns true; each argument reads behind the call as it read before'; 0 by the template 'total and deterministic' (their statements: YtliliimdkkaocaaTotals.lean).
  GIVEN WITH THE SEED: the statements are not yours to turn. If you find one false, say at which input.
  Laid BY PROGRAM, IN A SANDBOX (cutbox-rows.mjs): the forced cells as the released guide's own fill.sh prints them over the translation f74555ee4f58f824… (all of the seat's roots in one cut). By AI agents, Wed Nov 11 2026. No macro, syntax, notation, axiom, sorry.
-/
import Derived.Test.YtliliimdkkaocaaChecked
import GoSem.Claim
import GoSem.ClaimJoined
import GoSem.ClaimMapViews
import Derived.JoinedTies
import Derived.KernelRfl
namespace Go.Proofs.Ytliliimdkkaocaa
/- THE CELL 'sum', in the pinned program and in every row, IS THE sha256 OF THE DUMP (.gsa) THAT YtliliimdkkaocaaProg.lean LOADS. Nothing in Lean hashes anything: it is a label: what it is worth is what the hold of that sum in a sandbox is worth. -/
noncomputable def Try.pinned : Pinned := { name := "ytliliimdkkaocaa", sum := "f74555ee4f58f82492133a1b9596fe7edf1693d32e4218b3478d6e0bf98b022f", checked := Try.checked }
namespace Rows
def none {H : Type} : Left H := { results := [], args := [] }

/-- 'parapetlaw09.ResvVictim': WHATEVER THE INPUT: true; the input reads as it did. -/
def resvVictimSpec : ChangeSpec := { name := "resvVictim", fn := fun _ => fun
  | [d1, d2] => { results := [.lit (.bool true)], args := [d1, d2] }
  | _ => none }
def resvVictimRow : OpenClaim := { program := "ytliliimdkkaocaa", sum := "f74555ee4f58f82492133a1b9596fe7edf1693d32e4218b3478d6e0bf98b022f", func := "parapet/parapetlaw09.ResvVictim", spec := "resvVictim", unfollowed := true, recurses := true, apart := false }
def ResvVictimSaid : Prop := resvVictimRow.holds Try.pinned (OpenSpec.ofChange resvVictimSpec)

/-- ITS FALSE NEIGHBOUR: 'it returns false'. Refute it at one input. -/
def resvVictimWrong : ChangeSpec := { name := "resvVictim", fn := fun _ => fun
  | [d1, d2] => { results := [.lit (.bool false)], args := [d1, d2] }
  | _ => none }
def ResvVictimWrongFalsely : Prop := resvVictimRow.holds Try.pinned (OpenSpec.ofChange resvVictimWrong)

/-- 'parapetlaw09.ResvOrder': WHATEVER THE INPUT: true; the input reads as it did. -/
def resvOrderSpec : ChangeSpec := { name := "resvOrder", fn := fun _ => fun
  | [d1, d2] => { results := [.lit (.bool true)], args := [d1, d2] }
  | _ => none }
def resvOrderRow : OpenClaim := { program := "ytliliimdkkaocaa", sum := "f74555ee4f58f82492133a1b9596fe7edf1693d32e4218b3478d6e0bf98b022f", func := "parapet/parapetlaw09.ResvOrder", spec := "resvOrder", unfollowed := true, recurses := true, apart := false }
def ResvOrderSaid : Prop := resvOrderRow.holds Try.pinned (OpenSpec.ofChange resvOrderSpec)

/-- ITS FALSE NEIGHBOUR: 'it returns false'. Refute it at one input. -/
def resvOrderWrong : ChangeSpec := { name := "resvOrder", fn := fun _ => fun
  | [d1, d2] => { results := [.lit (.bool false)], args := [d1, d2] }
  | _ => none }
def ResvOrderWrongFalsely : Prop := resvOrderRow.holds Try.pinned (OpenSpec.ofChange resvOrderWrong)

/-- 'parapetlaw09.ResvNeverFails': WHATEVER THE INPUT: true; the input reads as it did. -/
def resvNeverFailsSpec : ChangeSpec := { name := "resvNeverFails", fn := fun _ => fun
  | [d1, d2] => { results := [.lit (.bool true)], args := [d1, d2] }
  | _ => none }
def resvNeverFailsRow : OpenClaim := { program := "ytliliimdkkaocaa", sum := "f74555ee4f58f82492133a1b9596fe7edf1693d32e4218b3478d6e0bf98b022f", func := "parapet/parapetlaw09.ResvNeverFails", spec := "resvNeverFails", unfollowed := true, recurses := true, apart := false }
def ResvNeverFailsSaid : Prop := resvNeverFailsRow.holds Try.pinned (OpenSpec.ofChange resvNeverFailsSpec)

/-- ITS FALSE NEIGHBOUR: 'it returns false'. Refute it at one input. -/
def resvNeverFailsWrong : ChangeSpec := { name := "resvNeverFails", fn := fun _ => fun
  | [d1, d2] => { results := [.lit (.bool false)], args := [d1, d2] }
  | _ => none }
def ResvNeverFailsWrongFalsely : Prop := resvNeverFailsRow.holds Try.pinned (OpenSpec.ofChange resvNeverFailsWrong)

/-- 'parapetlaw09.ResvBack': WHATEVER THE INPUT: true; the input reads as it did. -/
def resvBackSpec : ChangeSpec := { name := "resvBack", fn := fun _ => fun
  | [d1, d2] => { results := [.lit (.bool true)], args := [d1, d2] }
  | _ => none }
def resvBackRow : OpenClaim := { program := "ytliliimdkkaocaa", sum := "f74555ee4f58f82492133a1b9596fe7edf1693d32e4218b3478d6e0bf98b022f", func := "parapet/parapetlaw09.ResvBack", spec := "resvBack", unfollowed := true, recurses := true, apart := false }
def ResvBackSaid : Prop := resvBackRow.holds Try.pinned (OpenSpec.ofChange resvBackSpec)

/-- ITS FALSE NEIGHBOUR: 'it returns false'. Refute it at one input. -/
def resvBackWrong : ChangeSpec := { name := "resvBack", fn := fun _ => fun
  | [d1, d2] => { results := [.lit (.bool false)], args := [d1, d2] }
  | _ => none }
def ResvBackWrongFalsely : Prop := resvBackRow.holds Try.pinned (OpenSpec.ofChange resvBackWrong)

/-- 'parapetlaw09.ResvPlays': WHATEVER THE INPUT: true; the input reads as it did. -/
def resvPlaysSpec : ChangeSpec := { name := "resvPlays", fn := fun _ => fun
  | [d1, d2] => { results := [.lit (.bool true)], args := [d1, d2] }
  | _ => none }
def resvPlaysRow : OpenClaim := { program := "ytliliimdkkaocaa", sum := "f74555ee4f58f82492133a1b9596fe7edf1693d32e4218b3478d6e0bf98b022f", func := "parapet/parapetlaw09.ResvPlays", spec := "resvPlays", unfollowed := true, recurses := true, apart := false }
def ResvPlaysSaid : Prop := resvPlaysRow.holds Try.pinned (OpenSpec.ofChange resvPlaysSpec)

/-- ITS FALSE NEIGHBOUR: 'it returns false'. Refute it at one input. -/
def resvPlaysWrong : ChangeSpec := { name := "resvPlays", fn := fun _ => fun
  | [d1, d2] => { results := [.lit (.bool false)], args := [d1, d2] }
  | _ => none }
def ResvPlaysWrongFalsely : Prop := resvPlaysRow.holds Try.pinned (OpenSpec.ofChange resvPlaysWrong)

/-- 'parapetlaw09.ResvNobody': WHATEVER THE INPUT: true; the input reads as it did. -/
def resvNobodySpec : ChangeSpec := { name := "resvNobody", fn := fun _ => fun
  | [d1, d2] => { results := [.lit (.bool true)], args := [d1, d2] }
  | _ => none }
def resvNobodyRow : OpenClaim := { program := "ytliliimdkkaocaa", sum := "f74555ee4f58f82492133a1b9596fe7edf1693d32e4218b3478d6e0bf98b022f", func := "parapet/parapetlaw09.ResvNobody", spec := "resvNobody", unfollowed := true, recurses := true, apart := false }
def ResvNobodySaid : Prop := resvNobodyRow.holds Try.pinned (OpenSpec.ofChange resvNobodySpec)

/-- ITS FALSE NEIGHBOUR: 'it returns false'. Refute it at one input. -/
def resvNobodyWrong : ChangeSpec := { name := "resvNobody", fn := fun _ => fun
  | [d1, d2] => { results := [.lit (.bool false)], args := [d1, d2] }
  | _ => none }
def ResvNobodyWrongFalsely : Prop := resvNobodyRow.holds Try.pinned (OpenSpec.ofChange resvNobodyWrong)

/- THE SECOND FORM. 'bulk': how many values and letters a reading holds, each counted each time it is reached (what is shared counts as often as it is met; a slice's spare places count too). A statement '..UptoSaid' is the law's where the arguments, and the package variables that the reading takes, are together of bulk at most 1048576: NARROWER than '..Said'. Prove '..Said' where nothing that the law and all that it calls make is longer than what came in: it says more and counts as full. Else prove '..UptoSaid'. A law counts once. -/
mutual
def uptoBulk {H : Type} : DataW H → Nat
  | .lit (.string bytes) => bytes.length + 1
  | .lit _ => 1
  | .nil => 1
  | .ptr d => uptoBulk d + 1
  | .slice elems spare => uptoBulkAll elems + uptoBulkAll spare + 1
  | .agg parts => uptoBulkAll parts + 1
  | .iface _ d => uptoBulk d + 1
  | .map entries => uptoBulkEntries entries + 1
  | .held _ => 1
def uptoBulkAll {H : Type} : List (DataW H) → Nat
  | [] => 0
  | d :: r => uptoBulk d + uptoBulkAll r
def uptoBulkEntries {H : Type} : List (Lit × DataW H) → Nat
  | [] => 0
  | x :: r => uptoBulkEntry x + uptoBulkEntries r
def uptoBulkEntry {H : Type} : Lit × DataW H → Nat
  | (.string bytes, d) => bytes.length + uptoBulk d + 1
  | (_, d) => uptoBulk d + 1
 end
def uptoSmall : (H : Type) → List (DataW H) → Bool := fun _ ds => decide (uptoBulkAll ds ≤ 1048576)
def OpenSpec.upto (s : _root_.Go.ChangeSpec) : _root_.Go.OpenSpec := { _root_.Go.OpenSpec.ofChange s with cond := some uptoSmall }

/-- 'parapetlaw09.ResvVictim', WHERE WHAT IT READS IS OF BULK AT MOST 1048576: true; the input reads as it did. -/
def resvVictimUptoRow : OpenClaim := { program := "ytliliimdkkaocaa", sum := "f74555ee4f58f82492133a1b9596fe7edf1693d32e4218b3478d6e0bf98b022f", func := "parapet/parapetlaw09.ResvVictim", spec := "resvVictim", unfollowed := true, recurses := true, apart := false, narrowed := true }
def ResvVictimUptoSaid : Prop := resvVictimUptoRow.holds Try.pinned (OpenSpec.upto resvVictimSpec)

/-- 'parapetlaw09.ResvOrder', WHERE WHAT IT READS IS OF BULK AT MOST 1048576: true; the input reads as it did. -/
def resvOrderUptoRow : OpenClaim := { program := "ytliliimdkkaocaa", sum := "f74555ee4f58f82492133a1b9596fe7edf1693d32e4218b3478d6e0bf98b022f", func := "parapet/parapetlaw09.ResvOrder", spec := "resvOrder", unfollowed := true, recurses := true, apart := false, narrowed := true }
def ResvOrderUptoSaid : Prop := resvOrderUptoRow.holds Try.pinned (OpenSpec.upto resvOrderSpec)

/-- 'parapetlaw09.ResvNeverFails', WHERE WHAT IT READS IS OF BULK AT MOST 1048576: true; the input reads as it did. -/
def resvNeverFailsUptoRow : OpenClaim := { program := "ytliliimdkkaocaa", sum := "f74555ee4f58f82492133a1b9596fe7edf1693d32e4218b3478d6e0bf98b022f", func := "parapet/parapetlaw09.ResvNeverFails", spec := "resvNeverFails", unfollowed := true, recurses := true, apart := false, narrowed := true }
def ResvNeverFailsUptoSaid : Prop := resvNeverFailsUptoRow.holds Try.pinned (OpenSpec.upto resvNeverFailsSpec)

/-- 'parapetlaw09.ResvBack', WHERE WHAT IT READS IS OF BULK AT MOST 1048576: true; the input reads as it did. -/
def resvBackUptoRow : OpenClaim := { program := "ytliliimdkkaocaa", sum := "f74555ee4f58f82492133a1b9596fe7edf1693d32e4218b3478d6e0bf98b022f", func := "parapet/parapetlaw09.ResvBack", spec := "resvBack", unfollowed := true, recurses := true, apart := false, narrowed := true }
def ResvBackUptoSaid : Prop := resvBackUptoRow.holds Try.pinned (OpenSpec.upto resvBackSpec)

/-- 'parapetlaw09.ResvPlays', WHERE WHAT IT READS IS OF BULK AT MOST 1048576: true; the input reads as it did. -/
def resvPlaysUptoRow : OpenClaim := { program := "ytliliimdkkaocaa", sum := "f74555ee4f58f82492133a1b9596fe7edf1693d32e4218b3478d6e0bf98b022f", func := "parapet/parapetlaw09.ResvPlays", spec := "resvPlays", unfollowed := true, recurses := true, apart := false, narrowed := true }
def ResvPlaysUptoSaid : Prop := resvPlaysUptoRow.holds Try.pinned (OpenSpec.upto resvPlaysSpec)

/-- 'parapetlaw09.ResvNobody', WHERE WHAT IT READS IS OF BULK AT MOST 1048576: true; the input reads as it did. -/
def resvNobodyUptoRow : OpenClaim := { program := "ytliliimdkkaocaa", sum := "f74555ee4f58f82492133a1b9596fe7edf1693d32e4218b3478d6e0bf98b022f", func := "parapet/parapetlaw09.ResvNobody", spec := "resvNobody", unfollowed := true, recurses := true, apart := false, narrowed := true }
def ResvNobodyUptoSaid : Prop := resvNobodyUptoRow.holds Try.pinned (OpenSpec.upto resvNobodySpec)

end Rows
end Go.Proofs.Ytliliimdkkaocaa
