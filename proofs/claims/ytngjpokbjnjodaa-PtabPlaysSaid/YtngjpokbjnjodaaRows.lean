/-
  No cell of these rows narrows 'for every input' (looked for: loops, veiled, ifaces, maps, wideKeys, modest, calm, conditions, laid).
  DERIVED. THE GIVEN ROWS OF THIS SEAT. 6 by the template 'for every input the law returns true; each argument reads behind the call as it read before'; 0 by the template 'total and deterministic' (their statements: YtngjpokbjnjodaaTotals.lean).
  GIVEN WITH THE SEED: the statements are not yours to turn. If you find one false, say at which input.
  Laid BY PROGRAM, IN A SANDBOX (cutbox-rows.mjs): the forced cells as the released guide's own fill.sh prints them over the translation 7dfacbd19bbbd4fc… (all of the seat's roots in one cut). By AI agents, Wed Nov 11 2026. No macro, syntax, notation, axiom, sorry.
-/
import Derived.Test.YtngjpokbjnjodaaChecked
import GoSem.Claim
import GoSem.ClaimJoined
import GoSem.ClaimMapViews
import Derived.JoinedTies
import Derived.KernelRfl
namespace Go.Proofs.Ytngjpokbjnjodaa
/- THE CELL 'sum', in the pinned program and in every row, IS THE sha256 OF THE DUMP (.gsa) THAT YtngjpokbjnjodaaProg.lean LOADS. Nothing in Lean hashes anything: it is a label: what it is worth is what the hold of that sum in a sandbox is worth. -/
noncomputable def Try.pinned : Pinned := { name := "ytngjpokbjnjodaa", sum := "7dfacbd19bbbd4fc1775f6bc835d3fddfc6d21dd07ca7187962e1e24f5e84c41", checked := Try.checked }
namespace Rows
def none {H : Type} : Left H := { results := [], args := [] }

/-- 'parapetlaw05.PtabEntries': WHATEVER THE INPUT: true; the input reads as it did. -/
def ptabEntriesSpec : ChangeSpec := { name := "ptabEntries", fn := fun _ => fun
  | [d1, d2, d3] => { results := [.lit (.bool true)], args := [d1, d2, d3] }
  | _ => none }
def ptabEntriesRow : OpenClaim := { program := "ytngjpokbjnjodaa", sum := "7dfacbd19bbbd4fc1775f6bc835d3fddfc6d21dd07ca7187962e1e24f5e84c41", func := "parapet/parapetlaw05.PtabEntries", spec := "ptabEntries", unfollowed := true, recurses := true, apart := false }
def PtabEntriesSaid : Prop := ptabEntriesRow.holds Try.pinned (OpenSpec.ofChange ptabEntriesSpec)

/-- ITS FALSE NEIGHBOUR: 'it returns false'. Refute it at one input. -/
def ptabEntriesWrong : ChangeSpec := { name := "ptabEntries", fn := fun _ => fun
  | [d1, d2, d3] => { results := [.lit (.bool false)], args := [d1, d2, d3] }
  | _ => none }
def PtabEntriesWrongFalsely : Prop := ptabEntriesRow.holds Try.pinned (OpenSpec.ofChange ptabEntriesWrong)

/-- 'parapetlaw05.PtabWalks': WHATEVER THE INPUT: true; the input reads as it did. -/
def ptabWalksSpec : ChangeSpec := { name := "ptabWalks", fn := fun _ => fun
  | [d1, d2, d3] => { results := [.lit (.bool true)], args := [d1, d2, d3] }
  | _ => none }
def ptabWalksRow : OpenClaim := { program := "ytngjpokbjnjodaa", sum := "7dfacbd19bbbd4fc1775f6bc835d3fddfc6d21dd07ca7187962e1e24f5e84c41", func := "parapet/parapetlaw05.PtabWalks", spec := "ptabWalks", unfollowed := true, recurses := true, apart := false }
def PtabWalksSaid : Prop := ptabWalksRow.holds Try.pinned (OpenSpec.ofChange ptabWalksSpec)

/-- ITS FALSE NEIGHBOUR: 'it returns false'. Refute it at one input. -/
def ptabWalksWrong : ChangeSpec := { name := "ptabWalks", fn := fun _ => fun
  | [d1, d2, d3] => { results := [.lit (.bool false)], args := [d1, d2, d3] }
  | _ => none }
def PtabWalksWrongFalsely : Prop := ptabWalksRow.holds Try.pinned (OpenSpec.ofChange ptabWalksWrong)

/-- 'parapetlaw05.PtabClears': WHATEVER THE INPUT: true; the input reads as it did. -/
def ptabClearsSpec : ChangeSpec := { name := "ptabClears", fn := fun _ => fun
  | [d1, d2] => { results := [.lit (.bool true)], args := [d1, d2] }
  | _ => none }
def ptabClearsRow : OpenClaim := { program := "ytngjpokbjnjodaa", sum := "7dfacbd19bbbd4fc1775f6bc835d3fddfc6d21dd07ca7187962e1e24f5e84c41", func := "parapet/parapetlaw05.PtabClears", spec := "ptabClears", unfollowed := true, recurses := true, apart := false }
def PtabClearsSaid : Prop := ptabClearsRow.holds Try.pinned (OpenSpec.ofChange ptabClearsSpec)

/-- ITS FALSE NEIGHBOUR: 'it returns false'. Refute it at one input. -/
def ptabClearsWrong : ChangeSpec := { name := "ptabClears", fn := fun _ => fun
  | [d1, d2] => { results := [.lit (.bool false)], args := [d1, d2] }
  | _ => none }
def PtabClearsWrongFalsely : Prop := ptabClearsRow.holds Try.pinned (OpenSpec.ofChange ptabClearsWrong)

/-- 'parapetlaw05.PtabApart': WHATEVER THE INPUT: true; the input reads as it did. -/
def ptabApartSpec : ChangeSpec := { name := "ptabApart", fn := fun _ => fun
  | [d1, d2, d3] => { results := [.lit (.bool true)], args := [d1, d2, d3] }
  | _ => none }
def ptabApartRow : OpenClaim := { program := "ytngjpokbjnjodaa", sum := "7dfacbd19bbbd4fc1775f6bc835d3fddfc6d21dd07ca7187962e1e24f5e84c41", func := "parapet/parapetlaw05.PtabApart", spec := "ptabApart", unfollowed := true, recurses := true, apart := false }
def PtabApartSaid : Prop := ptabApartRow.holds Try.pinned (OpenSpec.ofChange ptabApartSpec)

/-- ITS FALSE NEIGHBOUR: 'it returns false'. Refute it at one input. -/
def ptabApartWrong : ChangeSpec := { name := "ptabApart", fn := fun _ => fun
  | [d1, d2, d3] => { results := [.lit (.bool false)], args := [d1, d2, d3] }
  | _ => none }
def PtabApartWrongFalsely : Prop := ptabApartRow.holds Try.pinned (OpenSpec.ofChange ptabApartWrong)

/-- 'parapetlaw05.PtabPlays': WHATEVER THE INPUT: true; the input reads as it did. -/
def ptabPlaysSpec : ChangeSpec := { name := "ptabPlays", fn := fun _ => fun
  | [d1, d2, d3] => { results := [.lit (.bool true)], args := [d1, d2, d3] }
  | _ => none }
def ptabPlaysRow : OpenClaim := { program := "ytngjpokbjnjodaa", sum := "7dfacbd19bbbd4fc1775f6bc835d3fddfc6d21dd07ca7187962e1e24f5e84c41", func := "parapet/parapetlaw05.PtabPlays", spec := "ptabPlays", unfollowed := true, recurses := true, apart := false }
def PtabPlaysSaid : Prop := ptabPlaysRow.holds Try.pinned (OpenSpec.ofChange ptabPlaysSpec)

/-- ITS FALSE NEIGHBOUR: 'it returns false'. Refute it at one input. -/
def ptabPlaysWrong : ChangeSpec := { name := "ptabPlays", fn := fun _ => fun
  | [d1, d2, d3] => { results := [.lit (.bool false)], args := [d1, d2, d3] }
  | _ => none }
def PtabPlaysWrongFalsely : Prop := ptabPlaysRow.holds Try.pinned (OpenSpec.ofChange ptabPlaysWrong)

/-- 'parapetlaw05.PtabNobody': WHATEVER THE INPUT: true; the input reads as it did. -/
def ptabNobodySpec : ChangeSpec := { name := "ptabNobody", fn := fun _ => fun
  | [d1, d2, d3] => { results := [.lit (.bool true)], args := [d1, d2, d3] }
  | _ => none }
def ptabNobodyRow : OpenClaim := { program := "ytngjpokbjnjodaa", sum := "7dfacbd19bbbd4fc1775f6bc835d3fddfc6d21dd07ca7187962e1e24f5e84c41", func := "parapet/parapetlaw05.PtabNobody", spec := "ptabNobody", unfollowed := true, recurses := true, apart := false }
def PtabNobodySaid : Prop := ptabNobodyRow.holds Try.pinned (OpenSpec.ofChange ptabNobodySpec)

/-- ITS FALSE NEIGHBOUR: 'it returns false'. Refute it at one input. -/
def ptabNobodyWrong : ChangeSpec := { name := "ptabNobody", fn := fun _ => fun
  | [d1, d2, d3] => { results := [.lit (.bool false)], args := [d1, d2, d3] }
  | _ => none }
def PtabNobodyWrongFalsely : Prop := ptabNobodyRow.holds Try.pinned (OpenSpec.ofChange ptabNobodyWrong)

/- THE SECOND FORM. 'bulk': how many values and letters a reading holds, each counted each time it is reached (what is shared counts as often as it is met; a slice's spare places count too). A statement '..UptoSaid' is the law's where the arguments, and the package variables that the reading takes, are together of bulk at most 1048576: NARROWER than '..Said'. Prove '..Said' where nothing that the law and all that it calls make is longer than what came in: it says more and counts as full. Else prove '..UptoSaid'. A law counts once. -/
mutual
def uptoBulk {H : Type} : DataW H → Nat
  | .lit (.string bytes) => bytes.length + 1
  | .lit _ => 1
  | .nil => 1
  | .ptr d => uptoBulk d + 1
  | .slice elems spare => uptoBulkAll elems + uptoBulkAll spare + 1
  | .agg parts => uptoBulkAll parts + 1
  | .iface _ d => uptoBulk d + 1
  | .map entries => uptoBulkEntries entries + 1
  | .held _ => 1
def uptoBulkAll {H : Type} : List (DataW H) → Nat
  | [] => 0
  | d :: r => uptoBulk d + uptoBulkAll r
def uptoBulkEntries {H : Type} : List (Lit × DataW H) → Nat
  | [] => 0
  | x :: r => uptoBulkEntry x + uptoBulkEntries r
def uptoBulkEntry {H : Type} : Lit × DataW H → Nat
  | (.string bytes, d) => bytes.length + uptoBulk d + 1
  | (_, d) => uptoBulk d + 1
 end
def uptoSmall : (H : Type) → List (DataW H) → Bool := fun _ ds => decide (uptoBulkAll ds ≤ 1048576)
def OpenSpec.upto (s : _root_.Go.ChangeSpec) : _root_.Go.OpenSpec := { _root_.Go.OpenSpec.ofChange s with cond := some uptoSmall }

/-- 'parapetlaw05.PtabEntries', WHERE WHAT IT READS IS OF BULK AT MOST 1048576: true; the input reads as it did. -/
def ptabEntriesUptoRow : OpenClaim := { program := "ytngjpokbjnjodaa", sum := "7dfacbd19bbbd4fc1775f6bc835d3fddfc6d21dd07ca7187962e1e24f5e84c41", func := "parapet/parapetlaw05.PtabEntries", spec := "ptabEntries", unfollowed := true, recurses := true, apart := false, narrowed := true }
def PtabEntriesUptoSaid : Prop := ptabEntriesUptoRow.holds Try.pinned (OpenSpec.upto ptabEntriesSpec)

/-- 'parapetlaw05.PtabWalks', WHERE WHAT IT READS IS OF BULK AT MOST 1048576: true; the input reads as it did. -/
def ptabWalksUptoRow : OpenClaim := { program := "ytngjpokbjnjodaa", sum := "7dfacbd19bbbd4fc1775f6bc835d3fddfc6d21dd07ca7187962e1e24f5e84c41", func := "parapet/parapetlaw05.PtabWalks", spec := "ptabWalks", unfollowed := true, recurses := true, apart := false, narrowed := true }
def PtabWalksUptoSaid : Prop := ptabWalksUptoRow.holds Try.pinned (OpenSpec.upto ptabWalksSpec)

/-- 'parapetlaw05.PtabClears', WHERE WHAT IT READS IS OF BULK AT MOST 1048576: true; the input reads as it did. -/
def ptabClearsUptoRow : OpenClaim := { program := "ytngjpokbjnjodaa", sum := "7dfacbd19bbbd4fc1775f6bc835d3fddfc6d21dd07ca7187962e1e24f5e84c41", func := "parapet/parapetlaw05.PtabClears", spec := "ptabClears", unfollowed := true, recurses := true, apart := false, narrowed := true }
def PtabClearsUptoSaid : Prop := ptabClearsUptoRow.holds Try.pinned (OpenSpec.upto ptabClearsSpec)

/-- 'parapetlaw05.PtabApart', WHERE WHAT IT READS IS OF BULK AT MOST 1048576: true; the input reads as it did. -/
def ptabApartUptoRow : OpenClaim := { program := "ytngjpokbjnjodaa", sum := "7dfacbd19bbbd4fc1775f6bc835d3fddfc6d21dd07ca7187962e1e24f5e84c41", func := "parapet/parapetlaw05.PtabApart", spec := "ptabApart", unfollowed := true, recurses := true, apart := false, narrowed := true }
def PtabApartUptoSaid : Prop := ptabApartUptoRow.holds Try.pinned (OpenSpec.upto ptabApartSpec)

/-- 'parapetlaw05.PtabPlays', WHERE WHAT IT READS IS OF BULK AT MOST 1048576: true; the input reads as it did. -/
def ptabPlaysUptoRow : OpenClaim := { program := "ytngjpokbjnjodaa", sum := "7dfacbd19bbbd4fc1775f6bc835d3fddfc6d21dd07ca7187962e1e24f5e84c41", func := "parapet/parapetlaw05.PtabPlays", spec := "ptabPlays", unfollowed := true, recurses := true, apart := false, narrowed := true }
def PtabPlaysUptoSaid : Prop := ptabPlaysUptoRow.holds Try.pinned (OpenSpec.upto ptabPlaysSpec)

/-- 'parapetlaw05.PtabNobody', WHERE WHAT IT READS IS OF BULK AT MOST 1048576: true; the input reads as it did. -/
def ptabNobodyUptoRow : OpenClaim := { program := "ytngjpokbjnjodaa", sum := "7dfacbd19bbbd4fc1775f6bc835d3fddfc6d21dd07ca7187962e1e24f5e84c41", func := "parapet/parapetlaw05.PtabNobody", spec := "ptabNobody", unfollowed := true, recurses := true, apart := false, narrowed := true }
def PtabNobodyUptoSaid : Prop := ptabNobodyUptoRow.holds Try.pinned (OpenSpec.upto ptabNobodySpec)

end Rows
end Go.Proofs.Ytngjpokbjnjodaa
