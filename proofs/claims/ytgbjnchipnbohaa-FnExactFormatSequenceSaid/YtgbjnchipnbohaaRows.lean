/-
  No cell of these rows narrows 'for every input' (looked for: loops, veiled, ifaces, maps, wideKeys, modest, calm, conditions, laid).
  DERIVED. THE GIVEN ROWS OF THIS SEAT. 11 by the template 'for every input the law returns true; each argument reads behind the call as it read before'; 0 by the template 'total and deterministic' (their statements: YtgbjnchipnbohaaTotals.lean).
  GIVEN WITH THE SEED: the statements are not yours to turn. If you find one false, say at which input.
  Laid BY PROGRAM, IN A SANDBOX (cutbox-rows.mjs): the forced cells as the released guide's own fill.sh prints them over the translation 48ec7aa4dc697b77… (all of the seat's roots in one cut). By AI agents, Wed Nov 11 2026. No macro, syntax, notation, axiom, sorry.
-/
import Derived.Test.YtgbjnchipnbohaaChecked
import GoSem.Claim
import GoSem.ClaimJoined
import GoSem.ClaimMapViews
import Derived.JoinedTies
import Derived.KernelRfl
namespace Go.Proofs.Ytgbjnchipnbohaa
/- THE CELL 'sum', in the pinned program and in every row, IS THE sha256 OF THE DUMP (.gsa) THAT YtgbjnchipnbohaaProg.lean LOADS. Nothing in Lean hashes anything: it is a label: what it is worth is what the hold of that sum in a sandbox is worth. -/
noncomputable def Try.pinned : Pinned := { name := "ytgbjnchipnbohaa", sum := "48ec7aa4dc697b776da15e1be590c7a453a721dd0ca47878901200825601d1b8", checked := Try.checked }
namespace Rows
def none {H : Type} : Left H := { results := [], args := [] }

/-- 'laws.FnExactFormatSequence': WHATEVER THE INPUT: true; the input reads as it did. -/
def fnExactFormatSequenceSpec : ChangeSpec := { name := "fnExactFormatSequence", fn := fun _ => fun
  | [d1, d2] => { results := [.lit (.bool true)], args := [d1, d2] }
  | _ => none }
def fnExactFormatSequenceRow : OpenClaim := { program := "ytgbjnchipnbohaa", sum := "48ec7aa4dc697b776da15e1be590c7a453a721dd0ca47878901200825601d1b8", func := "loop.example/g03402/laws.FnExactFormatSequence", spec := "fnExactFormatSequence", apart := false }
def FnExactFormatSequenceSaid : Prop := fnExactFormatSequenceRow.holds Try.pinned (OpenSpec.ofChange fnExactFormatSequenceSpec)

/-- ITS FALSE NEIGHBOUR: 'it returns false'. Refute it at one input. -/
def fnExactFormatSequenceWrong : ChangeSpec := { name := "fnExactFormatSequence", fn := fun _ => fun
  | [d1, d2] => { results := [.lit (.bool false)], args := [d1, d2] }
  | _ => none }
def FnExactFormatSequenceWrongFalsely : Prop := fnExactFormatSequenceRow.holds Try.pinned (OpenSpec.ofChange fnExactFormatSequenceWrong)

/-- 'laws.FnExactCyclicStructure': WHATEVER THE INPUT: true; the input reads as it did. -/
def fnExactCyclicStructureSpec : ChangeSpec := { name := "fnExactCyclicStructure", fn := fun _ => fun
  | [d1, d2] => { results := [.lit (.bool true)], args := [d1, d2] }
  | _ => none }
def fnExactCyclicStructureRow : OpenClaim := { program := "ytgbjnchipnbohaa", sum := "48ec7aa4dc697b776da15e1be590c7a453a721dd0ca47878901200825601d1b8", func := "loop.example/g03402/laws.FnExactCyclicStructure", spec := "fnExactCyclicStructure", apart := false }
def FnExactCyclicStructureSaid : Prop := fnExactCyclicStructureRow.holds Try.pinned (OpenSpec.ofChange fnExactCyclicStructureSpec)

/-- ITS FALSE NEIGHBOUR: 'it returns false'. Refute it at one input. -/
def fnExactCyclicStructureWrong : ChangeSpec := { name := "fnExactCyclicStructure", fn := fun _ => fun
  | [d1, d2] => { results := [.lit (.bool false)], args := [d1, d2] }
  | _ => none }
def FnExactCyclicStructureWrongFalsely : Prop := fnExactCyclicStructureRow.holds Try.pinned (OpenSpec.ofChange fnExactCyclicStructureWrong)

/-- 'laws.FnExactIsAtom': WHATEVER THE INPUT: true; the input reads as it did. -/
def fnExactIsAtomSpec : ChangeSpec := { name := "fnExactIsAtom", fn := fun _ => fun
  | [d1, d2] => { results := [.lit (.bool true)], args := [d1, d2] }
  | _ => none }
def fnExactIsAtomRow : OpenClaim := { program := "ytgbjnchipnbohaa", sum := "48ec7aa4dc697b776da15e1be590c7a453a721dd0ca47878901200825601d1b8", func := "loop.example/g03402/laws.FnExactIsAtom", spec := "fnExactIsAtom", apart := false }
def FnExactIsAtomSaid : Prop := fnExactIsAtomRow.holds Try.pinned (OpenSpec.ofChange fnExactIsAtomSpec)

/-- ITS FALSE NEIGHBOUR: 'it returns false'. Refute it at one input. -/
def fnExactIsAtomWrong : ChangeSpec := { name := "fnExactIsAtom", fn := fun _ => fun
  | [d1, d2] => { results := [.lit (.bool false)], args := [d1, d2] }
  | _ => none }
def FnExactIsAtomWrongFalsely : Prop := fnExactIsAtomRow.holds Try.pinned (OpenSpec.ofChange fnExactIsAtomWrong)

/-- 'laws.FnExactHasPeriodicFactor': WHATEVER THE INPUT: true; the input reads as it did. -/
def fnExactHasPeriodicFactorSpec : ChangeSpec := { name := "fnExactHasPeriodicFactor", fn := fun _ => fun
  | [d1, d2, d3] => { results := [.lit (.bool true)], args := [d1, d2, d3] }
  | _ => none }
def fnExactHasPeriodicFactorRow : OpenClaim := { program := "ytgbjnchipnbohaa", sum := "48ec7aa4dc697b776da15e1be590c7a453a721dd0ca47878901200825601d1b8", func := "loop.example/g03402/laws.FnExactHasPeriodicFactor", spec := "fnExactHasPeriodicFactor", apart := false }
def FnExactHasPeriodicFactorSaid : Prop := fnExactHasPeriodicFactorRow.holds Try.pinned (OpenSpec.ofChange fnExactHasPeriodicFactorSpec)

/-- ITS FALSE NEIGHBOUR: 'it returns false'. Refute it at one input. -/
def fnExactHasPeriodicFactorWrong : ChangeSpec := { name := "fnExactHasPeriodicFactor", fn := fun _ => fun
  | [d1, d2, d3] => { results := [.lit (.bool false)], args := [d1, d2, d3] }
  | _ => none }
def FnExactHasPeriodicFactorWrongFalsely : Prop := fnExactHasPeriodicFactorRow.holds Try.pinned (OpenSpec.ofChange fnExactHasPeriodicFactorWrong)

/-- 'laws.FnExactShortestZero': WHATEVER THE INPUT: true; the input reads as it did. -/
def fnExactShortestZeroSpec : ChangeSpec := { name := "fnExactShortestZero", fn := fun _ => fun
  | [d1, d2] => { results := [.lit (.bool true)], args := [d1, d2] }
  | _ => none }
def fnExactShortestZeroRow : OpenClaim := { program := "ytgbjnchipnbohaa", sum := "48ec7aa4dc697b776da15e1be590c7a453a721dd0ca47878901200825601d1b8", func := "loop.example/g03402/laws.FnExactShortestZero", spec := "fnExactShortestZero", apart := false }
def FnExactShortestZeroSaid : Prop := fnExactShortestZeroRow.holds Try.pinned (OpenSpec.ofChange fnExactShortestZeroSpec)

/-- ITS FALSE NEIGHBOUR: 'it returns false'. Refute it at one input. -/
def fnExactShortestZeroWrong : ChangeSpec := { name := "fnExactShortestZero", fn := fun _ => fun
  | [d1, d2] => { results := [.lit (.bool false)], args := [d1, d2] }
  | _ => none }
def FnExactShortestZeroWrongFalsely : Prop := fnExactShortestZeroRow.holds Try.pinned (OpenSpec.ofChange fnExactShortestZeroWrong)

/-- 'laws.FnExactZeroOfLength': WHATEVER THE INPUT: true; the input reads as it did. -/
def fnExactZeroOfLengthSpec : ChangeSpec := { name := "fnExactZeroOfLength", fn := fun _ => fun
  | [d1, d2, d3] => { results := [.lit (.bool true)], args := [d1, d2, d3] }
  | _ => none }
def fnExactZeroOfLengthRow : OpenClaim := { program := "ytgbjnchipnbohaa", sum := "48ec7aa4dc697b776da15e1be590c7a453a721dd0ca47878901200825601d1b8", func := "loop.example/g03402/laws.FnExactZeroOfLength", spec := "fnExactZeroOfLength", apart := false }
def FnExactZeroOfLengthSaid : Prop := fnExactZeroOfLengthRow.holds Try.pinned (OpenSpec.ofChange fnExactZeroOfLengthSpec)

/-- ITS FALSE NEIGHBOUR: 'it returns false'. Refute it at one input. -/
def fnExactZeroOfLengthWrong : ChangeSpec := { name := "fnExactZeroOfLength", fn := fun _ => fun
  | [d1, d2, d3] => { results := [.lit (.bool false)], args := [d1, d2, d3] }
  | _ => none }
def FnExactZeroOfLengthWrongFalsely : Prop := fnExactZeroOfLengthRow.holds Try.pinned (OpenSpec.ofChange fnExactZeroOfLengthWrong)

/-- 'laws.FnExactIsProperBox': WHATEVER THE INPUT: true; the input reads as it did. -/
def fnExactIsProperBoxSpec : ChangeSpec := { name := "fnExactIsProperBox", fn := fun _ => fun
  | [d1, d2, d3] => { results := [.lit (.bool true)], args := [d1, d2, d3] }
  | _ => none }
def fnExactIsProperBoxRow : OpenClaim := { program := "ytgbjnchipnbohaa", sum := "48ec7aa4dc697b776da15e1be590c7a453a721dd0ca47878901200825601d1b8", func := "loop.example/g03402/laws.FnExactIsProperBox", spec := "fnExactIsProperBox", apart := false }
def FnExactIsProperBoxSaid : Prop := fnExactIsProperBoxRow.holds Try.pinned (OpenSpec.ofChange fnExactIsProperBoxSpec)

/-- ITS FALSE NEIGHBOUR: 'it returns false'. Refute it at one input. -/
def fnExactIsProperBoxWrong : ChangeSpec := { name := "fnExactIsProperBox", fn := fun _ => fun
  | [d1, d2, d3] => { results := [.lit (.bool false)], args := [d1, d2, d3] }
  | _ => none }
def FnExactIsProperBoxWrongFalsely : Prop := fnExactIsProperBoxRow.holds Try.pinned (OpenSpec.ofChange fnExactIsProperBoxWrong)

/-- 'laws.FnExactIsBox': WHATEVER THE INPUT: true; the input reads as it did. -/
def fnExactIsBoxSpec : ChangeSpec := { name := "fnExactIsBox", fn := fun _ => fun
  | [d1, d2] => { results := [.lit (.bool true)], args := [d1, d2] }
  | _ => none }
def fnExactIsBoxRow : OpenClaim := { program := "ytgbjnchipnbohaa", sum := "48ec7aa4dc697b776da15e1be590c7a453a721dd0ca47878901200825601d1b8", func := "loop.example/g03402/laws.FnExactIsBox", spec := "fnExactIsBox", apart := false }
def FnExactIsBoxSaid : Prop := fnExactIsBoxRow.holds Try.pinned (OpenSpec.ofChange fnExactIsBoxSpec)

/-- ITS FALSE NEIGHBOUR: 'it returns false'. Refute it at one input. -/
def fnExactIsBoxWrong : ChangeSpec := { name := "fnExactIsBox", fn := fun _ => fun
  | [d1, d2] => { results := [.lit (.bool false)], args := [d1, d2] }
  | _ => none }
def FnExactIsBoxWrongFalsely : Prop := fnExactIsBoxRow.holds Try.pinned (OpenSpec.ofChange fnExactIsBoxWrong)

/-- 'laws.FnExactFindBox': WHATEVER THE INPUT: true; the input reads as it did. -/
def fnExactFindBoxSpec : ChangeSpec := { name := "fnExactFindBox", fn := fun _ => fun
  | [d1, d2] => { results := [.lit (.bool true)], args := [d1, d2] }
  | _ => none }
def fnExactFindBoxRow : OpenClaim := { program := "ytgbjnchipnbohaa", sum := "48ec7aa4dc697b776da15e1be590c7a453a721dd0ca47878901200825601d1b8", func := "loop.example/g03402/laws.FnExactFindBox", spec := "fnExactFindBox", apart := false }
def FnExactFindBoxSaid : Prop := fnExactFindBoxRow.holds Try.pinned (OpenSpec.ofChange fnExactFindBoxSpec)

/-- ITS FALSE NEIGHBOUR: 'it returns false'. Refute it at one input. -/
def fnExactFindBoxWrong : ChangeSpec := { name := "fnExactFindBox", fn := fun _ => fun
  | [d1, d2] => { results := [.lit (.bool false)], args := [d1, d2] }
  | _ => none }
def FnExactFindBoxWrongFalsely : Prop := fnExactFindBoxRow.holds Try.pinned (OpenSpec.ofChange fnExactFindBoxWrong)

/-- 'laws.FnExactReplaceFactor': WHATEVER THE INPUT: true; the input reads as it did. -/
def fnExactReplaceFactorSpec : ChangeSpec := { name := "fnExactReplaceFactor", fn := fun _ => fun
  | [d1, d2, d3, d4] => { results := [.lit (.bool true)], args := [d1, d2, d3, d4] }
  | _ => none }
def fnExactReplaceFactorRow : OpenClaim := { program := "ytgbjnchipnbohaa", sum := "48ec7aa4dc697b776da15e1be590c7a453a721dd0ca47878901200825601d1b8", func := "loop.example/g03402/laws.FnExactReplaceFactor", spec := "fnExactReplaceFactor", apart := false }
def FnExactReplaceFactorSaid : Prop := fnExactReplaceFactorRow.holds Try.pinned (OpenSpec.ofChange fnExactReplaceFactorSpec)

/-- ITS FALSE NEIGHBOUR: 'it returns false'. Refute it at one input. -/
def fnExactReplaceFactorWrong : ChangeSpec := { name := "fnExactReplaceFactor", fn := fun _ => fun
  | [d1, d2, d3, d4] => { results := [.lit (.bool false)], args := [d1, d2, d3, d4] }
  | _ => none }
def FnExactReplaceFactorWrongFalsely : Prop := fnExactReplaceFactorRow.holds Try.pinned (OpenSpec.ofChange fnExactReplaceFactorWrong)

/-- 'laws.FnExactSortSequence': WHATEVER THE INPUT: true; the input reads as it did. -/
def fnExactSortSequenceSpec : ChangeSpec := { name := "fnExactSortSequence", fn := fun _ => fun
  | [d1, d2] => { results := [.lit (.bool true)], args := [d1, d2] }
  | _ => none }
def fnExactSortSequenceRow : OpenClaim := { program := "ytgbjnchipnbohaa", sum := "48ec7aa4dc697b776da15e1be590c7a453a721dd0ca47878901200825601d1b8", func := "loop.example/g03402/laws.FnExactSortSequence", spec := "fnExactSortSequence", recurses := true, apart := false }
def FnExactSortSequenceSaid : Prop := fnExactSortSequenceRow.holds Try.pinned (OpenSpec.ofChange fnExactSortSequenceSpec)

/-- ITS FALSE NEIGHBOUR: 'it returns false'. Refute it at one input. -/
def fnExactSortSequenceWrong : ChangeSpec := { name := "fnExactSortSequence", fn := fun _ => fun
  | [d1, d2] => { results := [.lit (.bool false)], args := [d1, d2] }
  | _ => none }
def FnExactSortSequenceWrongFalsely : Prop := fnExactSortSequenceRow.holds Try.pinned (OpenSpec.ofChange fnExactSortSequenceWrong)

/- THE SECOND FORM. 'bulk': how many values and letters a reading holds, each counted each time it is reached (what is shared counts as often as it is met; a slice's spare places count too). A statement '..UptoSaid' is the law's where the arguments, and the package variables that the reading takes, are together of bulk at most 1048576: NARROWER than '..Said'. Prove '..Said' where nothing that the law and all that it calls make is longer than what came in: it says more and counts as full. Else prove '..UptoSaid'. A law counts once. -/
mutual
def uptoBulk {H : Type} : DataW H → Nat
  | .lit (.string bytes) => bytes.length + 1
  | .lit _ => 1
  | .nil => 1
  | .ptr d => uptoBulk d + 1
  | .slice elems spare => uptoBulkAll elems + uptoBulkAll spare + 1
  | .agg parts => uptoBulkAll parts + 1
  | .iface _ d => uptoBulk d + 1
  | .map entries => uptoBulkEntries entries + 1
  | .held _ => 1
def uptoBulkAll {H : Type} : List (DataW H) → Nat
  | [] => 0
  | d :: r => uptoBulk d + uptoBulkAll r
def uptoBulkEntries {H : Type} : List (Lit × DataW H) → Nat
  | [] => 0
  | x :: r => uptoBulkEntry x + uptoBulkEntries r
def uptoBulkEntry {H : Type} : Lit × DataW H → Nat
  | (.string bytes, d) => bytes.length + uptoBulk d + 1
  | (_, d) => uptoBulk d + 1
 end
def uptoSmall : (H : Type) → List (DataW H) → Bool := fun _ ds => decide (uptoBulkAll ds ≤ 1048576)
def OpenSpec.upto (s : _root_.Go.ChangeSpec) : _root_.Go.OpenSpec := { _root_.Go.OpenSpec.ofChange s with cond := some uptoSmall }

/-- 'laws.FnExactFormatSequence', WHERE WHAT IT READS IS OF BULK AT MOST 1048576: true; the input reads as it did. -/
def fnExactFormatSequenceUptoRow : OpenClaim := { program := "ytgbjnchipnbohaa", sum := "48ec7aa4dc697b776da15e1be590c7a453a721dd0ca47878901200825601d1b8", func := "loop.example/g03402/laws.FnExactFormatSequence", spec := "fnExactFormatSequence", apart := false, narrowed := true }
def FnExactFormatSequenceUptoSaid : Prop := fnExactFormatSequenceUptoRow.holds Try.pinned (OpenSpec.upto fnExactFormatSequenceSpec)

/-- 'laws.FnExactCyclicStructure', WHERE WHAT IT READS IS OF BULK AT MOST 1048576: true; the input reads as it did. -/
def fnExactCyclicStructureUptoRow : OpenClaim := { program := "ytgbjnchipnbohaa", sum := "48ec7aa4dc697b776da15e1be590c7a453a721dd0ca47878901200825601d1b8", func := "loop.example/g03402/laws.FnExactCyclicStructure", spec := "fnExactCyclicStructure", apart := false, narrowed := true }
def FnExactCyclicStructureUptoSaid : Prop := fnExactCyclicStructureUptoRow.holds Try.pinned (OpenSpec.upto fnExactCyclicStructureSpec)

/-- 'laws.FnExactIsAtom', WHERE WHAT IT READS IS OF BULK AT MOST 1048576: true; the input reads as it did. -/
def fnExactIsAtomUptoRow : OpenClaim := { program := "ytgbjnchipnbohaa", sum := "48ec7aa4dc697b776da15e1be590c7a453a721dd0ca47878901200825601d1b8", func := "loop.example/g03402/laws.FnExactIsAtom", spec := "fnExactIsAtom", apart := false, narrowed := true }
def FnExactIsAtomUptoSaid : Prop := fnExactIsAtomUptoRow.holds Try.pinned (OpenSpec.upto fnExactIsAtomSpec)

/-- 'laws.FnExactHasPeriodicFactor', WHERE WHAT IT READS IS OF BULK AT MOST 1048576: true; the input reads as it did. -/
def fnExactHasPeriodicFactorUptoRow : OpenClaim := { program := "ytgbjnchipnbohaa", sum := "48ec7aa4dc697b776da15e1be590c7a453a721dd0ca47878901200825601d1b8", func := "loop.example/g03402/laws.FnExactHasPeriodicFactor", spec := "fnExactHasPeriodicFactor", apart := false, narrowed := true }
def FnExactHasPeriodicFactorUptoSaid : Prop := fnExactHasPeriodicFactorUptoRow.holds Try.pinned (OpenSpec.upto fnExactHasPeriodicFactorSpec)

/-- 'laws.FnExactShortestZero', WHERE WHAT IT READS IS OF BULK AT MOST 1048576: true; the input reads as it did. -/
def fnExactShortestZeroUptoRow : OpenClaim := { program := "ytgbjnchipnbohaa", sum := "48ec7aa4dc697b776da15e1be590c7a453a721dd0ca47878901200825601d1b8", func := "loop.example/g03402/laws.FnExactShortestZero", spec := "fnExactShortestZero", apart := false, narrowed := true }
def FnExactShortestZeroUptoSaid : Prop := fnExactShortestZeroUptoRow.holds Try.pinned (OpenSpec.upto fnExactShortestZeroSpec)

/-- 'laws.FnExactZeroOfLength', WHERE WHAT IT READS IS OF BULK AT MOST 1048576: true; the input reads as it did. -/
def fnExactZeroOfLengthUptoRow : OpenClaim := { program := "ytgbjnchipnbohaa", sum := "48ec7aa4dc697b776da15e1be590c7a453a721dd0ca47878901200825601d1b8", func := "loop.example/g03402/laws.FnExactZeroOfLength", spec := "fnExactZeroOfLength", apart := false, narrowed := true }
def FnExactZeroOfLengthUptoSaid : Prop := fnExactZeroOfLengthUptoRow.holds Try.pinned (OpenSpec.upto fnExactZeroOfLengthSpec)

/-- 'laws.FnExactIsProperBox', WHERE WHAT IT READS IS OF BULK AT MOST 1048576: true; the input reads as it did. -/
def fnExactIsProperBoxUptoRow : OpenClaim := { program := "ytgbjnchipnbohaa", sum := "48ec7aa4dc697b776da15e1be590c7a453a721dd0ca47878901200825601d1b8", func := "loop.example/g03402/laws.FnExactIsProperBox", spec := "fnExactIsProperBox", apart := false, narrowed := true }
def FnExactIsProperBoxUptoSaid : Prop := fnExactIsProperBoxUptoRow.holds Try.pinned (OpenSpec.upto fnExactIsProperBoxSpec)

/-- 'laws.FnExactIsBox', WHERE WHAT IT READS IS OF BULK AT MOST 1048576: true; the input reads as it did. -/
def fnExactIsBoxUptoRow : OpenClaim := { program := "ytgbjnchipnbohaa", sum := "48ec7aa4dc697b776da15e1be590c7a453a721dd0ca47878901200825601d1b8", func := "loop.example/g03402/laws.FnExactIsBox", spec := "fnExactIsBox", apart := false, narrowed := true }
def FnExactIsBoxUptoSaid : Prop := fnExactIsBoxUptoRow.holds Try.pinned (OpenSpec.upto fnExactIsBoxSpec)

/-- 'laws.FnExactFindBox', WHERE WHAT IT READS IS OF BULK AT MOST 1048576: true; the input reads as it did. -/
def fnExactFindBoxUptoRow : OpenClaim := { program := "ytgbjnchipnbohaa", sum := "48ec7aa4dc697b776da15e1be590c7a453a721dd0ca47878901200825601d1b8", func := "loop.example/g03402/laws.FnExactFindBox", spec := "fnExactFindBox", apart := false, narrowed := true }
def FnExactFindBoxUptoSaid : Prop := fnExactFindBoxUptoRow.holds Try.pinned (OpenSpec.upto fnExactFindBoxSpec)

/-- 'laws.FnExactReplaceFactor', WHERE WHAT IT READS IS OF BULK AT MOST 1048576: true; the input reads as it did. -/
def fnExactReplaceFactorUptoRow : OpenClaim := { program := "ytgbjnchipnbohaa", sum := "48ec7aa4dc697b776da15e1be590c7a453a721dd0ca47878901200825601d1b8", func := "loop.example/g03402/laws.FnExactReplaceFactor", spec := "fnExactReplaceFactor", apart := false, narrowed := true }
def FnExactReplaceFactorUptoSaid : Prop := fnExactReplaceFactorUptoRow.holds Try.pinned (OpenSpec.upto fnExactReplaceFactorSpec)

/-- 'laws.FnExactSortSequence', WHERE WHAT IT READS IS OF BULK AT MOST 1048576: true; the input reads as it did. -/
def fnExactSortSequenceUptoRow : OpenClaim := { program := "ytgbjnchipnbohaa", sum := "48ec7aa4dc697b776da15e1be590c7a453a721dd0ca47878901200825601d1b8", func := "loop.example/g03402/laws.FnExactSortSequence", spec := "fnExactSortSequence", recurses := true, apart := false, narrowed := true }
def FnExactSortSequenceUptoSaid : Prop := fnExactSortSequenceUptoRow.holds Try.pinned (OpenSpec.upto fnExactSortSequenceSpec)

end Rows
end Go.Proofs.Ytgbjnchipnbohaa
