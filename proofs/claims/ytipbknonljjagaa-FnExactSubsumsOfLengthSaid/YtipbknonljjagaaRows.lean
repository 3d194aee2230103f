/-
  No cell of these rows narrows 'for every input' (looked for: loops, veiled, ifaces, maps, wideKeys, modest, calm, conditions, laid).
  DERIVED. THE GIVEN ROWS OF THIS SEAT. 10 by the template 'for every input the law returns true; each argument reads behind the call as it read before'; 0 by the template 'total and deterministic' (their statements: YtipbknonljjagaaTotals.lean).
  GIVEN WITH THE SEED: the statements are not yours to turn. If you find one false, say at which input.
  Laid BY PROGRAM, IN A SANDBOX (cutbox-rows.mjs): the forced cells as the released guide's own fill.sh prints them over the translation c762bbc53250f63c… (all of the seat's roots in one cut). By AI agents, Wed Nov 11 2026. No macro, syntax, notation, axiom, sorry.
-/
import Derived.Test.YtipbknonljjagaaChecked
import GoSem.Claim
import GoSem.ClaimJoined
import GoSem.ClaimMapViews
import Derived.JoinedTies
import Derived.KernelRfl
namespace Go.Proofs.Ytipbknonljjagaa
/- THE CELL 'sum', in the pinned program and in every row, IS THE sha256 OF THE DUMP (.gsa) THAT YtipbknonljjagaaProg.lean LOADS. Nothing in Lean hashes anything: it is a label: what it is worth is what the hold of that sum in a sandbox is worth. -/
noncomputable def Try.pinned : Pinned := { name := "ytipbknonljjagaa", sum := "c762bbc53250f63c589afedfef7e67b95e964894e2ebde5929a9fb17d751d5c7", checked := Try.checked }
namespace Rows
def none {H : Type} : Left H := { results := [], args := [] }

/-- 'laws.FnExactIsZeroSum': WHATEVER THE INPUT: true; the input reads as it did. -/
def fnExactIsZeroSumSpec : ChangeSpec := { name := "fnExactIsZeroSum", fn := fun _ => fun
  | [d1, d2] => { results := [.lit (.bool true)], args := [d1, d2] }
  | _ => none }
def fnExactIsZeroSumRow : OpenClaim := { program := "ytipbknonljjagaa", sum := "c762bbc53250f63c589afedfef7e67b95e964894e2ebde5929a9fb17d751d5c7", func := "loop.example/g03402/laws.FnExactIsZeroSum", spec := "fnExactIsZeroSum", apart := false }
def FnExactIsZeroSumSaid : Prop := fnExactIsZeroSumRow.holds Try.pinned (OpenSpec.ofChange fnExactIsZeroSumSpec)

/-- ITS FALSE NEIGHBOUR: 'it returns false'. Refute it at one input. -/
def fnExactIsZeroSumWrong : ChangeSpec := { name := "fnExactIsZeroSum", fn := fun _ => fun
  | [d1, d2] => { results := [.lit (.bool false)], args := [d1, d2] }
  | _ => none }
def FnExactIsZeroSumWrongFalsely : Prop := fnExactIsZeroSumRow.holds Try.pinned (OpenSpec.ofChange fnExactIsZeroSumWrong)

/-- 'laws.FnExactIsSumFree': WHATEVER THE INPUT: true; the input reads as it did. -/
def fnExactIsSumFreeSpec : ChangeSpec := { name := "fnExactIsSumFree", fn := fun _ => fun
  | [d1, d2] => { results := [.lit (.bool true)], args := [d1, d2] }
  | _ => none }
def fnExactIsSumFreeRow : OpenClaim := { program := "ytipbknonljjagaa", sum := "c762bbc53250f63c589afedfef7e67b95e964894e2ebde5929a9fb17d751d5c7", func := "loop.example/g03402/laws.FnExactIsSumFree", spec := "fnExactIsSumFree", apart := false }
def FnExactIsSumFreeSaid : Prop := fnExactIsSumFreeRow.holds Try.pinned (OpenSpec.ofChange fnExactIsSumFreeSpec)

/-- ITS FALSE NEIGHBOUR: 'it returns false'. Refute it at one input. -/
def fnExactIsSumFreeWrong : ChangeSpec := { name := "fnExactIsSumFree", fn := fun _ => fun
  | [d1, d2] => { results := [.lit (.bool false)], args := [d1, d2] }
  | _ => none }
def FnExactIsSumFreeWrongFalsely : Prop := fnExactIsSumFreeRow.holds Try.pinned (OpenSpec.ofChange fnExactIsSumFreeWrong)

/-- 'laws.FnExactSumOfSequence': WHATEVER THE INPUT: true; the input reads as it did. -/
def fnExactSumOfSequenceSpec : ChangeSpec := { name := "fnExactSumOfSequence", fn := fun _ => fun
  | [d1, d2] => { results := [.lit (.bool true)], args := [d1, d2] }
  | _ => none }
def fnExactSumOfSequenceRow : OpenClaim := { program := "ytipbknonljjagaa", sum := "c762bbc53250f63c589afedfef7e67b95e964894e2ebde5929a9fb17d751d5c7", func := "loop.example/g03402/laws.FnExactSumOfSequence", spec := "fnExactSumOfSequence", apart := false }
def FnExactSumOfSequenceSaid : Prop := fnExactSumOfSequenceRow.holds Try.pinned (OpenSpec.ofChange fnExactSumOfSequenceSpec)

/-- ITS FALSE NEIGHBOUR: 'it returns false'. Refute it at one input. -/
def fnExactSumOfSequenceWrong : ChangeSpec := { name := "fnExactSumOfSequence", fn := fun _ => fun
  | [d1, d2] => { results := [.lit (.bool false)], args := [d1, d2] }
  | _ => none }
def FnExactSumOfSequenceWrongFalsely : Prop := fnExactSumOfSequenceRow.holds Try.pinned (OpenSpec.ofChange fnExactSumOfSequenceWrong)

/-- 'laws.FnExactIsZeroFree': WHATEVER THE INPUT: true; the input reads as it did. -/
def fnExactIsZeroFreeSpec : ChangeSpec := { name := "fnExactIsZeroFree", fn := fun _ => fun
  | [d1, d2] => { results := [.lit (.bool true)], args := [d1, d2] }
  | _ => none }
def fnExactIsZeroFreeRow : OpenClaim := { program := "ytipbknonljjagaa", sum := "c762bbc53250f63c589afedfef7e67b95e964894e2ebde5929a9fb17d751d5c7", func := "loop.example/g03402/laws.FnExactIsZeroFree", spec := "fnExactIsZeroFree", apart := false }
def FnExactIsZeroFreeSaid : Prop := fnExactIsZeroFreeRow.holds Try.pinned (OpenSpec.ofChange fnExactIsZeroFreeSpec)

/-- ITS FALSE NEIGHBOUR: 'it returns false'. Refute it at one input. -/
def fnExactIsZeroFreeWrong : ChangeSpec := { name := "fnExactIsZeroFree", fn := fun _ => fun
  | [d1, d2] => { results := [.lit (.bool false)], args := [d1, d2] }
  | _ => none }
def FnExactIsZeroFreeWrongFalsely : Prop := fnExactIsZeroFreeRow.holds Try.pinned (OpenSpec.ofChange fnExactIsZeroFreeWrong)

/-- 'laws.FnExactIsDirect': WHATEVER THE INPUT: true; the input reads as it did. -/
def fnExactIsDirectSpec : ChangeSpec := { name := "fnExactIsDirect", fn := fun _ => fun
  | [d1, d2, d3] => { results := [.lit (.bool true)], args := [d1, d2, d3] }
  | _ => none }
def fnExactIsDirectRow : OpenClaim := { program := "ytipbknonljjagaa", sum := "c762bbc53250f63c589afedfef7e67b95e964894e2ebde5929a9fb17d751d5c7", func := "loop.example/g03402/laws.FnExactIsDirect", spec := "fnExactIsDirect", apart := false }
def FnExactIsDirectSaid : Prop := fnExactIsDirectRow.holds Try.pinned (OpenSpec.ofChange fnExactIsDirectSpec)

/-- ITS FALSE NEIGHBOUR: 'it returns false'. Refute it at one input. -/
def fnExactIsDirectWrong : ChangeSpec := { name := "fnExactIsDirect", fn := fun _ => fun
  | [d1, d2, d3] => { results := [.lit (.bool false)], args := [d1, d2, d3] }
  | _ => none }
def FnExactIsDirectWrongFalsely : Prop := fnExactIsDirectRow.holds Try.pinned (OpenSpec.ofChange fnExactIsDirectWrong)

/-- 'laws.FnExactIsTiling': WHATEVER THE INPUT: true; the input reads as it did. -/
def fnExactIsTilingSpec : ChangeSpec := { name := "fnExactIsTiling", fn := fun _ => fun
  | [d1, d2, d3] => { results := [.lit (.bool true)], args := [d1, d2, d3] }
  | _ => none }
def fnExactIsTilingRow : OpenClaim := { program := "ytipbknonljjagaa", sum := "c762bbc53250f63c589afedfef7e67b95e964894e2ebde5929a9fb17d751d5c7", func := "loop.example/g03402/laws.FnExactIsTiling", spec := "fnExactIsTiling", apart := false }
def FnExactIsTilingSaid : Prop := fnExactIsTilingRow.holds Try.pinned (OpenSpec.ofChange fnExactIsTilingSpec)

/-- ITS FALSE NEIGHBOUR: 'it returns false'. Refute it at one input. -/
def fnExactIsTilingWrong : ChangeSpec := { name := "fnExactIsTiling", fn := fun _ => fun
  | [d1, d2, d3] => { results := [.lit (.bool false)], args := [d1, d2, d3] }
  | _ => none }
def FnExactIsTilingWrongFalsely : Prop := fnExactIsTilingRow.holds Try.pinned (OpenSpec.ofChange fnExactIsTilingWrong)

/-- 'laws.FnExactSubsumsOf': WHATEVER THE INPUT: true; the input reads as it did. -/
def fnExactSubsumsOfSpec : ChangeSpec := { name := "fnExactSubsumsOf", fn := fun _ => fun
  | [d1, d2] => { results := [.lit (.bool true)], args := [d1, d2] }
  | _ => none }
def fnExactSubsumsOfRow : OpenClaim := { program := "ytipbknonljjagaa", sum := "c762bbc53250f63c589afedfef7e67b95e964894e2ebde5929a9fb17d751d5c7", func := "loop.example/g03402/laws.FnExactSubsumsOf", spec := "fnExactSubsumsOf", apart := false }
def FnExactSubsumsOfSaid : Prop := fnExactSubsumsOfRow.holds Try.pinned (OpenSpec.ofChange fnExactSubsumsOfSpec)

/-- ITS FALSE NEIGHBOUR: 'it returns false'. Refute it at one input. -/
def fnExactSubsumsOfWrong : ChangeSpec := { name := "fnExactSubsumsOf", fn := fun _ => fun
  | [d1, d2] => { results := [.lit (.bool false)], args := [d1, d2] }
  | _ => none }
def FnExactSubsumsOfWrongFalsely : Prop := fnExactSubsumsOfRow.holds Try.pinned (OpenSpec.ofChange fnExactSubsumsOfWrong)

/-- 'laws.FnExactSubsumsOfLength': WHATEVER THE INPUT: true; the input reads as it did. -/
def fnExactSubsumsOfLengthSpec : ChangeSpec := { name := "fnExactSubsumsOfLength", fn := fun _ => fun
  | [d1, d2, d3] => { results := [.lit (.bool true)], args := [d1, d2, d3] }
  | _ => none }
def fnExactSubsumsOfLengthRow : OpenClaim := { program := "ytipbknonljjagaa", sum := "c762bbc53250f63c589afedfef7e67b95e964894e2ebde5929a9fb17d751d5c7", func := "loop.example/g03402/laws.FnExactSubsumsOfLength", spec := "fnExactSubsumsOfLength", apart := false }
def FnExactSubsumsOfLengthSaid : Prop := fnExactSubsumsOfLengthRow.holds Try.pinned (OpenSpec.ofChange fnExactSubsumsOfLengthSpec)

/-- ITS FALSE NEIGHBOUR: 'it returns false'. Refute it at one input. -/
def fnExactSubsumsOfLengthWrong : ChangeSpec := { name := "fnExactSubsumsOfLength", fn := fun _ => fun
  | [d1, d2, d3] => { results := [.lit (.bool false)], args := [d1, d2, d3] }
  | _ => none }
def FnExactSubsumsOfLengthWrongFalsely : Prop := fnExactSubsumsOfLengthRow.holds Try.pinned (OpenSpec.ofChange fnExactSubsumsOfLengthWrong)

/-- 'laws.FnExactIsFreimanMap': WHATEVER THE INPUT: true; the input reads as it did. -/
def fnExactIsFreimanMapSpec : ChangeSpec := { name := "fnExactIsFreimanMap", fn := fun _ => fun
  | [d1, d2, d3, d4] => { results := [.lit (.bool true)], args := [d1, d2, d3, d4] }
  | _ => none }
def fnExactIsFreimanMapRow : OpenClaim := { program := "ytipbknonljjagaa", sum := "c762bbc53250f63c589afedfef7e67b95e964894e2ebde5929a9fb17d751d5c7", func := "loop.example/g03402/laws.FnExactIsFreimanMap", spec := "fnExactIsFreimanMap", apart := false }
def FnExactIsFreimanMapSaid : Prop := fnExactIsFreimanMapRow.holds Try.pinned (OpenSpec.ofChange fnExactIsFreimanMapSpec)

/-- ITS FALSE NEIGHBOUR: 'it returns false'. Refute it at one input. -/
def fnExactIsFreimanMapWrong : ChangeSpec := { name := "fnExactIsFreimanMap", fn := fun _ => fun
  | [d1, d2, d3, d4] => { results := [.lit (.bool false)], args := [d1, d2, d3, d4] }
  | _ => none }
def FnExactIsFreimanMapWrongFalsely : Prop := fnExactIsFreimanMapRow.holds Try.pinned (OpenSpec.ofChange fnExactIsFreimanMapWrong)

/-- 'laws.FnExactIsFreimanIso': WHATEVER THE INPUT: true; the input reads as it did. -/
def fnExactIsFreimanIsoSpec : ChangeSpec := { name := "fnExactIsFreimanIso", fn := fun _ => fun
  | [d1, d2, d3, d4] => { results := [.lit (.bool true)], args := [d1, d2, d3, d4] }
  | _ => none }
def fnExactIsFreimanIsoRow : OpenClaim := { program := "ytipbknonljjagaa", sum := "c762bbc53250f63c589afedfef7e67b95e964894e2ebde5929a9fb17d751d5c7", func := "loop.example/g03402/laws.FnExactIsFreimanIso", spec := "fnExactIsFreimanIso", apart := false }
def FnExactIsFreimanIsoSaid : Prop := fnExactIsFreimanIsoRow.holds Try.pinned (OpenSpec.ofChange fnExactIsFreimanIsoSpec)

/-- ITS FALSE NEIGHBOUR: 'it returns false'. Refute it at one input. -/
def fnExactIsFreimanIsoWrong : ChangeSpec := { name := "fnExactIsFreimanIso", fn := fun _ => fun
  | [d1, d2, d3, d4] => { results := [.lit (.bool false)], args := [d1, d2, d3, d4] }
  | _ => none }
def FnExactIsFreimanIsoWrongFalsely : Prop := fnExactIsFreimanIsoRow.holds Try.pinned (OpenSpec.ofChange fnExactIsFreimanIsoWrong)

/- THE SECOND FORM. 'bulk': how many values and letters a reading holds, each counted each time it is reached (what is shared counts as often as it is met; a slice's spare places count too). A statement '..UptoSaid' is the law's where the arguments, and the package variables that the reading takes, are together of bulk at most 1048576: NARROWER than '..Said'. Prove '..Said' where nothing that the law and all that it calls make is longer than what came in: it says more and counts as full. Else prove '..UptoSaid'. A law counts once. -/
mutual
def uptoBulk {H : Type} : DataW H → Nat
  | .lit (.string bytes) => bytes.length + 1
  | .lit _ => 1
  | .nil => 1
  | .ptr d => uptoBulk d + 1
  | .slice elems spare => uptoBulkAll elems + uptoBulkAll spare + 1
  | .agg parts => uptoBulkAll parts + 1
  | .iface _ d => uptoBulk d + 1
  | .map entries => uptoBulkEntries entries + 1
  | .held _ => 1
def uptoBulkAll {H : Type} : List (DataW H) → Nat
  | [] => 0
  | d :: r => uptoBulk d + uptoBulkAll r
def uptoBulkEntries {H : Type} : List (Lit × DataW H) → Nat
  | [] => 0
  | x :: r => uptoBulkEntry x + uptoBulkEntries r
def uptoBulkEntry {H : Type} : Lit × DataW H → Nat
  | (.string bytes, d) => bytes.length + uptoBulk d + 1
  | (_, d) => uptoBulk d + 1
 end
def uptoSmall : (H : Type) → List (DataW H) → Bool := fun _ ds => decide (uptoBulkAll ds ≤ 1048576)
def OpenSpec.upto (s : _root_.Go.ChangeSpec) : _root_.Go.OpenSpec := { _root_.Go.OpenSpec.ofChange s with cond := some uptoSmall }

/-- 'laws.FnExactIsZeroSum', WHERE WHAT IT READS IS OF BULK AT MOST 1048576: true; the input reads as it did. -/
def fnExactIsZeroSumUptoRow : OpenClaim := { program := "ytipbknonljjagaa", sum := "c762bbc53250f63c589afedfef7e67b95e964894e2ebde5929a9fb17d751d5c7", func := "loop.example/g03402/laws.FnExactIsZeroSum", spec := "fnExactIsZeroSum", apart := false, narrowed := true }
def FnExactIsZeroSumUptoSaid : Prop := fnExactIsZeroSumUptoRow.holds Try.pinned (OpenSpec.upto fnExactIsZeroSumSpec)

/-- 'laws.FnExactIsSumFree', WHERE WHAT IT READS IS OF BULK AT MOST 1048576: true; the input reads as it did. -/
def fnExactIsSumFreeUptoRow : OpenClaim := { program := "ytipbknonljjagaa", sum := "c762bbc53250f63c589afedfef7e67b95e964894e2ebde5929a9fb17d751d5c7", func := "loop.example/g03402/laws.FnExactIsSumFree", spec := "fnExactIsSumFree", apart := false, narrowed := true }
def FnExactIsSumFreeUptoSaid : Prop := fnExactIsSumFreeUptoRow.holds Try.pinned (OpenSpec.upto fnExactIsSumFreeSpec)

/-- 'laws.FnExactSumOfSequence', WHERE WHAT IT READS IS OF BULK AT MOST 1048576: true; the input reads as it did. -/
def fnExactSumOfSequenceUptoRow : OpenClaim := { program := "ytipbknonljjagaa", sum := "c762bbc53250f63c589afedfef7e67b95e964894e2ebde5929a9fb17d751d5c7", func := "loop.example/g03402/laws.FnExactSumOfSequence", spec := "fnExactSumOfSequence", apart := false, narrowed := true }
def FnExactSumOfSequenceUptoSaid : Prop := fnExactSumOfSequenceUptoRow.holds Try.pinned (OpenSpec.upto fnExactSumOfSequenceSpec)

/-- 'laws.FnExactIsZeroFree', WHERE WHAT IT READS IS OF BULK AT MOST 1048576: true; the input reads as it did. -/
def fnExactIsZeroFreeUptoRow : OpenClaim := { program := "ytipbknonljjagaa", sum := "c762bbc53250f63c589afedfef7e67b95e964894e2ebde5929a9fb17d751d5c7", func := "loop.example/g03402/laws.FnExactIsZeroFree", spec := "fnExactIsZeroFree", apart := false, narrowed := true }
def FnExactIsZeroFreeUptoSaid : Prop := fnExactIsZeroFreeUptoRow.holds Try.pinned (OpenSpec.upto fnExactIsZeroFreeSpec)

/-- 'laws.FnExactIsDirect', WHERE WHAT IT READS IS OF BULK AT MOST 1048576: true; the input reads as it did. -/
def fnExactIsDirectUptoRow : OpenClaim := { program := "ytipbknonljjagaa", sum := "c762bbc53250f63c589afedfef7e67b95e964894e2ebde5929a9fb17d751d5c7", func := "loop.example/g03402/laws.FnExactIsDirect", spec := "fnExactIsDirect", apart := false, narrowed := true }
def FnExactIsDirectUptoSaid : Prop := fnExactIsDirectUptoRow.holds Try.pinned (OpenSpec.upto fnExactIsDirectSpec)

/-- 'laws.FnExactIsTiling', WHERE WHAT IT READS IS OF BULK AT MOST 1048576: true; the input reads as it did. -/
def fnExactIsTilingUptoRow : OpenClaim := { program := "ytipbknonljjagaa", sum := "c762bbc53250f63c589afedfef7e67b95e964894e2ebde5929a9fb17d751d5c7", func := "loop.example/g03402/laws.FnExactIsTiling", spec := "fnExactIsTiling", apart := false, narrowed := true }
def FnExactIsTilingUptoSaid : Prop := fnExactIsTilingUptoRow.holds Try.pinned (OpenSpec.upto fnExactIsTilingSpec)

/-- 'laws.FnExactSubsumsOf', WHERE WHAT IT READS IS OF BULK AT MOST 1048576: true; the input reads as it did. -/
def fnExactSubsumsOfUptoRow : OpenClaim := { program := "ytipbknonljjagaa", sum := "c762bbc53250f63c589afedfef7e67b95e964894e2ebde5929a9fb17d751d5c7", func := "loop.example/g03402/laws.FnExactSubsumsOf", spec := "fnExactSubsumsOf", apart := false, narrowed := true }
def FnExactSubsumsOfUptoSaid : Prop := fnExactSubsumsOfUptoRow.holds Try.pinned (OpenSpec.upto fnExactSubsumsOfSpec)

/-- 'laws.FnExactSubsumsOfLength', WHERE WHAT IT READS IS OF BULK AT MOST 1048576: true; the input reads as it did. -/
def fnExactSubsumsOfLengthUptoRow : OpenClaim := { program := "ytipbknonljjagaa", sum := "c762bbc53250f63c589afedfef7e67b95e964894e2ebde5929a9fb17d751d5c7", func := "loop.example/g03402/laws.FnExactSubsumsOfLength", spec := "fnExactSubsumsOfLength", apart := false, narrowed := true }
def FnExactSubsumsOfLengthUptoSaid : Prop := fnExactSubsumsOfLengthUptoRow.holds Try.pinned (OpenSpec.upto fnExactSubsumsOfLengthSpec)

/-- 'laws.FnExactIsFreimanMap', WHERE WHAT IT READS IS OF BULK AT MOST 1048576: true; the input reads as it did. -/
def fnExactIsFreimanMapUptoRow : OpenClaim := { program := "ytipbknonljjagaa", sum := "c762bbc53250f63c589afedfef7e67b95e964894e2ebde5929a9fb17d751d5c7", func := "loop.example/g03402/laws.FnExactIsFreimanMap", spec := "fnExactIsFreimanMap", apart := false, narrowed := true }
def FnExactIsFreimanMapUptoSaid : Prop := fnExactIsFreimanMapUptoRow.holds Try.pinned (OpenSpec.upto fnExactIsFreimanMapSpec)

/-- 'laws.FnExactIsFreimanIso', WHERE WHAT IT READS IS OF BULK AT MOST 1048576: true; the input reads as it did. -/
def fnExactIsFreimanIsoUptoRow : OpenClaim := { program := "ytipbknonljjagaa", sum := "c762bbc53250f63c589afedfef7e67b95e964894e2ebde5929a9fb17d751d5c7", func := "loop.example/g03402/laws.FnExactIsFreimanIso", spec := "fnExactIsFreimanIso", apart := false, narrowed := true }
def FnExactIsFreimanIsoUptoSaid : Prop := fnExactIsFreimanIsoUptoRow.holds Try.pinned (OpenSpec.upto fnExactIsFreimanIsoSpec)

end Rows
end Go.Proofs.Ytipbknonljjagaa
