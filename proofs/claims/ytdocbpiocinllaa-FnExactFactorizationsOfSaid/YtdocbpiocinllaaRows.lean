/-
  No cell of these rows narrows 'for every input' (looked for: loops, veiled, ifaces, maps, wideKeys, modest, calm, conditions, laid).
  DERIVED. THE GIVEN ROWS OF THIS SEAT. 5 by the template 'for every input the law returns true; each argument reads behind the call as it read before'; 0 by the template 'total and deterministic' (their statements: YtdocbpiocinllaaTotals.lean).
  GIVEN WITH THE SEED: the statements are not yours to turn. If you find one false, say at which input.
  Laid BY PROGRAM, IN A SANDBOX (cutbox-rows.mjs): the forced cells as the released guide's own fill.sh prints them over the translation 5a09cc8e95369237… (all of the seat's roots in one cut). By AI agents, Wed Nov 11 2026. No macro, syntax, notation, axiom, sorry.
-/
import Derived.Test.YtdocbpiocinllaaChecked
import GoSem.Claim
import GoSem.ClaimJoined
import GoSem.ClaimMapViews
import Derived.JoinedTies
import Derived.KernelRfl
namespace Go.Proofs.Ytdocbpiocinllaa
/- THE CELL 'sum', in the pinned program and in every row, IS THE sha256 OF THE DUMP (.gsa) THAT YtdocbpiocinllaaProg.lean LOADS. Nothing in Lean hashes anything: it is a label: what it is worth is what the hold of that sum in a sandbox is worth. -/
noncomputable def Try.pinned : Pinned := { name := "ytdocbpiocinllaa", sum := "5a09cc8e95369237b5d46b8581dfa91f311bceecdec5cebb4d1e1194f794496e", checked := Try.checked }
namespace Rows
def none {H : Type} : Left H := { results := [], args := [] }

/-- 'laws.FnExactCountAtoms': WHATEVER THE INPUT: true; the input reads as it did. -/
def fnExactCountAtomsSpec : ChangeSpec := { name := "fnExactCountAtoms", fn := fun _ => fun
  | [d1, d2] => { results := [.lit (.bool true)], args := [d1, d2] }
  | _ => none }
def fnExactCountAtomsRow : OpenClaim := { program := "ytdocbpiocinllaa", sum := "5a09cc8e95369237b5d46b8581dfa91f311bceecdec5cebb4d1e1194f794496e", func := "loop.example/g03402/laws.FnExactCountAtoms", spec := "fnExactCountAtoms", unfollowed := true, recurses := true, apart := false }
def FnExactCountAtomsSaid : Prop := fnExactCountAtomsRow.holds Try.pinned (OpenSpec.ofChange fnExactCountAtomsSpec)

/-- ITS FALSE NEIGHBOUR: 'it returns false'. Refute it at one input. -/
def fnExactCountAtomsWrong : ChangeSpec := { name := "fnExactCountAtoms", fn := fun _ => fun
  | [d1, d2] => { results := [.lit (.bool false)], args := [d1, d2] }
  | _ => none }
def FnExactCountAtomsWrongFalsely : Prop := fnExactCountAtomsRow.holds Try.pinned (OpenSpec.ofChange fnExactCountAtomsWrong)

/-- 'laws.FnExactAtomsOf': WHATEVER THE INPUT: true; the input reads as it did. -/
def fnExactAtomsOfSpec : ChangeSpec := { name := "fnExactAtomsOf", fn := fun _ => fun
  | [d] => { results := [.lit (.bool true)], args := [d] }
  | _ => none }
def fnExactAtomsOfRow : OpenClaim := { program := "ytdocbpiocinllaa", sum := "5a09cc8e95369237b5d46b8581dfa91f311bceecdec5cebb4d1e1194f794496e", func := "loop.example/g03402/laws.FnExactAtomsOf", spec := "fnExactAtomsOf", unfollowed := true, recurses := true, apart := false }
def FnExactAtomsOfSaid : Prop := fnExactAtomsOfRow.holds Try.pinned (OpenSpec.ofChange fnExactAtomsOfSpec)

/-- ITS FALSE NEIGHBOUR: 'it returns false'. Refute it at one input. -/
def fnExactAtomsOfWrong : ChangeSpec := { name := "fnExactAtomsOf", fn := fun _ => fun
  | [d] => { results := [.lit (.bool false)], args := [d] }
  | _ => none }
def FnExactAtomsOfWrongFalsely : Prop := fnExactAtomsOfRow.holds Try.pinned (OpenSpec.ofChange fnExactAtomsOfWrong)

/-- 'laws.FnExactFactorizationsOf': WHATEVER THE INPUT: true; the input reads as it did. -/
def fnExactFactorizationsOfSpec : ChangeSpec := { name := "fnExactFactorizationsOf", fn := fun _ => fun
  | [d1, d2] => { results := [.lit (.bool true)], args := [d1, d2] }
  | _ => none }
def fnExactFactorizationsOfRow : OpenClaim := { program := "ytdocbpiocinllaa", sum := "5a09cc8e95369237b5d46b8581dfa91f311bceecdec5cebb4d1e1194f794496e", func := "loop.example/g03402/laws.FnExactFactorizationsOf", spec := "fnExactFactorizationsOf", unfollowed := true, recurses := true, apart := false }
def FnExactFactorizationsOfSaid : Prop := fnExactFactorizationsOfRow.holds Try.pinned (OpenSpec.ofChange fnExactFactorizationsOfSpec)

/-- ITS FALSE NEIGHBOUR: 'it returns false'. Refute it at one input. -/
def fnExactFactorizationsOfWrong : ChangeSpec := { name := "fnExactFactorizationsOf", fn := fun _ => fun
  | [d1, d2] => { results := [.lit (.bool false)], args := [d1, d2] }
  | _ => none }
def FnExactFactorizationsOfWrongFalsely : Prop := fnExactFactorizationsOfRow.holds Try.pinned (OpenSpec.ofChange fnExactFactorizationsOfWrong)

/-- 'laws.FnExactLengthsOf': WHATEVER THE INPUT: true; the input reads as it did. -/
def fnExactLengthsOfSpec : ChangeSpec := { name := "fnExactLengthsOf", fn := fun _ => fun
  | [d1, d2] => { results := [.lit (.bool true)], args := [d1, d2] }
  | _ => none }
def fnExactLengthsOfRow : OpenClaim := { program := "ytdocbpiocinllaa", sum := "5a09cc8e95369237b5d46b8581dfa91f311bceecdec5cebb4d1e1194f794496e", func := "loop.example/g03402/laws.FnExactLengthsOf", spec := "fnExactLengthsOf", unfollowed := true, recurses := true, apart := false }
def FnExactLengthsOfSaid : Prop := fnExactLengthsOfRow.holds Try.pinned (OpenSpec.ofChange fnExactLengthsOfSpec)

/-- ITS FALSE NEIGHBOUR: 'it returns false'. Refute it at one input. -/
def fnExactLengthsOfWrong : ChangeSpec := { name := "fnExactLengthsOf", fn := fun _ => fun
  | [d1, d2] => { results := [.lit (.bool false)], args := [d1, d2] }
  | _ => none }
def FnExactLengthsOfWrongFalsely : Prop := fnExactLengthsOfRow.holds Try.pinned (OpenSpec.ofChange fnExactLengthsOfWrong)

/-- 'laws.FnExactElasticityOf': WHATEVER THE INPUT: true; the input reads as it did. -/
def fnExactElasticityOfSpec : ChangeSpec := { name := "fnExactElasticityOf", fn := fun _ => fun
  | [d1, d2] => { results := [.lit (.bool true)], args := [d1, d2] }
  | _ => none }
def fnExactElasticityOfRow : OpenClaim := { program := "ytdocbpiocinllaa", sum := "5a09cc8e95369237b5d46b8581dfa91f311bceecdec5cebb4d1e1194f794496e", func := "loop.example/g03402/laws.FnExactElasticityOf", spec := "fnExactElasticityOf", unfollowed := true, recurses := true, apart := false }
def FnExactElasticityOfSaid : Prop := fnExactElasticityOfRow.holds Try.pinned (OpenSpec.ofChange fnExactElasticityOfSpec)

/-- ITS FALSE NEIGHBOUR: 'it returns false'. Refute it at one input. -/
def fnExactElasticityOfWrong : ChangeSpec := { name := "fnExactElasticityOf", fn := fun _ => fun
  | [d1, d2] => { results := [.lit (.bool false)], args := [d1, d2] }
  | _ => none }
def FnExactElasticityOfWrongFalsely : Prop := fnExactElasticityOfRow.holds Try.pinned (OpenSpec.ofChange fnExactElasticityOfWrong)

/- THE SECOND FORM. 'bulk': how many values and letters a reading holds, each counted each time it is reached (what is shared counts as often as it is met; a slice's spare places count too). A statement '..UptoSaid' is the law's where the arguments, and the package variables that the reading takes, are together of bulk at most 1048576: NARROWER than '..Said'. Prove '..Said' where nothing that the law and all that it calls make is longer than what came in: it says more and counts as full. Else prove '..UptoSaid'. A law counts once. -/
mutual
def uptoBulk {H : Type} : DataW H → Nat
  | .lit (.string bytes) => bytes.length + 1
  | .lit _ => 1
  | .nil => 1
  | .ptr d => uptoBulk d + 1
  | .slice elems spare => uptoBulkAll elems + uptoBulkAll spare + 1
  | .agg parts => uptoBulkAll parts + 1
  | .iface _ d => uptoBulk d + 1
  | .map entries => uptoBulkEntries entries + 1
  | .held _ => 1
def uptoBulkAll {H : Type} : List (DataW H) → Nat
  | [] => 0
  | d :: r => uptoBulk d + uptoBulkAll r
def uptoBulkEntries {H : Type} : List (Lit × DataW H) → Nat
  | [] => 0
  | x :: r => uptoBulkEntry x + uptoBulkEntries r
def uptoBulkEntry {H : Type} : Lit × DataW H → Nat
  | (.string bytes, d) => bytes.length + uptoBulk d + 1
  | (_, d) => uptoBulk d + 1
 end
def uptoSmall : (H : Type) → List (DataW H) → Bool := fun _ ds => decide (uptoBulkAll ds ≤ 1048576)
def OpenSpec.upto (s : _root_.Go.ChangeSpec) : _root_.Go.OpenSpec := { _root_.Go.OpenSpec.ofChange s with cond := some uptoSmall }

/-- 'laws.FnExactCountAtoms', WHERE WHAT IT READS IS OF BULK AT MOST 1048576: true; the input reads as it did. -/
def fnExactCountAtomsUptoRow : OpenClaim := { program := "ytdocbpiocinllaa", sum := "5a09cc8e95369237b5d46b8581dfa91f311bceecdec5cebb4d1e1194f794496e", func := "loop.example/g03402/laws.FnExactCountAtoms", spec := "fnExactCountAtoms", unfollowed := true, recurses := true, apart := false, narrowed := true }
def FnExactCountAtomsUptoSaid : Prop := fnExactCountAtomsUptoRow.holds Try.pinned (OpenSpec.upto fnExactCountAtomsSpec)

/-- 'laws.FnExactAtomsOf', WHERE WHAT IT READS IS OF BULK AT MOST 1048576: true; the input reads as it did. -/
def fnExactAtomsOfUptoRow : OpenClaim := { program := "ytdocbpiocinllaa", sum := "5a09cc8e95369237b5d46b8581dfa91f311bceecdec5cebb4d1e1194f794496e", func := "loop.example/g03402/laws.FnExactAtomsOf", spec := "fnExactAtomsOf", unfollowed := true, recurses := true, apart := false, narrowed := true }
def FnExactAtomsOfUptoSaid : Prop := fnExactAtomsOfUptoRow.holds Try.pinned (OpenSpec.upto fnExactAtomsOfSpec)

/-- 'laws.FnExactFactorizationsOf', WHERE WHAT IT READS IS OF BULK AT MOST 1048576: true; the input reads as it did. -/
def fnExactFactorizationsOfUptoRow : OpenClaim := { program := "ytdocbpiocinllaa", sum := "5a09cc8e95369237b5d46b8581dfa91f311bceecdec5cebb4d1e1194f794496e", func := "loop.example/g03402/laws.FnExactFactorizationsOf", spec := "fnExactFactorizationsOf", unfollowed := true, recurses := true, apart := false, narrowed := true }
def FnExactFactorizationsOfUptoSaid : Prop := fnExactFactorizationsOfUptoRow.holds Try.pinned (OpenSpec.upto fnExactFactorizationsOfSpec)

/-- 'laws.FnExactLengthsOf', WHERE WHAT IT READS IS OF BULK AT MOST 1048576: true; the input reads as it did. -/
def fnExactLengthsOfUptoRow : OpenClaim := { program := "ytdocbpiocinllaa", sum := "5a09cc8e95369237b5d46b8581dfa91f311bceecdec5cebb4d1e1194f794496e", func := "loop.example/g03402/laws.FnExactLengthsOf", spec := "fnExactLengthsOf", unfollowed := true, recurses := true, apart := false, narrowed := true }
def FnExactLengthsOfUptoSaid : Prop := fnExactLengthsOfUptoRow.holds Try.pinned (OpenSpec.upto fnExactLengthsOfSpec)

/-- 'laws.FnExactElasticityOf', WHERE WHAT IT READS IS OF BULK AT MOST 1048576: true; the input reads as it did. -/
def fnExactElasticityOfUptoRow : OpenClaim := { program := "ytdocbpiocinllaa", sum := "5a09cc8e95369237b5d46b8581dfa91f311bceecdec5cebb4d1e1194f794496e", func := "loop.example/g03402/laws.FnExactElasticityOf", spec := "fnExactElasticityOf", unfollowed := true, recurses := true, apart := false, narrowed := true }
def FnExactElasticityOfUptoSaid : Prop := fnExactElasticityOfUptoRow.holds Try.pinned (OpenSpec.upto fnExactElasticityOfSpec)

end Rows
end Go.Proofs.Ytdocbpiocinllaa
