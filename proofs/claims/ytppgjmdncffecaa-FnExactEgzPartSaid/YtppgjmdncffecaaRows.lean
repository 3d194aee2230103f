/-
  No cell of these rows narrows 'for every input' (looked for: loops, veiled, ifaces, maps, wideKeys, modest, calm, conditions, laid).
  DERIVED. THE GIVEN ROWS OF THIS SEAT. 6 by the template 'for every input the law returns true; each argument reads behind the call as it read before'; 0 by the template 'total and deterministic' (their statements: YtppgjmdncffecaaTotals.lean).
  GIVEN WITH THE SEED: the statements are not yours to turn. If you find one false, say at which input.
  Laid BY PROGRAM, IN A SANDBOX (cutbox-rows.mjs): the forced cells as the released guide's own fill.sh prints them over the translation 138836802e43e122… (all of the seat's roots in one cut). By AI agents, Wed Nov 11 2026. No macro, syntax, notation, axiom, sorry.
-/
import Derived.Test.YtppgjmdncffecaaChecked
import GoSem.Claim
import GoSem.ClaimJoined
import GoSem.ClaimMapViews
import Derived.JoinedTies
import Derived.KernelRfl
namespace Go.Proofs.Ytppgjmdncffecaa
/- THE CELL 'sum', in the pinned program and in every row, IS THE sha256 OF THE DUMP (.gsa) THAT YtppgjmdncffecaaProg.lean LOADS. Nothing in Lean hashes anything: it is a label: what it is worth is what the hold of that sum in a sandbox is worth. -/
noncomputable def Try.pinned : Pinned := { name := "ytppgjmdncffecaa", sum := "138836802e43e12249fffaa8a8ad3751bfc8440e3385580d1bb7152813273f87", checked := Try.checked }
namespace Rows
def none {H : Type} : Left H := { results := [], args := [] }

/-- 'laws.FnExactMultiplicityIn': WHATEVER THE INPUT: true; the input reads as it did. -/
def fnExactMultiplicityInSpec : ChangeSpec := { name := "fnExactMultiplicityIn", fn := fun _ => fun
  | [d1, d2] => { results := [.lit (.bool true)], args := [d1, d2] }
  | _ => none }
def fnExactMultiplicityInRow : OpenClaim := { program := "ytppgjmdncffecaa", sum := "138836802e43e12249fffaa8a8ad3751bfc8440e3385580d1bb7152813273f87", func := "loop.example/g03402/laws.FnExactMultiplicityIn", spec := "fnExactMultiplicityIn", apart := false }
def FnExactMultiplicityInSaid : Prop := fnExactMultiplicityInRow.holds Try.pinned (OpenSpec.ofChange fnExactMultiplicityInSpec)

/-- ITS FALSE NEIGHBOUR: 'it returns false'. Refute it at one input. -/
def fnExactMultiplicityInWrong : ChangeSpec := { name := "fnExactMultiplicityIn", fn := fun _ => fun
  | [d1, d2] => { results := [.lit (.bool false)], args := [d1, d2] }
  | _ => none }
def FnExactMultiplicityInWrongFalsely : Prop := fnExactMultiplicityInRow.holds Try.pinned (OpenSpec.ofChange fnExactMultiplicityInWrong)

/-- 'laws.FnExactMiddleThird': WHATEVER THE INPUT: true; the input reads as it did. -/
def fnExactMiddleThirdSpec : ChangeSpec := { name := "fnExactMiddleThird", fn := fun _ => fun
  | [d] => { results := [.lit (.bool true)], args := [d] }
  | _ => none }
def fnExactMiddleThirdRow : OpenClaim := { program := "ytppgjmdncffecaa", sum := "138836802e43e12249fffaa8a8ad3751bfc8440e3385580d1bb7152813273f87", func := "loop.example/g03402/laws.FnExactMiddleThird", spec := "fnExactMiddleThird", apart := false }
def FnExactMiddleThirdSaid : Prop := fnExactMiddleThirdRow.holds Try.pinned (OpenSpec.ofChange fnExactMiddleThirdSpec)

/-- ITS FALSE NEIGHBOUR: 'it returns false'. Refute it at one input. -/
def fnExactMiddleThirdWrong : ChangeSpec := { name := "fnExactMiddleThird", fn := fun _ => fun
  | [d] => { results := [.lit (.bool false)], args := [d] }
  | _ => none }
def FnExactMiddleThirdWrongFalsely : Prop := fnExactMiddleThirdRow.holds Try.pinned (OpenSpec.ofChange fnExactMiddleThirdWrong)

/-- 'laws.FnExactEgzPart': WHATEVER THE INPUT: true; the input reads as it did. -/
def fnExactEgzPartSpec : ChangeSpec := { name := "fnExactEgzPart", fn := fun _ => fun
  | [d1, d2] => { results := [.lit (.bool true)], args := [d1, d2] }
  | _ => none }
def fnExactEgzPartRow : OpenClaim := { program := "ytppgjmdncffecaa", sum := "138836802e43e12249fffaa8a8ad3751bfc8440e3385580d1bb7152813273f87", func := "loop.example/g03402/laws.FnExactEgzPart", spec := "fnExactEgzPart", apart := false }
def FnExactEgzPartSaid : Prop := fnExactEgzPartRow.holds Try.pinned (OpenSpec.ofChange fnExactEgzPartSpec)

/-- ITS FALSE NEIGHBOUR: 'it returns false'. Refute it at one input. -/
def fnExactEgzPartWrong : ChangeSpec := { name := "fnExactEgzPart", fn := fun _ => fun
  | [d1, d2] => { results := [.lit (.bool false)], args := [d1, d2] }
  | _ => none }
def FnExactEgzPartWrongFalsely : Prop := fnExactEgzPartRow.holds Try.pinned (OpenSpec.ofChange fnExactEgzPartWrong)

/-- 'laws.FnExactImageOfMap': WHATEVER THE INPUT: true; the input reads as it did. -/
def fnExactImageOfMapSpec : ChangeSpec := { name := "fnExactImageOfMap", fn := fun _ => fun
  | [d1, d2] => { results := [.lit (.bool true)], args := [d1, d2] }
  | _ => none }
def fnExactImageOfMapRow : OpenClaim := { program := "ytppgjmdncffecaa", sum := "138836802e43e12249fffaa8a8ad3751bfc8440e3385580d1bb7152813273f87", func := "loop.example/g03402/laws.FnExactImageOfMap", spec := "fnExactImageOfMap", apart := false }
def FnExactImageOfMapSaid : Prop := fnExactImageOfMapRow.holds Try.pinned (OpenSpec.ofChange fnExactImageOfMapSpec)

/-- ITS FALSE NEIGHBOUR: 'it returns false'. Refute it at one input. -/
def fnExactImageOfMapWrong : ChangeSpec := { name := "fnExactImageOfMap", fn := fun _ => fun
  | [d1, d2] => { results := [.lit (.bool false)], args := [d1, d2] }
  | _ => none }
def FnExactImageOfMapWrongFalsely : Prop := fnExactImageOfMapRow.holds Try.pinned (OpenSpec.ofChange fnExactImageOfMapWrong)

/-- 'laws.FnExactDavenportBound': WHATEVER THE INPUT: true; the input reads as it did. -/
def fnExactDavenportBoundSpec : ChangeSpec := { name := "fnExactDavenportBound", fn := fun _ => fun
  | [d] => { results := [.lit (.bool true)], args := [d] }
  | _ => none }
def fnExactDavenportBoundRow : OpenClaim := { program := "ytppgjmdncffecaa", sum := "138836802e43e12249fffaa8a8ad3751bfc8440e3385580d1bb7152813273f87", func := "loop.example/g03402/laws.FnExactDavenportBound", spec := "fnExactDavenportBound", apart := false }
def FnExactDavenportBoundSaid : Prop := fnExactDavenportBoundRow.holds Try.pinned (OpenSpec.ofChange fnExactDavenportBoundSpec)

/-- ITS FALSE NEIGHBOUR: 'it returns false'. Refute it at one input. -/
def fnExactDavenportBoundWrong : ChangeSpec := { name := "fnExactDavenportBound", fn := fun _ => fun
  | [d] => { results := [.lit (.bool false)], args := [d] }
  | _ => none }
def FnExactDavenportBoundWrongFalsely : Prop := fnExactDavenportBoundRow.holds Try.pinned (OpenSpec.ofChange fnExactDavenportBoundWrong)

/-- 'laws.FnExactIsSequence': WHATEVER THE INPUT: true; the input reads as it did. -/
def fnExactIsSequenceSpec : ChangeSpec := { name := "fnExactIsSequence", fn := fun _ => fun
  | [d1, d2] => { results := [.lit (.bool true)], args := [d1, d2] }
  | _ => none }
def fnExactIsSequenceRow : OpenClaim := { program := "ytppgjmdncffecaa", sum := "138836802e43e12249fffaa8a8ad3751bfc8440e3385580d1bb7152813273f87", func := "loop.example/g03402/laws.FnExactIsSequence", spec := "fnExactIsSequence", apart := false }
def FnExactIsSequenceSaid : Prop := fnExactIsSequenceRow.holds Try.pinned (OpenSpec.ofChange fnExactIsSequenceSpec)

/-- ITS FALSE NEIGHBOUR: 'it returns false'. Refute it at one input. -/
def fnExactIsSequenceWrong : ChangeSpec := { name := "fnExactIsSequence", fn := fun _ => fun
  | [d1, d2] => { results := [.lit (.bool false)], args := [d1, d2] }
  | _ => none }
def FnExactIsSequenceWrongFalsely : Prop := fnExactIsSequenceRow.holds Try.pinned (OpenSpec.ofChange fnExactIsSequenceWrong)

/- THE SECOND FORM. 'bulk': how many values and letters a reading holds, each counted each time it is reached (what is shared counts as often as it is met; a slice's spare places count too). A statement '..UptoSaid' is the law's where the arguments, and the package variables that the reading takes, are together of bulk at most 1048576: NARROWER than '..Said'. Prove '..Said' where nothing that the law and all that it calls make is longer than what came in: it says more and counts as full. Else prove '..UptoSaid'. A law counts once. -/
mutual
def uptoBulk {H : Type} : DataW H → Nat
  | .lit (.string bytes) => bytes.length + 1
  | .lit _ => 1
  | .nil => 1
  | .ptr d => uptoBulk d + 1
  | .slice elems spare => uptoBulkAll elems + uptoBulkAll spare + 1
  | .agg parts => uptoBulkAll parts + 1
  | .iface _ d => uptoBulk d + 1
  | .map entries => uptoBulkEntries entries + 1
  | .held _ => 1
def uptoBulkAll {H : Type} : List (DataW H) → Nat
  | [] => 0
  | d :: r => uptoBulk d + uptoBulkAll r
def uptoBulkEntries {H : Type} : List (Lit × DataW H) → Nat
  | [] => 0
  | x :: r => uptoBulkEntry x + uptoBulkEntries r
def uptoBulkEntry {H : Type} : Lit × DataW H → Nat
  | (.string bytes, d) => bytes.length + uptoBulk d + 1
  | (_, d) => uptoBulk d + 1
 end
def uptoSmall : (H : Type) → List (DataW H) → Bool := fun _ ds => decide (uptoBulkAll ds ≤ 1048576)
def OpenSpec.upto (s : _root_.Go.ChangeSpec) : _root_.Go.OpenSpec := { _root_.Go.OpenSpec.ofChange s with cond := some uptoSmall }

/-- 'laws.FnExactMultiplicityIn', WHERE WHAT IT READS IS OF BULK AT MOST 1048576: true; the input reads as it did. -/
def fnExactMultiplicityInUptoRow : OpenClaim := { program := "ytppgjmdncffecaa", sum := "138836802e43e12249fffaa8a8ad3751bfc8440e3385580d1bb7152813273f87", func := "loop.example/g03402/laws.FnExactMultiplicityIn", spec := "fnExactMultiplicityIn", apart := false, narrowed := true }
def FnExactMultiplicityInUptoSaid : Prop := fnExactMultiplicityInUptoRow.holds Try.pinned (OpenSpec.upto fnExactMultiplicityInSpec)

/-- 'laws.FnExactMiddleThird', WHERE WHAT IT READS IS OF BULK AT MOST 1048576: true; the input reads as it did. -/
def fnExactMiddleThirdUptoRow : OpenClaim := { program := "ytppgjmdncffecaa", sum := "138836802e43e12249fffaa8a8ad3751bfc8440e3385580d1bb7152813273f87", func := "loop.example/g03402/laws.FnExactMiddleThird", spec := "fnExactMiddleThird", apart := false, narrowed := true }
def FnExactMiddleThirdUptoSaid : Prop := fnExactMiddleThirdUptoRow.holds Try.pinned (OpenSpec.upto fnExactMiddleThirdSpec)

/-- 'laws.FnExactEgzPart', WHERE WHAT IT READS IS OF BULK AT MOST 1048576: true; the input reads as it did. -/
def fnExactEgzPartUptoRow : OpenClaim := { program := "ytppgjmdncffecaa", sum := "138836802e43e12249fffaa8a8ad3751bfc8440e3385580d1bb7152813273f87", func := "loop.example/g03402/laws.FnExactEgzPart", spec := "fnExactEgzPart", apart := false, narrowed := true }
def FnExactEgzPartUptoSaid : Prop := fnExactEgzPartUptoRow.holds Try.pinned (OpenSpec.upto fnExactEgzPartSpec)

/-- 'laws.FnExactImageOfMap', WHERE WHAT IT READS IS OF BULK AT MOST 1048576: true; the input reads as it did. -/
def fnExactImageOfMapUptoRow : OpenClaim := { program := "ytppgjmdncffecaa", sum := "138836802e43e12249fffaa8a8ad3751bfc8440e3385580d1bb7152813273f87", func := "loop.example/g03402/laws.FnExactImageOfMap", spec := "fnExactImageOfMap", apart := false, narrowed := true }
def FnExactImageOfMapUptoSaid : Prop := fnExactImageOfMapUptoRow.holds Try.pinned (OpenSpec.upto fnExactImageOfMapSpec)

/-- 'laws.FnExactDavenportBound', WHERE WHAT IT READS IS OF BULK AT MOST 1048576: true; the input reads as it did. -/
def fnExactDavenportBoundUptoRow : OpenClaim := { program := "ytppgjmdncffecaa", sum := "138836802e43e12249fffaa8a8ad3751bfc8440e3385580d1bb7152813273f87", func := "loop.example/g03402/laws.FnExactDavenportBound", spec := "fnExactDavenportBound", apart := false, narrowed := true }
def FnExactDavenportBoundUptoSaid : Prop := fnExactDavenportBoundUptoRow.holds Try.pinned (OpenSpec.upto fnExactDavenportBoundSpec)

/-- 'laws.FnExactIsSequence', WHERE WHAT IT READS IS OF BULK AT MOST 1048576: true; the input reads as it did. -/
def fnExactIsSequenceUptoRow : OpenClaim := { program := "ytppgjmdncffecaa", sum := "138836802e43e12249fffaa8a8ad3751bfc8440e3385580d1bb7152813273f87", func := "loop.example/g03402/laws.FnExactIsSequence", spec := "fnExactIsSequence", apart := false, narrowed := true }
def FnExactIsSequenceUptoSaid : Prop := fnExactIsSequenceUptoRow.holds Try.pinned (OpenSpec.upto fnExactIsSequenceSpec)

end Rows
end Go.Proofs.Ytppgjmdncffecaa
