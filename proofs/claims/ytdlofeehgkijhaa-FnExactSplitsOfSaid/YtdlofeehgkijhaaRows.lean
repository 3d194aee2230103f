/-
  No cell of these rows narrows 'for every input' (looked for: loops, veiled, ifaces, maps, wideKeys, modest, calm, conditions, laid).
  DERIVED. THE GIVEN ROWS OF THIS SEAT. 12 by the template 'for every input the law returns true; each argument reads behind the call as it read before'; 0 by the template 'total and deterministic' (their statements: YtdlofeehgkijhaaTotals.lean).
  GIVEN WITH THE SEED: the statements are not yours to turn. If you find one false, say at which input.
  Laid BY PROGRAM, IN A SANDBOX (cutbox-rows.mjs): the forced cells as the released guide's own fill.sh prints them over the translation 295ec83098e1d921… (all of the seat's roots in one cut). By AI agents, Wed Nov 11 2026. No macro, syntax, notation, axiom, sorry.
-/
import Derived.Test.YtdlofeehgkijhaaChecked
import GoSem.Claim
import GoSem.ClaimJoined
import GoSem.ClaimMapViews
import Derived.JoinedTies
import Derived.KernelRfl
namespace Go.Proofs.Ytdlofeehgkijhaa
/- THE CELL 'sum', in the pinned program and in every row, IS THE sha256 OF THE DUMP (.gsa) THAT YtdlofeehgkijhaaProg.lean LOADS. Nothing in Lean hashes anything: it is a label: what it is worth is what the hold of that sum in a sandbox is worth. -/
noncomputable def Try.pinned : Pinned := { name := "ytdlofeehgkijhaa", sum := "295ec83098e1d921aa66f707217dce9bcf8a16efe6d53a794a4b5e0f1691e239", checked := Try.checked }
namespace Rows
def none {H : Type} : Left H := { results := [], args := [] }

/-- 'laws.FnExactCountZeroFree': WHATEVER THE INPUT: true; the input reads as it did. -/
def fnExactCountZeroFreeSpec : ChangeSpec := { name := "fnExactCountZeroFree", fn := fun _ => fun
  | [d1, d2] => { results := [.lit (.bool true)], args := [d1, d2] }
  | _ => none }
def fnExactCountZeroFreeRow : OpenClaim := { program := "ytdlofeehgkijhaa", sum := "295ec83098e1d921aa66f707217dce9bcf8a16efe6d53a794a4b5e0f1691e239", func := "loop.example/g03402/laws.FnExactCountZeroFree", spec := "fnExactCountZeroFree", unfollowed := true, recurses := true, apart := false }
def FnExactCountZeroFreeSaid : Prop := fnExactCountZeroFreeRow.holds Try.pinned (OpenSpec.ofChange fnExactCountZeroFreeSpec)

/-- ITS FALSE NEIGHBOUR: 'it returns false'. Refute it at one input. -/
def fnExactCountZeroFreeWrong : ChangeSpec := { name := "fnExactCountZeroFree", fn := fun _ => fun
  | [d1, d2] => { results := [.lit (.bool false)], args := [d1, d2] }
  | _ => none }
def FnExactCountZeroFreeWrongFalsely : Prop := fnExactCountZeroFreeRow.holds Try.pinned (OpenSpec.ofChange fnExactCountZeroFreeWrong)

/-- 'laws.FnExactDavenportConstant': WHATEVER THE INPUT: true; the input reads as it did. -/
def fnExactDavenportConstantSpec : ChangeSpec := { name := "fnExactDavenportConstant", fn := fun _ => fun
  | [d] => { results := [.lit (.bool true)], args := [d] }
  | _ => none }
def fnExactDavenportConstantRow : OpenClaim := { program := "ytdlofeehgkijhaa", sum := "295ec83098e1d921aa66f707217dce9bcf8a16efe6d53a794a4b5e0f1691e239", func := "loop.example/g03402/laws.FnExactDavenportConstant", spec := "fnExactDavenportConstant", unfollowed := true, recurses := true, apart := false }
def FnExactDavenportConstantSaid : Prop := fnExactDavenportConstantRow.holds Try.pinned (OpenSpec.ofChange fnExactDavenportConstantSpec)

/-- ITS FALSE NEIGHBOUR: 'it returns false'. Refute it at one input. -/
def fnExactDavenportConstantWrong : ChangeSpec := { name := "fnExactDavenportConstant", fn := fun _ => fun
  | [d] => { results := [.lit (.bool false)], args := [d] }
  | _ => none }
def FnExactDavenportConstantWrongFalsely : Prop := fnExactDavenportConstantRow.holds Try.pinned (OpenSpec.ofChange fnExactDavenportConstantWrong)

/-- 'laws.FnExactLongestZeroFree': WHATEVER THE INPUT: true; the input reads as it did. -/
def fnExactLongestZeroFreeSpec : ChangeSpec := { name := "fnExactLongestZeroFree", fn := fun _ => fun
  | [d] => { results := [.lit (.bool true)], args := [d] }
  | _ => none }
def fnExactLongestZeroFreeRow : OpenClaim := { program := "ytdlofeehgkijhaa", sum := "295ec83098e1d921aa66f707217dce9bcf8a16efe6d53a794a4b5e0f1691e239", func := "loop.example/g03402/laws.FnExactLongestZeroFree", spec := "fnExactLongestZeroFree", unfollowed := true, recurses := true, apart := false }
def FnExactLongestZeroFreeSaid : Prop := fnExactLongestZeroFreeRow.holds Try.pinned (OpenSpec.ofChange fnExactLongestZeroFreeSpec)

/-- ITS FALSE NEIGHBOUR: 'it returns false'. Refute it at one input. -/
def fnExactLongestZeroFreeWrong : ChangeSpec := { name := "fnExactLongestZeroFree", fn := fun _ => fun
  | [d] => { results := [.lit (.bool false)], args := [d] }
  | _ => none }
def FnExactLongestZeroFreeWrongFalsely : Prop := fnExactLongestZeroFreeRow.holds Try.pinned (OpenSpec.ofChange fnExactLongestZeroFreeWrong)

/-- 'laws.FnExactCountFreimanMaps': WHATEVER THE INPUT: true; the input reads as it did. -/
def fnExactCountFreimanMapsSpec : ChangeSpec := { name := "fnExactCountFreimanMaps", fn := fun _ => fun
  | [d1, d2, d3] => { results := [.lit (.bool true)], args := [d1, d2, d3] }
  | _ => none }
def fnExactCountFreimanMapsRow : OpenClaim := { program := "ytdlofeehgkijhaa", sum := "295ec83098e1d921aa66f707217dce9bcf8a16efe6d53a794a4b5e0f1691e239", func := "loop.example/g03402/laws.FnExactCountFreimanMaps", spec := "fnExactCountFreimanMaps", unfollowed := true, recurses := true, apart := false }
def FnExactCountFreimanMapsSaid : Prop := fnExactCountFreimanMapsRow.holds Try.pinned (OpenSpec.ofChange fnExactCountFreimanMapsSpec)

/-- ITS FALSE NEIGHBOUR: 'it returns false'. Refute it at one input. -/
def fnExactCountFreimanMapsWrong : ChangeSpec := { name := "fnExactCountFreimanMaps", fn := fun _ => fun
  | [d1, d2, d3] => { results := [.lit (.bool false)], args := [d1, d2, d3] }
  | _ => none }
def FnExactCountFreimanMapsWrongFalsely : Prop := fnExactCountFreimanMapsRow.holds Try.pinned (OpenSpec.ofChange fnExactCountFreimanMapsWrong)

/-- 'laws.FnExactFindTile': WHATEVER THE INPUT: true; the input reads as it did. -/
def fnExactFindTileSpec : ChangeSpec := { name := "fnExactFindTile", fn := fun _ => fun
  | [d1, d2] => { results := [.lit (.bool true)], args := [d1, d2] }
  | _ => none }
def fnExactFindTileRow : OpenClaim := { program := "ytdlofeehgkijhaa", sum := "295ec83098e1d921aa66f707217dce9bcf8a16efe6d53a794a4b5e0f1691e239", func := "loop.example/g03402/laws.FnExactFindTile", spec := "fnExactFindTile", unfollowed := true, recurses := true, apart := false }
def FnExactFindTileSaid : Prop := fnExactFindTileRow.holds Try.pinned (OpenSpec.ofChange fnExactFindTileSpec)

/-- ITS FALSE NEIGHBOUR: 'it returns false'. Refute it at one input. -/
def fnExactFindTileWrong : ChangeSpec := { name := "fnExactFindTile", fn := fun _ => fun
  | [d1, d2] => { results := [.lit (.bool false)], args := [d1, d2] }
  | _ => none }
def FnExactFindTileWrongFalsely : Prop := fnExactFindTileRow.holds Try.pinned (OpenSpec.ofChange fnExactFindTileWrong)

/-- 'laws.FnExactWeightedZero': WHATEVER THE INPUT: true; the input reads as it did. -/
def fnExactWeightedZeroSpec : ChangeSpec := { name := "fnExactWeightedZero", fn := fun _ => fun
  | [d1, d2] => { results := [.lit (.bool true)], args := [d1, d2] }
  | _ => none }
def fnExactWeightedZeroRow : OpenClaim := { program := "ytdlofeehgkijhaa", sum := "295ec83098e1d921aa66f707217dce9bcf8a16efe6d53a794a4b5e0f1691e239", func := "loop.example/g03402/laws.FnExactWeightedZero", spec := "fnExactWeightedZero", unfollowed := true, recurses := true, apart := false }
def FnExactWeightedZeroSaid : Prop := fnExactWeightedZeroRow.holds Try.pinned (OpenSpec.ofChange fnExactWeightedZeroSpec)

/-- ITS FALSE NEIGHBOUR: 'it returns false'. Refute it at one input. -/
def fnExactWeightedZeroWrong : ChangeSpec := { name := "fnExactWeightedZero", fn := fun _ => fun
  | [d1, d2] => { results := [.lit (.bool false)], args := [d1, d2] }
  | _ => none }
def FnExactWeightedZeroWrongFalsely : Prop := fnExactWeightedZeroRow.holds Try.pinned (OpenSpec.ofChange fnExactWeightedZeroWrong)

/-- 'laws.FnExactEgzConstant': WHATEVER THE INPUT: true; the input reads as it did. -/
def fnExactEgzConstantSpec : ChangeSpec := { name := "fnExactEgzConstant", fn := fun _ => fun
  | [d] => { results := [.lit (.bool true)], args := [d] }
  | _ => none }
def fnExactEgzConstantRow : OpenClaim := { program := "ytdlofeehgkijhaa", sum := "295ec83098e1d921aa66f707217dce9bcf8a16efe6d53a794a4b5e0f1691e239", func := "loop.example/g03402/laws.FnExactEgzConstant", spec := "fnExactEgzConstant", unfollowed := true, recurses := true, apart := false }
def FnExactEgzConstantSaid : Prop := fnExactEgzConstantRow.holds Try.pinned (OpenSpec.ofChange fnExactEgzConstantSpec)

/-- ITS FALSE NEIGHBOUR: 'it returns false'. Refute it at one input. -/
def fnExactEgzConstantWrong : ChangeSpec := { name := "fnExactEgzConstant", fn := fun _ => fun
  | [d] => { results := [.lit (.bool false)], args := [d] }
  | _ => none }
def FnExactEgzConstantWrongFalsely : Prop := fnExactEgzConstantRow.holds Try.pinned (OpenSpec.ofChange fnExactEgzConstantWrong)

/-- 'laws.FnExactFreimanRank': WHATEVER THE INPUT: true; the input reads as it did. -/
def fnExactFreimanRankSpec : ChangeSpec := { name := "fnExactFreimanRank", fn := fun _ => fun
  | [d1, d2] => { results := [.lit (.bool true)], args := [d1, d2] }
  | _ => none }
def fnExactFreimanRankRow : OpenClaim := { program := "ytdlofeehgkijhaa", sum := "295ec83098e1d921aa66f707217dce9bcf8a16efe6d53a794a4b5e0f1691e239", func := "loop.example/g03402/laws.FnExactFreimanRank", spec := "fnExactFreimanRank", unfollowed := true, recurses := true, apart := false }
def FnExactFreimanRankSaid : Prop := fnExactFreimanRankRow.holds Try.pinned (OpenSpec.ofChange fnExactFreimanRankSpec)

/-- ITS FALSE NEIGHBOUR: 'it returns false'. Refute it at one input. -/
def fnExactFreimanRankWrong : ChangeSpec := { name := "fnExactFreimanRank", fn := fun _ => fun
  | [d1, d2] => { results := [.lit (.bool false)], args := [d1, d2] }
  | _ => none }
def FnExactFreimanRankWrongFalsely : Prop := fnExactFreimanRankRow.holds Try.pinned (OpenSpec.ofChange fnExactFreimanRankWrong)

/-- 'laws.FnExactEgzExample': WHATEVER THE INPUT: true; the input reads as it did. -/
def fnExactEgzExampleSpec : ChangeSpec := { name := "fnExactEgzExample", fn := fun _ => fun
  | [d] => { results := [.lit (.bool true)], args := [d] }
  | _ => none }
def fnExactEgzExampleRow : OpenClaim := { program := "ytdlofeehgkijhaa", sum := "295ec83098e1d921aa66f707217dce9bcf8a16efe6d53a794a4b5e0f1691e239", func := "loop.example/g03402/laws.FnExactEgzExample", spec := "fnExactEgzExample", unfollowed := true, recurses := true, apart := false }
def FnExactEgzExampleSaid : Prop := fnExactEgzExampleRow.holds Try.pinned (OpenSpec.ofChange fnExactEgzExampleSpec)

/-- ITS FALSE NEIGHBOUR: 'it returns false'. Refute it at one input. -/
def fnExactEgzExampleWrong : ChangeSpec := { name := "fnExactEgzExample", fn := fun _ => fun
  | [d] => { results := [.lit (.bool false)], args := [d] }
  | _ => none }
def FnExactEgzExampleWrongFalsely : Prop := fnExactEgzExampleRow.holds Try.pinned (OpenSpec.ofChange fnExactEgzExampleWrong)

/-- 'laws.FnExactFindFreimanIso': WHATEVER THE INPUT: true; the input reads as it did. -/
def fnExactFindFreimanIsoSpec : ChangeSpec := { name := "fnExactFindFreimanIso", fn := fun _ => fun
  | [d1, d2, d3, d4] => { results := [.lit (.bool true)], args := [d1, d2, d3, d4] }
  | _ => none }
def fnExactFindFreimanIsoRow : OpenClaim := { program := "ytdlofeehgkijhaa", sum := "295ec83098e1d921aa66f707217dce9bcf8a16efe6d53a794a4b5e0f1691e239", func := "loop.example/g03402/laws.FnExactFindFreimanIso", spec := "fnExactFindFreimanIso", unfollowed := true, recurses := true, apart := false }
def FnExactFindFreimanIsoSaid : Prop := fnExactFindFreimanIsoRow.holds Try.pinned (OpenSpec.ofChange fnExactFindFreimanIsoSpec)

/-- ITS FALSE NEIGHBOUR: 'it returns false'. Refute it at one input. -/
def fnExactFindFreimanIsoWrong : ChangeSpec := { name := "fnExactFindFreimanIso", fn := fun _ => fun
  | [d1, d2, d3, d4] => { results := [.lit (.bool false)], args := [d1, d2, d3, d4] }
  | _ => none }
def FnExactFindFreimanIsoWrongFalsely : Prop := fnExactFindFreimanIsoRow.holds Try.pinned (OpenSpec.ofChange fnExactFindFreimanIsoWrong)

/-- 'laws.FnExactSplitsOf': WHATEVER THE INPUT: true; the input reads as it did. -/
def fnExactSplitsOfSpec : ChangeSpec := { name := "fnExactSplitsOf", fn := fun _ => fun
  | [d1, d2] => { results := [.lit (.bool true)], args := [d1, d2] }
  | _ => none }
def fnExactSplitsOfRow : OpenClaim := { program := "ytdlofeehgkijhaa", sum := "295ec83098e1d921aa66f707217dce9bcf8a16efe6d53a794a4b5e0f1691e239", func := "loop.example/g03402/laws.FnExactSplitsOf", spec := "fnExactSplitsOf", unfollowed := true, recurses := true, apart := false }
def FnExactSplitsOfSaid : Prop := fnExactSplitsOfRow.holds Try.pinned (OpenSpec.ofChange fnExactSplitsOfSpec)

/-- ITS FALSE NEIGHBOUR: 'it returns false'. Refute it at one input. -/
def fnExactSplitsOfWrong : ChangeSpec := { name := "fnExactSplitsOf", fn := fun _ => fun
  | [d1, d2] => { results := [.lit (.bool false)], args := [d1, d2] }
  | _ => none }
def FnExactSplitsOfWrongFalsely : Prop := fnExactSplitsOfRow.holds Try.pinned (OpenSpec.ofChange fnExactSplitsOfWrong)

/-- 'laws.FnExactTilesOf': WHATEVER THE INPUT: true; the input reads as it did. -/
def fnExactTilesOfSpec : ChangeSpec := { name := "fnExactTilesOf", fn := fun _ => fun
  | [d1, d2] => { results := [.lit (.bool true)], args := [d1, d2] }
  | _ => none }
def fnExactTilesOfRow : OpenClaim := { program := "ytdlofeehgkijhaa", sum := "295ec83098e1d921aa66f707217dce9bcf8a16efe6d53a794a4b5e0f1691e239", func := "loop.example/g03402/laws.FnExactTilesOf", spec := "fnExactTilesOf", unfollowed := true, recurses := true, apart := false }
def FnExactTilesOfSaid : Prop := fnExactTilesOfRow.holds Try.pinned (OpenSpec.ofChange fnExactTilesOfSpec)

/-- ITS FALSE NEIGHBOUR: 'it returns false'. Refute it at one input. -/
def fnExactTilesOfWrong : ChangeSpec := { name := "fnExactTilesOf", fn := fun _ => fun
  | [d1, d2] => { results := [.lit (.bool false)], args := [d1, d2] }
  | _ => none }
def FnExactTilesOfWrongFalsely : Prop := fnExactTilesOfRow.holds Try.pinned (OpenSpec.ofChange fnExactTilesOfWrong)

/- THE SECOND FORM. 'bulk': how many values and letters a reading holds, each counted each time it is reached (what is shared counts as often as it is met; a slice's spare places count too). A statement '..UptoSaid' is the law's where the arguments, and the package variables that the reading takes, are together of bulk at most 1048576: NARROWER than '..Said'. Prove '..Said' where nothing that the law and all that it calls make is longer than what came in: it says more and counts as full. Else prove '..UptoSaid'. A law counts once. -/
mutual
def uptoBulk {H : Type} : DataW H → Nat
  | .lit (.string bytes) => bytes.length + 1
  | .lit _ => 1
  | .nil => 1
  | .ptr d => uptoBulk d + 1
  | .slice elems spare => uptoBulkAll elems + uptoBulkAll spare + 1
  | .agg parts => uptoBulkAll parts + 1
  | .iface _ d => uptoBulk d + 1
  | .map entries => uptoBulkEntries entries + 1
  | .held _ => 1
def uptoBulkAll {H : Type} : List (DataW H) → Nat
  | [] => 0
  | d :: r => uptoBulk d + uptoBulkAll r
def uptoBulkEntries {H : Type} : List (Lit × DataW H) → Nat
  | [] => 0
  | x :: r => uptoBulkEntry x + uptoBulkEntries r
def uptoBulkEntry {H : Type} : Lit × DataW H → Nat
  | (.string bytes, d) => bytes.length + uptoBulk d + 1
  | (_, d) => uptoBulk d + 1
 end
def uptoSmall : (H : Type) → List (DataW H) → Bool := fun _ ds => decide (uptoBulkAll ds ≤ 1048576)
def OpenSpec.upto (s : _root_.Go.ChangeSpec) : _root_.Go.OpenSpec := { _root_.Go.OpenSpec.ofChange s with cond := some uptoSmall }

/-- 'laws.FnExactCountZeroFree', WHERE WHAT IT READS IS OF BULK AT MOST 1048576: true; the input reads as it did. -/
def fnExactCountZeroFreeUptoRow : OpenClaim := { program := "ytdlofeehgkijhaa", sum := "295ec83098e1d921aa66f707217dce9bcf8a16efe6d53a794a4b5e0f1691e239", func := "loop.example/g03402/laws.FnExactCountZeroFree", spec := "fnExactCountZeroFree", unfollowed := true, recurses := true, apart := false, narrowed := true }
def FnExactCountZeroFreeUptoSaid : Prop := fnExactCountZeroFreeUptoRow.holds Try.pinned (OpenSpec.upto fnExactCountZeroFreeSpec)

/-- 'laws.FnExactDavenportConstant', WHERE WHAT IT READS IS OF BULK AT MOST 1048576: true; the input reads as it did. -/
def fnExactDavenportConstantUptoRow : OpenClaim := { program := "ytdlofeehgkijhaa", sum := "295ec83098e1d921aa66f707217dce9bcf8a16efe6d53a794a4b5e0f1691e239", func := "loop.example/g03402/laws.FnExactDavenportConstant", spec := "fnExactDavenportConstant", unfollowed := true, recurses := true, apart := false, narrowed := true }
def FnExactDavenportConstantUptoSaid : Prop := fnExactDavenportConstantUptoRow.holds Try.pinned (OpenSpec.upto fnExactDavenportConstantSpec)

/-- 'laws.FnExactLongestZeroFree', WHERE WHAT IT READS IS OF BULK AT MOST 1048576: true; the input reads as it did. -/
def fnExactLongestZeroFreeUptoRow : OpenClaim := { program := "ytdlofeehgkijhaa", sum := "295ec83098e1d921aa66f707217dce9bcf8a16efe6d53a794a4b5e0f1691e239", func := "loop.example/g03402/laws.FnExactLongestZeroFree", spec := "fnExactLongestZeroFree", unfollowed := true, recurses := true, apart := false, narrowed := true }
def FnExactLongestZeroFreeUptoSaid : Prop := fnExactLongestZeroFreeUptoRow.holds Try.pinned (OpenSpec.upto fnExactLongestZeroFreeSpec)

/-- 'laws.FnExactCountFreimanMaps', WHERE WHAT IT READS IS OF BULK AT MOST 1048576: true; the input reads as it did. -/
def fnExactCountFreimanMapsUptoRow : OpenClaim := { program := "ytdlofeehgkijhaa", sum := "295ec83098e1d921aa66f707217dce9bcf8a16efe6d53a794a4b5e0f1691e239", func := "loop.example/g03402/laws.FnExactCountFreimanMaps", spec := "fnExactCountFreimanMaps", unfollowed := true, recurses := true, apart := false, narrowed := true }
def FnExactCountFreimanMapsUptoSaid : Prop := fnExactCountFreimanMapsUptoRow.holds Try.pinned (OpenSpec.upto fnExactCountFreimanMapsSpec)

/-- 'laws.FnExactFindTile', WHERE WHAT IT READS IS OF BULK AT MOST 1048576: true; the input reads as it did. -/
def fnExactFindTileUptoRow : OpenClaim := { program := "ytdlofeehgkijhaa", sum := "295ec83098e1d921aa66f707217dce9bcf8a16efe6d53a794a4b5e0f1691e239", func := "loop.example/g03402/laws.FnExactFindTile", spec := "fnExactFindTile", unfollowed := true, recurses := true, apart := false, narrowed := true }
def FnExactFindTileUptoSaid : Prop := fnExactFindTileUptoRow.holds Try.pinned (OpenSpec.upto fnExactFindTileSpec)

/-- 'laws.FnExactWeightedZero', WHERE WHAT IT READS IS OF BULK AT MOST 1048576: true; the input reads as it did. -/
def fnExactWeightedZeroUptoRow : OpenClaim := { program := "ytdlofeehgkijhaa", sum := "295ec83098e1d921aa66f707217dce9bcf8a16efe6d53a794a4b5e0f1691e239", func := "loop.example/g03402/laws.FnExactWeightedZero", spec := "fnExactWeightedZero", unfollowed := true, recurses := true, apart := false, narrowed := true }
def FnExactWeightedZeroUptoSaid : Prop := fnExactWeightedZeroUptoRow.holds Try.pinned (OpenSpec.upto fnExactWeightedZeroSpec)

/-- 'laws.FnExactEgzConstant', WHERE WHAT IT READS IS OF BULK AT MOST 1048576: true; the input reads as it did. -/
def fnExactEgzConstantUptoRow : OpenClaim := { program := "ytdlofeehgkijhaa", sum := "295ec83098e1d921aa66f707217dce9bcf8a16efe6d53a794a4b5e0f1691e239", func := "loop.example/g03402/laws.FnExactEgzConstant", spec := "fnExactEgzConstant", unfollowed := true, recurses := true, apart := false, narrowed := true }
def FnExactEgzConstantUptoSaid : Prop := fnExactEgzConstantUptoRow.holds Try.pinned (OpenSpec.upto fnExactEgzConstantSpec)

/-- 'laws.FnExactFreimanRank', WHERE WHAT IT READS IS OF BULK AT MOST 1048576: true; the input reads as it did. -/
def fnExactFreimanRankUptoRow : OpenClaim := { program := "ytdlofeehgkijhaa", sum := "295ec83098e1d921aa66f707217dce9bcf8a16efe6d53a794a4b5e0f1691e239", func := "loop.example/g03402/laws.FnExactFreimanRank", spec := "fnExactFreimanRank", unfollowed := true, recurses := true, apart := false, narrowed := true }
def FnExactFreimanRankUptoSaid : Prop := fnExactFreimanRankUptoRow.holds Try.pinned (OpenSpec.upto fnExactFreimanRankSpec)

/-- 'laws.FnExactEgzExample', WHERE WHAT IT READS IS OF BULK AT MOST 1048576: true; the input reads as it did. -/
def fnExactEgzExampleUptoRow : OpenClaim := { program := "ytdlofeehgkijhaa", sum := "295ec83098e1d921aa66f707217dce9bcf8a16efe6d53a794a4b5e0f1691e239", func := "loop.example/g03402/laws.FnExactEgzExample", spec := "fnExactEgzExample", unfollowed := true, recurses := true, apart := false, narrowed := true }
def FnExactEgzExampleUptoSaid : Prop := fnExactEgzExampleUptoRow.holds Try.pinned (OpenSpec.upto fnExactEgzExampleSpec)

/-- 'laws.FnExactFindFreimanIso', WHERE WHAT IT READS IS OF BULK AT MOST 1048576: true; the input reads as it did. -/
def fnExactFindFreimanIsoUptoRow : OpenClaim := { program := "ytdlofeehgkijhaa", sum := "295ec83098e1d921aa66f707217dce9bcf8a16efe6d53a794a4b5e0f1691e239", func := "loop.example/g03402/laws.FnExactFindFreimanIso", spec := "fnExactFindFreimanIso", unfollowed := true, recurses := true, apart := false, narrowed := true }
def FnExactFindFreimanIsoUptoSaid : Prop := fnExactFindFreimanIsoUptoRow.holds Try.pinned (OpenSpec.upto fnExactFindFreimanIsoSpec)

/-- 'laws.FnExactSplitsOf', WHERE WHAT IT READS IS OF BULK AT MOST 1048576: true; the input reads as it did. -/
def fnExactSplitsOfUptoRow : OpenClaim := { program := "ytdlofeehgkijhaa", sum := "295ec83098e1d921aa66f707217dce9bcf8a16efe6d53a794a4b5e0f1691e239", func := "loop.example/g03402/laws.FnExactSplitsOf", spec := "fnExactSplitsOf", unfollowed := true, recurses := true, apart := false, narrowed := true }
def FnExactSplitsOfUptoSaid : Prop := fnExactSplitsOfUptoRow.holds Try.pinned (OpenSpec.upto fnExactSplitsOfSpec)

/-- 'laws.FnExactTilesOf', WHERE WHAT IT READS IS OF BULK AT MOST 1048576: true; the input reads as it did. -/
def fnExactTilesOfUptoRow : OpenClaim := { program := "ytdlofeehgkijhaa", sum := "295ec83098e1d921aa66f707217dce9bcf8a16efe6d53a794a4b5e0f1691e239", func := "loop.example/g03402/laws.FnExactTilesOf", spec := "fnExactTilesOf", unfollowed := true, recurses := true, apart := false, narrowed := true }
def FnExactTilesOfUptoSaid : Prop := fnExactTilesOfUptoRow.holds Try.pinned (OpenSpec.upto fnExactTilesOfSpec)

end Rows
end Go.Proofs.Ytdlofeehgkijhaa
