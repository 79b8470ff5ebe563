/-
  No cell of these rows narrows 'for every input' (looked for: loops, veiled, ifaces, maps, wideKeys, modest, calm, conditions, laid).
  DERIVED. THE GIVEN ROWS OF THIS SEAT. 11 by the template 'for every input the law returns true; each argument reads behind the call as it read before'; 0 by the template 'total and deterministic' (their statements: YtfojpiojhcdgoaaTotals.lean).
  GIVEN WITH THE SEED: the statements are not yours to turn. If you find one false, say at which input.
  Laid BY PROGRAM, IN A SANDBOX (cutbox-rows.mjs): the forced cells as the released guide's own fill.sh prints them over the translation 51c3420865bcc864… (all of the seat's roots in one cut). By AI agents, Wed Nov 11 2026. No macro, syntax, notation, axiom, sorry.
-/
import Derived.Test.YtfojpiojhcdgoaaChecked
import GoSem.Claim
import GoSem.ClaimJoined
import GoSem.ClaimMapViews
import Derived.JoinedTies
import Derived.KernelRfl
namespace Go.Proofs.Ytfojpiojhcdgoaa
/- THE CELL 'sum', in the pinned program and in every row, IS THE sha256 OF THE DUMP (.gsa) THAT YtfojpiojhcdgoaaProg.lean LOADS. Nothing in Lean hashes anything: it is a label: what it is worth is what the hold of that sum in a sandbox is worth. -/
noncomputable def Try.pinned : Pinned := { name := "ytfojpiojhcdgoaa", sum := "51c3420865bcc864d2f7395372d08905f3d49c01b9f7d932ef97cb583c8cfaec", checked := Try.checked }
namespace Rows
def none {H : Type} : Left H := { results := [], args := [] }

/-- 'laws.FnExactCheckSequence': WHATEVER THE INPUT: true; the input reads as it did. -/
def fnExactCheckSequenceSpec : ChangeSpec := { name := "fnExactCheckSequence", fn := fun _ => fun
  | [d1, d2] => { results := [.lit (.bool true)], args := [d1, d2] }
  | _ => none }
def fnExactCheckSequenceRow : OpenClaim := { program := "ytfojpiojhcdgoaa", sum := "51c3420865bcc864d2f7395372d08905f3d49c01b9f7d932ef97cb583c8cfaec", func := "loop.example/g01117/laws.FnExactCheckSequence", spec := "fnExactCheckSequence", unfollowed := true, recurses := true, apart := false }
def FnExactCheckSequenceSaid : Prop := fnExactCheckSequenceRow.holds Try.pinned (OpenSpec.ofChange fnExactCheckSequenceSpec)

/-- ITS FALSE NEIGHBOUR: 'it returns false'. Refute it at one input. -/
def fnExactCheckSequenceWrong : ChangeSpec := { name := "fnExactCheckSequence", fn := fun _ => fun
  | [d1, d2] => { results := [.lit (.bool false)], args := [d1, d2] }
  | _ => none }
def FnExactCheckSequenceWrongFalsely : Prop := fnExactCheckSequenceRow.holds Try.pinned (OpenSpec.ofChange fnExactCheckSequenceWrong)

/-- 'laws.FnExactFitsFamily': WHATEVER THE INPUT: true; the input reads as it did. -/
def fnExactFitsFamilySpec : ChangeSpec := { name := "fnExactFitsFamily", fn := fun _ => fun
  | [d1, d2] => { results := [.lit (.bool true)], args := [d1, d2] }
  | _ => none }
def fnExactFitsFamilyRow : OpenClaim := { program := "ytfojpiojhcdgoaa", sum := "51c3420865bcc864d2f7395372d08905f3d49c01b9f7d932ef97cb583c8cfaec", func := "loop.example/g01117/laws.FnExactFitsFamily", spec := "fnExactFitsFamily", unfollowed := true, recurses := true, apart := false }
def FnExactFitsFamilySaid : Prop := fnExactFitsFamilyRow.holds Try.pinned (OpenSpec.ofChange fnExactFitsFamilySpec)

/-- ITS FALSE NEIGHBOUR: 'it returns false'. Refute it at one input. -/
def fnExactFitsFamilyWrong : ChangeSpec := { name := "fnExactFitsFamily", fn := fun _ => fun
  | [d1, d2] => { results := [.lit (.bool false)], args := [d1, d2] }
  | _ => none }
def FnExactFitsFamilyWrongFalsely : Prop := fnExactFitsFamilyRow.holds Try.pinned (OpenSpec.ofChange fnExactFitsFamilyWrong)

/-- 'laws.FnExactFirstMisfit': WHATEVER THE INPUT: true; the input reads as it did. -/
def fnExactFirstMisfitSpec : ChangeSpec := { name := "fnExactFirstMisfit", fn := fun _ => fun
  | [d1, d2] => { results := [.lit (.bool true)], args := [d1, d2] }
  | _ => none }
def fnExactFirstMisfitRow : OpenClaim := { program := "ytfojpiojhcdgoaa", sum := "51c3420865bcc864d2f7395372d08905f3d49c01b9f7d932ef97cb583c8cfaec", func := "loop.example/g01117/laws.FnExactFirstMisfit", spec := "fnExactFirstMisfit", unfollowed := true, recurses := true, apart := false }
def FnExactFirstMisfitSaid : Prop := fnExactFirstMisfitRow.holds Try.pinned (OpenSpec.ofChange fnExactFirstMisfitSpec)

/-- ITS FALSE NEIGHBOUR: 'it returns false'. Refute it at one input. -/
def fnExactFirstMisfitWrong : ChangeSpec := { name := "fnExactFirstMisfit", fn := fun _ => fun
  | [d1, d2] => { results := [.lit (.bool false)], args := [d1, d2] }
  | _ => none }
def FnExactFirstMisfitWrongFalsely : Prop := fnExactFirstMisfitRow.holds Try.pinned (OpenSpec.ofChange fnExactFirstMisfitWrong)

/-- 'laws.FnExactSequenceFor': WHATEVER THE INPUT: true; the input reads as it did. -/
def fnExactSequenceForSpec : ChangeSpec := { name := "fnExactSequenceFor", fn := fun _ => fun
  | [d1, d2, d3] => { results := [.lit (.bool true)], args := [d1, d2, d3] }
  | _ => none }
def fnExactSequenceForRow : OpenClaim := { program := "ytfojpiojhcdgoaa", sum := "51c3420865bcc864d2f7395372d08905f3d49c01b9f7d932ef97cb583c8cfaec", func := "loop.example/g01117/laws.FnExactSequenceFor", spec := "fnExactSequenceFor", unfollowed := true, recurses := true, apart := false }
def FnExactSequenceForSaid : Prop := fnExactSequenceForRow.holds Try.pinned (OpenSpec.ofChange fnExactSequenceForSpec)

/-- ITS FALSE NEIGHBOUR: 'it returns false'. Refute it at one input. -/
def fnExactSequenceForWrong : ChangeSpec := { name := "fnExactSequenceFor", fn := fun _ => fun
  | [d1, d2, d3] => { results := [.lit (.bool false)], args := [d1, d2, d3] }
  | _ => none }
def FnExactSequenceForWrongFalsely : Prop := fnExactSequenceForRow.holds Try.pinned (OpenSpec.ofChange fnExactSequenceForWrong)

/-- 'laws.FnExactDualRanks': WHATEVER THE INPUT: true; the input reads as it did. -/
def fnExactDualRanksSpec : ChangeSpec := { name := "fnExactDualRanks", fn := fun _ => fun
  | [d1, d2] => { results := [.lit (.bool true)], args := [d1, d2] }
  | _ => none }
def fnExactDualRanksRow : OpenClaim := { program := "ytfojpiojhcdgoaa", sum := "51c3420865bcc864d2f7395372d08905f3d49c01b9f7d932ef97cb583c8cfaec", func := "loop.example/g01117/laws.FnExactDualRanks", spec := "fnExactDualRanks", unfollowed := true, recurses := true, apart := false }
def FnExactDualRanksSaid : Prop := fnExactDualRanksRow.holds Try.pinned (OpenSpec.ofChange fnExactDualRanksSpec)

/-- ITS FALSE NEIGHBOUR: 'it returns false'. Refute it at one input. -/
def fnExactDualRanksWrong : ChangeSpec := { name := "fnExactDualRanks", fn := fun _ => fun
  | [d1, d2] => { results := [.lit (.bool false)], args := [d1, d2] }
  | _ => none }
def FnExactDualRanksWrongFalsely : Prop := fnExactDualRanksRow.holds Try.pinned (OpenSpec.ofChange fnExactDualRanksWrong)

/-- 'laws.FnExactTermBound': WHATEVER THE INPUT: true; the input reads as it did. -/
def fnExactTermBoundSpec : ChangeSpec := { name := "fnExactTermBound", fn := fun _ => fun
  | [d1, d2] => { results := [.lit (.bool true)], args := [d1, d2] }
  | _ => none }
def fnExactTermBoundRow : OpenClaim := { program := "ytfojpiojhcdgoaa", sum := "51c3420865bcc864d2f7395372d08905f3d49c01b9f7d932ef97cb583c8cfaec", func := "loop.example/g01117/laws.FnExactTermBound", spec := "fnExactTermBound", unfollowed := true, recurses := true, apart := false }
def FnExactTermBoundSaid : Prop := fnExactTermBoundRow.holds Try.pinned (OpenSpec.ofChange fnExactTermBoundSpec)

/-- ITS FALSE NEIGHBOUR: 'it returns false'. Refute it at one input. -/
def fnExactTermBoundWrong : ChangeSpec := { name := "fnExactTermBound", fn := fun _ => fun
  | [d1, d2] => { results := [.lit (.bool false)], args := [d1, d2] }
  | _ => none }
def FnExactTermBoundWrongFalsely : Prop := fnExactTermBoundRow.holds Try.pinned (OpenSpec.ofChange fnExactTermBoundWrong)

/-- 'laws.FnExactBestSequence': WHATEVER THE INPUT: true; the input reads as it did. -/
def fnExactBestSequenceSpec : ChangeSpec := { name := "fnExactBestSequence", fn := fun _ => fun
  | [d] => { results := [.lit (.bool true)], args := [d] }
  | _ => none }
def fnExactBestSequenceRow : OpenClaim := { program := "ytfojpiojhcdgoaa", sum := "51c3420865bcc864d2f7395372d08905f3d49c01b9f7d932ef97cb583c8cfaec", func := "loop.example/g01117/laws.FnExactBestSequence", spec := "fnExactBestSequence", unfollowed := true, recurses := true, apart := false }
def FnExactBestSequenceSaid : Prop := fnExactBestSequenceRow.holds Try.pinned (OpenSpec.ofChange fnExactBestSequenceSpec)

/-- ITS FALSE NEIGHBOUR: 'it returns false'. Refute it at one input. -/
def fnExactBestSequenceWrong : ChangeSpec := { name := "fnExactBestSequence", fn := fun _ => fun
  | [d] => { results := [.lit (.bool false)], args := [d] }
  | _ => none }
def FnExactBestSequenceWrongFalsely : Prop := fnExactBestSequenceRow.holds Try.pinned (OpenSpec.ofChange fnExactBestSequenceWrong)

/-- 'laws.FnExactRanksFamily': WHATEVER THE INPUT: true; the input reads as it did. -/
def fnExactRanksFamilySpec : ChangeSpec := { name := "fnExactRanksFamily", fn := fun _ => fun
  | [d1, d2] => { results := [.lit (.bool true)], args := [d1, d2] }
  | _ => none }
def fnExactRanksFamilyRow : OpenClaim := { program := "ytfojpiojhcdgoaa", sum := "51c3420865bcc864d2f7395372d08905f3d49c01b9f7d932ef97cb583c8cfaec", func := "loop.example/g01117/laws.FnExactRanksFamily", spec := "fnExactRanksFamily", unfollowed := true, recurses := true, apart := false }
def FnExactRanksFamilySaid : Prop := fnExactRanksFamilyRow.holds Try.pinned (OpenSpec.ofChange fnExactRanksFamilySpec)

/-- ITS FALSE NEIGHBOUR: 'it returns false'. Refute it at one input. -/
def fnExactRanksFamilyWrong : ChangeSpec := { name := "fnExactRanksFamily", fn := fun _ => fun
  | [d1, d2] => { results := [.lit (.bool false)], args := [d1, d2] }
  | _ => none }
def FnExactRanksFamilyWrongFalsely : Prop := fnExactRanksFamilyRow.holds Try.pinned (OpenSpec.ofChange fnExactRanksFamilyWrong)

/-- 'laws.FnExactIsPort': WHATEVER THE INPUT: true; the input reads as it did. -/
def fnExactIsPortSpec : ChangeSpec := { name := "fnExactIsPort", fn := fun _ => fun
  | [d] => { results := [.lit (.bool true)], args := [d] }
  | _ => none }
def fnExactIsPortRow : OpenClaim := { program := "ytfojpiojhcdgoaa", sum := "51c3420865bcc864d2f7395372d08905f3d49c01b9f7d932ef97cb583c8cfaec", func := "loop.example/g01117/laws.FnExactIsPort", spec := "fnExactIsPort", unfollowed := true, recurses := true, apart := false }
def FnExactIsPortSaid : Prop := fnExactIsPortRow.holds Try.pinned (OpenSpec.ofChange fnExactIsPortSpec)

/-- ITS FALSE NEIGHBOUR: 'it returns false'. Refute it at one input. -/
def fnExactIsPortWrong : ChangeSpec := { name := "fnExactIsPort", fn := fun _ => fun
  | [d] => { results := [.lit (.bool false)], args := [d] }
  | _ => none }
def FnExactIsPortWrongFalsely : Prop := fnExactIsPortRow.holds Try.pinned (OpenSpec.ofChange fnExactIsPortWrong)

/-- 'laws.FnExactCircuitsOf': WHATEVER THE INPUT: true; the input reads as it did. -/
def fnExactCircuitsOfSpec : ChangeSpec := { name := "fnExactCircuitsOf", fn := fun _ => fun
  | [d] => { results := [.lit (.bool true)], args := [d] }
  | _ => none }
def fnExactCircuitsOfRow : OpenClaim := { program := "ytfojpiojhcdgoaa", sum := "51c3420865bcc864d2f7395372d08905f3d49c01b9f7d932ef97cb583c8cfaec", func := "loop.example/g01117/laws.FnExactCircuitsOf", spec := "fnExactCircuitsOf", unfollowed := true, recurses := true, apart := false }
def FnExactCircuitsOfSaid : Prop := fnExactCircuitsOfRow.holds Try.pinned (OpenSpec.ofChange fnExactCircuitsOfSpec)

/-- ITS FALSE NEIGHBOUR: 'it returns false'. Refute it at one input. -/
def fnExactCircuitsOfWrong : ChangeSpec := { name := "fnExactCircuitsOf", fn := fun _ => fun
  | [d] => { results := [.lit (.bool false)], args := [d] }
  | _ => none }
def FnExactCircuitsOfWrongFalsely : Prop := fnExactCircuitsOfRow.holds Try.pinned (OpenSpec.ofChange fnExactCircuitsOfWrong)

/-- 'laws.FnExactPortRanks': WHATEVER THE INPUT: true; the input reads as it did. -/
def fnExactPortRanksSpec : ChangeSpec := { name := "fnExactPortRanks", fn := fun _ => fun
  | [d] => { results := [.lit (.bool true)], args := [d] }
  | _ => none }
def fnExactPortRanksRow : OpenClaim := { program := "ytfojpiojhcdgoaa", sum := "51c3420865bcc864d2f7395372d08905f3d49c01b9f7d932ef97cb583c8cfaec", func := "loop.example/g01117/laws.FnExactPortRanks", spec := "fnExactPortRanks", unfollowed := true, recurses := true, apart := false }
def FnExactPortRanksSaid : Prop := fnExactPortRanksRow.holds Try.pinned (OpenSpec.ofChange fnExactPortRanksSpec)

/-- ITS FALSE NEIGHBOUR: 'it returns false'. Refute it at one input. -/
def fnExactPortRanksWrong : ChangeSpec := { name := "fnExactPortRanks", fn := fun _ => fun
  | [d] => { results := [.lit (.bool false)], args := [d] }
  | _ => none }
def FnExactPortRanksWrongFalsely : Prop := fnExactPortRanksRow.holds Try.pinned (OpenSpec.ofChange fnExactPortRanksWrong)

/- THE SECOND FORM. 'bulk': how many values and letters a reading holds, each counted each time it is reached (what is shared counts as often as it is met; a slice's spare places count too). A statement '..UptoSaid' is the law's where the arguments, and the package variables that the reading takes, are together of bulk at most 1048576: NARROWER than '..Said'. Prove '..Said' where nothing that the law and all that it calls make is longer than what came in: it says more and counts as full. Else prove '..UptoSaid'. A law counts once. -/
mutual
def uptoBulk {H : Type} : DataW H → Nat
  | .lit (.string bytes) => bytes.length + 1
  | .lit _ => 1
  | .nil => 1
  | .ptr d => uptoBulk d + 1
  | .slice elems spare => uptoBulkAll elems + uptoBulkAll spare + 1
  | .agg parts => uptoBulkAll parts + 1
  | .iface _ d => uptoBulk d + 1
  | .map entries => uptoBulkEntries entries + 1
  | .held _ => 1
def uptoBulkAll {H : Type} : List (DataW H) → Nat
  | [] => 0
  | d :: r => uptoBulk d + uptoBulkAll r
def uptoBulkEntries {H : Type} : List (Lit × DataW H) → Nat
  | [] => 0
  | x :: r => uptoBulkEntry x + uptoBulkEntries r
def uptoBulkEntry {H : Type} : Lit × DataW H → Nat
  | (.string bytes, d) => bytes.length + uptoBulk d + 1
  | (_, d) => uptoBulk d + 1
 end
def uptoSmall : (H : Type) → List (DataW H) → Bool := fun _ ds => decide (uptoBulkAll ds ≤ 1048576)
def OpenSpec.upto (s : _root_.Go.ChangeSpec) : _root_.Go.OpenSpec := { _root_.Go.OpenSpec.ofChange s with cond := some uptoSmall }

/-- 'laws.FnExactCheckSequence', WHERE WHAT IT READS IS OF BULK AT MOST 1048576: true; the input reads as it did. -/
def fnExactCheckSequenceUptoRow : OpenClaim := { program := "ytfojpiojhcdgoaa", sum := "51c3420865bcc864d2f7395372d08905f3d49c01b9f7d932ef97cb583c8cfaec", func := "loop.example/g01117/laws.FnExactCheckSequence", spec := "fnExactCheckSequence", unfollowed := true, recurses := true, apart := false, narrowed := true }
def FnExactCheckSequenceUptoSaid : Prop := fnExactCheckSequenceUptoRow.holds Try.pinned (OpenSpec.upto fnExactCheckSequenceSpec)

/-- 'laws.FnExactFitsFamily', WHERE WHAT IT READS IS OF BULK AT MOST 1048576: true; the input reads as it did. -/
def fnExactFitsFamilyUptoRow : OpenClaim := { program := "ytfojpiojhcdgoaa", sum := "51c3420865bcc864d2f7395372d08905f3d49c01b9f7d932ef97cb583c8cfaec", func := "loop.example/g01117/laws.FnExactFitsFamily", spec := "fnExactFitsFamily", unfollowed := true, recurses := true, apart := false, narrowed := true }
def FnExactFitsFamilyUptoSaid : Prop := fnExactFitsFamilyUptoRow.holds Try.pinned (OpenSpec.upto fnExactFitsFamilySpec)

/-- 'laws.FnExactFirstMisfit', WHERE WHAT IT READS IS OF BULK AT MOST 1048576: true; the input reads as it did. -/
def fnExactFirstMisfitUptoRow : OpenClaim := { program := "ytfojpiojhcdgoaa", sum := "51c3420865bcc864d2f7395372d08905f3d49c01b9f7d932ef97cb583c8cfaec", func := "loop.example/g01117/laws.FnExactFirstMisfit", spec := "fnExactFirstMisfit", unfollowed := true, recurses := true, apart := false, narrowed := true }
def FnExactFirstMisfitUptoSaid : Prop := fnExactFirstMisfitUptoRow.holds Try.pinned (OpenSpec.upto fnExactFirstMisfitSpec)

/-- 'laws.FnExactSequenceFor', WHERE WHAT IT READS IS OF BULK AT MOST 1048576: true; the input reads as it did. -/
def fnExactSequenceForUptoRow : OpenClaim := { program := "ytfojpiojhcdgoaa", sum := "51c3420865bcc864d2f7395372d08905f3d49c01b9f7d932ef97cb583c8cfaec", func := "loop.example/g01117/laws.FnExactSequenceFor", spec := "fnExactSequenceFor", unfollowed := true, recurses := true, apart := false, narrowed := true }
def FnExactSequenceForUptoSaid : Prop := fnExactSequenceForUptoRow.holds Try.pinned (OpenSpec.upto fnExactSequenceForSpec)

/-- 'laws.FnExactDualRanks', WHERE WHAT IT READS IS OF BULK AT MOST 1048576: true; the input reads as it did. -/
def fnExactDualRanksUptoRow : OpenClaim := { program := "ytfojpiojhcdgoaa", sum := "51c3420865bcc864d2f7395372d08905f3d49c01b9f7d932ef97cb583c8cfaec", func := "loop.example/g01117/laws.FnExactDualRanks", spec := "fnExactDualRanks", unfollowed := true, recurses := true, apart := false, narrowed := true }
def FnExactDualRanksUptoSaid : Prop := fnExactDualRanksUptoRow.holds Try.pinned (OpenSpec.upto fnExactDualRanksSpec)

/-- 'laws.FnExactTermBound', WHERE WHAT IT READS IS OF BULK AT MOST 1048576: true; the input reads as it did. -/
def fnExactTermBoundUptoRow : OpenClaim := { program := "ytfojpiojhcdgoaa", sum := "51c3420865bcc864d2f7395372d08905f3d49c01b9f7d932ef97cb583c8cfaec", func := "loop.example/g01117/laws.FnExactTermBound", spec := "fnExactTermBound", unfollowed := true, recurses := true, apart := false, narrowed := true }
def FnExactTermBoundUptoSaid : Prop := fnExactTermBoundUptoRow.holds Try.pinned (OpenSpec.upto fnExactTermBoundSpec)

/-- 'laws.FnExactBestSequence', WHERE WHAT IT READS IS OF BULK AT MOST 1048576: true; the input reads as it did. -/
def fnExactBestSequenceUptoRow : OpenClaim := { program := "ytfojpiojhcdgoaa", sum := "51c3420865bcc864d2f7395372d08905f3d49c01b9f7d932ef97cb583c8cfaec", func := "loop.example/g01117/laws.FnExactBestSequence", spec := "fnExactBestSequence", unfollowed := true, recurses := true, apart := false, narrowed := true }
def FnExactBestSequenceUptoSaid : Prop := fnExactBestSequenceUptoRow.holds Try.pinned (OpenSpec.upto fnExactBestSequenceSpec)

/-- 'laws.FnExactRanksFamily', WHERE WHAT IT READS IS OF BULK AT MOST 1048576: true; the input reads as it did. -/
def fnExactRanksFamilyUptoRow : OpenClaim := { program := "ytfojpiojhcdgoaa", sum := "51c3420865bcc864d2f7395372d08905f3d49c01b9f7d932ef97cb583c8cfaec", func := "loop.example/g01117/laws.FnExactRanksFamily", spec := "fnExactRanksFamily", unfollowed := true, recurses := true, apart := false, narrowed := true }
def FnExactRanksFamilyUptoSaid : Prop := fnExactRanksFamilyUptoRow.holds Try.pinned (OpenSpec.upto fnExactRanksFamilySpec)

/-- 'laws.FnExactIsPort', WHERE WHAT IT READS IS OF BULK AT MOST 1048576: true; the input reads as it did. -/
def fnExactIsPortUptoRow : OpenClaim := { program := "ytfojpiojhcdgoaa", sum := "51c3420865bcc864d2f7395372d08905f3d49c01b9f7d932ef97cb583c8cfaec", func := "loop.example/g01117/laws.FnExactIsPort", spec := "fnExactIsPort", unfollowed := true, recurses := true, apart := false, narrowed := true }
def FnExactIsPortUptoSaid : Prop := fnExactIsPortUptoRow.holds Try.pinned (OpenSpec.upto fnExactIsPortSpec)

/-- 'laws.FnExactCircuitsOf', WHERE WHAT IT READS IS OF BULK AT MOST 1048576: true; the input reads as it did. -/
def fnExactCircuitsOfUptoRow : OpenClaim := { program := "ytfojpiojhcdgoaa", sum := "51c3420865bcc864d2f7395372d08905f3d49c01b9f7d932ef97cb583c8cfaec", func := "loop.example/g01117/laws.FnExactCircuitsOf", spec := "fnExactCircuitsOf", unfollowed := true, recurses := true, apart := false, narrowed := true }
def FnExactCircuitsOfUptoSaid : Prop := fnExactCircuitsOfUptoRow.holds Try.pinned (OpenSpec.upto fnExactCircuitsOfSpec)

/-- 'laws.FnExactPortRanks', WHERE WHAT IT READS IS OF BULK AT MOST 1048576: true; the input reads as it did. -/
def fnExactPortRanksUptoRow : OpenClaim := { program := "ytfojpiojhcdgoaa", sum := "51c3420865bcc864d2f7395372d08905f3d49c01b9f7d932ef97cb583c8cfaec", func := "loop.example/g01117/laws.FnExactPortRanks", spec := "fnExactPortRanks", unfollowed := true, recurses := true, apart := false, narrowed := true }
def FnExactPortRanksUptoSaid : Prop := fnExactPortRanksUptoRow.holds Try.pinned (OpenSpec.upto fnExactPortRanksSpec)

end Rows
end Go.Proofs.Ytfojpiojhcdgoaa
