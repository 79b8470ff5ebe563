/-
  No cell of these rows narrows 'for every input' (looked for: loops, veiled, ifaces, maps, wideKeys, modest, calm, conditions, laid).
  DERIVED. THE GIVEN ROWS OF THIS SEAT. 10 by the template 'for every input the law returns true; each argument reads behind the call as it read before'; 0 by the template 'total and deterministic' (their statements: YtaepgfafbnjccaaTotals.lean).
  GIVEN WITH THE SEED: the statements are not yours to turn. If you find one false, say at which input.
  Laid BY PROGRAM, IN A SANDBOX (cutbox-rows.mjs): the forced cells as the released guide's own fill.sh prints them over the translation 85003c3d7e2ae8d7… (all of the seat's roots in one cut). By AI agents, Wed Nov 11 2026. No macro, syntax, notation, axiom, sorry.
-/
import Derived.Test.YtaepgfafbnjccaaChecked
import GoSem.Claim
import GoSem.ClaimJoined
import GoSem.ClaimMapViews
import Derived.JoinedTies
import Derived.KernelRfl
namespace Go.Proofs.Ytaepgfafbnjccaa
/- THE CELL 'sum', in the pinned program and in every row, IS THE sha256 OF THE DUMP (.gsa) THAT YtaepgfafbnjccaaProg.lean LOADS. Nothing in Lean hashes anything: it is a label: what it is worth is what the hold of that sum in a sandbox is worth. -/
noncomputable def Try.pinned : Pinned := { name := "ytaepgfafbnjccaa", sum := "85003c3d7e2ae8d7d035987b1f6579a41b73214fceac84b7f394ea273087413c", checked := Try.checked }
namespace Rows
def none {H : Type} : Left H := { results := [], args := [] }

/-- 'laws.FnExactValidDeal': WHATEVER THE INPUT: true; the input reads as it did. -/
def fnExactValidDealSpec : ChangeSpec := { name := "fnExactValidDeal", fn := fun _ => fun
  | [d] => { results := [.lit (.bool true)], args := [d] }
  | _ => none }
def fnExactValidDealRow : OpenClaim := { program := "ytaepgfafbnjccaa", sum := "85003c3d7e2ae8d7d035987b1f6579a41b73214fceac84b7f394ea273087413c", func := "loop.example/g01117/laws.FnExactValidDeal", spec := "fnExactValidDeal", unfollowed := true, recurses := true, apart := false }
def FnExactValidDealSaid : Prop := fnExactValidDealRow.holds Try.pinned (OpenSpec.ofChange fnExactValidDealSpec)

/-- ITS FALSE NEIGHBOUR: 'it returns false'. Refute it at one input. -/
def fnExactValidDealWrong : ChangeSpec := { name := "fnExactValidDeal", fn := fun _ => fun
  | [d] => { results := [.lit (.bool false)], args := [d] }
  | _ => none }
def FnExactValidDealWrongFalsely : Prop := fnExactValidDealRow.holds Try.pinned (OpenSpec.ofChange fnExactValidDealWrong)

/-- 'laws.FnExactFitsFamily': WHATEVER THE INPUT: true; the input reads as it did. -/
def fnExactFitsFamilySpec : ChangeSpec := { name := "fnExactFitsFamily", fn := fun _ => fun
  | [d1, d2] => { results := [.lit (.bool true)], args := [d1, d2] }
  | _ => none }
def fnExactFitsFamilyRow : OpenClaim := { program := "ytaepgfafbnjccaa", sum := "85003c3d7e2ae8d7d035987b1f6579a41b73214fceac84b7f394ea273087413c", func := "loop.example/g01117/laws.FnExactFitsFamily", spec := "fnExactFitsFamily", unfollowed := true, recurses := true, apart := false }
def FnExactFitsFamilySaid : Prop := fnExactFitsFamilyRow.holds Try.pinned (OpenSpec.ofChange fnExactFitsFamilySpec)

/-- ITS FALSE NEIGHBOUR: 'it returns false'. Refute it at one input. -/
def fnExactFitsFamilyWrong : ChangeSpec := { name := "fnExactFitsFamily", fn := fun _ => fun
  | [d1, d2] => { results := [.lit (.bool false)], args := [d1, d2] }
  | _ => none }
def FnExactFitsFamilyWrongFalsely : Prop := fnExactFitsFamilyRow.holds Try.pinned (OpenSpec.ofChange fnExactFitsFamilyWrong)

/-- 'laws.FnExactTagsFit': WHATEVER THE INPUT: true; the input reads as it did. -/
def fnExactTagsFitSpec : ChangeSpec := { name := "fnExactTagsFit", fn := fun _ => fun
  | [d1, d2, d3, d4, d5] => { results := [.lit (.bool true)], args := [d1, d2, d3, d4, d5] }
  | _ => none }
def fnExactTagsFitRow : OpenClaim := { program := "ytaepgfafbnjccaa", sum := "85003c3d7e2ae8d7d035987b1f6579a41b73214fceac84b7f394ea273087413c", func := "loop.example/g01117/laws.FnExactTagsFit", spec := "fnExactTagsFit", unfollowed := true, recurses := true, apart := false }
def FnExactTagsFitSaid : Prop := fnExactTagsFitRow.holds Try.pinned (OpenSpec.ofChange fnExactTagsFitSpec)

/-- ITS FALSE NEIGHBOUR: 'it returns false'. Refute it at one input. -/
def fnExactTagsFitWrong : ChangeSpec := { name := "fnExactTagsFit", fn := fun _ => fun
  | [d1, d2, d3, d4, d5] => { results := [.lit (.bool false)], args := [d1, d2, d3, d4, d5] }
  | _ => none }
def FnExactTagsFitWrongFalsely : Prop := fnExactTagsFitRow.holds Try.pinned (OpenSpec.ofChange fnExactTagsFitWrong)

/-- 'laws.FnExactDealValues': WHATEVER THE INPUT: true; the input reads as it did. -/
def fnExactDealValuesSpec : ChangeSpec := { name := "fnExactDealValues", fn := fun _ => fun
  | [d1, d2, d3] => { results := [.lit (.bool true)], args := [d1, d2, d3] }
  | _ => none }
def fnExactDealValuesRow : OpenClaim := { program := "ytaepgfafbnjccaa", sum := "85003c3d7e2ae8d7d035987b1f6579a41b73214fceac84b7f394ea273087413c", func := "loop.example/g01117/laws.FnExactDealValues", spec := "fnExactDealValues", unfollowed := true, recurses := true, apart := false }
def FnExactDealValuesSaid : Prop := fnExactDealValuesRow.holds Try.pinned (OpenSpec.ofChange fnExactDealValuesSpec)

/-- ITS FALSE NEIGHBOUR: 'it returns false'. Refute it at one input. -/
def fnExactDealValuesWrong : ChangeSpec := { name := "fnExactDealValues", fn := fun _ => fun
  | [d1, d2, d3] => { results := [.lit (.bool false)], args := [d1, d2, d3] }
  | _ => none }
def FnExactDealValuesWrongFalsely : Prop := fnExactDealValuesRow.holds Try.pinned (OpenSpec.ofChange fnExactDealValuesWrong)

/-- 'laws.FnExactFirstMisfit': WHATEVER THE INPUT: true; the input reads as it did. -/
def fnExactFirstMisfitSpec : ChangeSpec := { name := "fnExactFirstMisfit", fn := fun _ => fun
  | [d1, d2] => { results := [.lit (.bool true)], args := [d1, d2] }
  | _ => none }
def fnExactFirstMisfitRow : OpenClaim := { program := "ytaepgfafbnjccaa", sum := "85003c3d7e2ae8d7d035987b1f6579a41b73214fceac84b7f394ea273087413c", func := "loop.example/g01117/laws.FnExactFirstMisfit", spec := "fnExactFirstMisfit", unfollowed := true, recurses := true, apart := false }
def FnExactFirstMisfitSaid : Prop := fnExactFirstMisfitRow.holds Try.pinned (OpenSpec.ofChange fnExactFirstMisfitSpec)

/-- ITS FALSE NEIGHBOUR: 'it returns false'. Refute it at one input. -/
def fnExactFirstMisfitWrong : ChangeSpec := { name := "fnExactFirstMisfit", fn := fun _ => fun
  | [d1, d2] => { results := [.lit (.bool false)], args := [d1, d2] }
  | _ => none }
def FnExactFirstMisfitWrongFalsely : Prop := fnExactFirstMisfitRow.holds Try.pinned (OpenSpec.ofChange fnExactFirstMisfitWrong)

/-- 'laws.FnExactDealTags': WHATEVER THE INPUT: true; the input reads as it did. -/
def fnExactDealTagsSpec : ChangeSpec := { name := "fnExactDealTags", fn := fun _ => fun
  | [d1, d2, d3] => { results := [.lit (.bool true)], args := [d1, d2, d3] }
  | _ => none }
def fnExactDealTagsRow : OpenClaim := { program := "ytaepgfafbnjccaa", sum := "85003c3d7e2ae8d7d035987b1f6579a41b73214fceac84b7f394ea273087413c", func := "loop.example/g01117/laws.FnExactDealTags", spec := "fnExactDealTags", unfollowed := true, recurses := true, apart := false }
def FnExactDealTagsSaid : Prop := fnExactDealTagsRow.holds Try.pinned (OpenSpec.ofChange fnExactDealTagsSpec)

/-- ITS FALSE NEIGHBOUR: 'it returns false'. Refute it at one input. -/
def fnExactDealTagsWrong : ChangeSpec := { name := "fnExactDealTags", fn := fun _ => fun
  | [d1, d2, d3] => { results := [.lit (.bool false)], args := [d1, d2, d3] }
  | _ => none }
def FnExactDealTagsWrongFalsely : Prop := fnExactDealTagsRow.holds Try.pinned (OpenSpec.ofChange fnExactDealTagsWrong)

/-- 'laws.FnExactSequenceFor': WHATEVER THE INPUT: true; the input reads as it did. -/
def fnExactSequenceForSpec : ChangeSpec := { name := "fnExactSequenceFor", fn := fun _ => fun
  | [d1, d2, d3] => { results := [.lit (.bool true)], args := [d1, d2, d3] }
  | _ => none }
def fnExactSequenceForRow : OpenClaim := { program := "ytaepgfafbnjccaa", sum := "85003c3d7e2ae8d7d035987b1f6579a41b73214fceac84b7f394ea273087413c", func := "loop.example/g01117/laws.FnExactSequenceFor", spec := "fnExactSequenceFor", unfollowed := true, recurses := true, apart := false }
def FnExactSequenceForSaid : Prop := fnExactSequenceForRow.holds Try.pinned (OpenSpec.ofChange fnExactSequenceForSpec)

/-- ITS FALSE NEIGHBOUR: 'it returns false'. Refute it at one input. -/
def fnExactSequenceForWrong : ChangeSpec := { name := "fnExactSequenceFor", fn := fun _ => fun
  | [d1, d2, d3] => { results := [.lit (.bool false)], args := [d1, d2, d3] }
  | _ => none }
def FnExactSequenceForWrongFalsely : Prop := fnExactSequenceForRow.holds Try.pinned (OpenSpec.ofChange fnExactSequenceForWrong)

/-- 'laws.FnExactDualRanks': WHATEVER THE INPUT: true; the input reads as it did. -/
def fnExactDualRanksSpec : ChangeSpec := { name := "fnExactDualRanks", fn := fun _ => fun
  | [d1, d2] => { results := [.lit (.bool true)], args := [d1, d2] }
  | _ => none }
def fnExactDualRanksRow : OpenClaim := { program := "ytaepgfafbnjccaa", sum := "85003c3d7e2ae8d7d035987b1f6579a41b73214fceac84b7f394ea273087413c", func := "loop.example/g01117/laws.FnExactDualRanks", spec := "fnExactDualRanks", unfollowed := true, recurses := true, apart := false }
def FnExactDualRanksSaid : Prop := fnExactDualRanksRow.holds Try.pinned (OpenSpec.ofChange fnExactDualRanksSpec)

/-- ITS FALSE NEIGHBOUR: 'it returns false'. Refute it at one input. -/
def fnExactDualRanksWrong : ChangeSpec := { name := "fnExactDualRanks", fn := fun _ => fun
  | [d1, d2] => { results := [.lit (.bool false)], args := [d1, d2] }
  | _ => none }
def FnExactDualRanksWrongFalsely : Prop := fnExactDualRanksRow.holds Try.pinned (OpenSpec.ofChange fnExactDualRanksWrong)

/-- 'laws.FnExactTermBound': WHATEVER THE INPUT: true; the input reads as it did. -/
def fnExactTermBoundSpec : ChangeSpec := { name := "fnExactTermBound", fn := fun _ => fun
  | [d1, d2] => { results := [.lit (.bool true)], args := [d1, d2] }
  | _ => none }
def fnExactTermBoundRow : OpenClaim := { program := "ytaepgfafbnjccaa", sum := "85003c3d7e2ae8d7d035987b1f6579a41b73214fceac84b7f394ea273087413c", func := "loop.example/g01117/laws.FnExactTermBound", spec := "fnExactTermBound", unfollowed := true, recurses := true, apart := false }
def FnExactTermBoundSaid : Prop := fnExactTermBoundRow.holds Try.pinned (OpenSpec.ofChange fnExactTermBoundSpec)

/-- ITS FALSE NEIGHBOUR: 'it returns false'. Refute it at one input. -/
def fnExactTermBoundWrong : ChangeSpec := { name := "fnExactTermBound", fn := fun _ => fun
  | [d1, d2] => { results := [.lit (.bool false)], args := [d1, d2] }
  | _ => none }
def FnExactTermBoundWrongFalsely : Prop := fnExactTermBoundRow.holds Try.pinned (OpenSpec.ofChange fnExactTermBoundWrong)

/-- 'laws.FnExactLiesThatPass': WHATEVER THE INPUT: true; the input reads as it did. -/
def fnExactLiesThatPassSpec : ChangeSpec := { name := "fnExactLiesThatPass", fn := fun _ => fun
  | [d1, d2, d3] => { results := [.lit (.bool true)], args := [d1, d2, d3] }
  | _ => none }
def fnExactLiesThatPassRow : OpenClaim := { program := "ytaepgfafbnjccaa", sum := "85003c3d7e2ae8d7d035987b1f6579a41b73214fceac84b7f394ea273087413c", func := "loop.example/g01117/laws.FnExactLiesThatPass", spec := "fnExactLiesThatPass", unfollowed := true, recurses := true, apart := false }
def FnExactLiesThatPassSaid : Prop := fnExactLiesThatPassRow.holds Try.pinned (OpenSpec.ofChange fnExactLiesThatPassSpec)

/-- ITS FALSE NEIGHBOUR: 'it returns false'. Refute it at one input. -/
def fnExactLiesThatPassWrong : ChangeSpec := { name := "fnExactLiesThatPass", fn := fun _ => fun
  | [d1, d2, d3] => { results := [.lit (.bool false)], args := [d1, d2, d3] }
  | _ => none }
def FnExactLiesThatPassWrongFalsely : Prop := fnExactLiesThatPassRow.holds Try.pinned (OpenSpec.ofChange fnExactLiesThatPassWrong)

/- THE SECOND FORM. 'bulk': how many values and letters a reading holds, each counted each time it is reached (what is shared counts as often as it is met; a slice's spare places count too). A statement '..UptoSaid' is the law's where the arguments, and the package variables that the reading takes, are together of bulk at most 1048576: NARROWER than '..Said'. Prove '..Said' where nothing that the law and all that it calls make is longer than what came in: it says more and counts as full. Else prove '..UptoSaid'. A law counts once. -/
mutual
def uptoBulk {H : Type} : DataW H → Nat
  | .lit (.string bytes) => bytes.length + 1
  | .lit _ => 1
  | .nil => 1
  | .ptr d => uptoBulk d + 1
  | .slice elems spare => uptoBulkAll elems + uptoBulkAll spare + 1
  | .agg parts => uptoBulkAll parts + 1
  | .iface _ d => uptoBulk d + 1
  | .map entries => uptoBulkEntries entries + 1
  | .held _ => 1
def uptoBulkAll {H : Type} : List (DataW H) → Nat
  | [] => 0
  | d :: r => uptoBulk d + uptoBulkAll r
def uptoBulkEntries {H : Type} : List (Lit × DataW H) → Nat
  | [] => 0
  | x :: r => uptoBulkEntry x + uptoBulkEntries r
def uptoBulkEntry {H : Type} : Lit × DataW H → Nat
  | (.string bytes, d) => bytes.length + uptoBulk d + 1
  | (_, d) => uptoBulk d + 1
 end
def uptoSmall : (H : Type) → List (DataW H) → Bool := fun _ ds => decide (uptoBulkAll ds ≤ 1048576)
def OpenSpec.upto (s : _root_.Go.ChangeSpec) : _root_.Go.OpenSpec := { _root_.Go.OpenSpec.ofChange s with cond := some uptoSmall }

/-- 'laws.FnExactValidDeal', WHERE WHAT IT READS IS OF BULK AT MOST 1048576: true; the input reads as it did. -/
def fnExactValidDealUptoRow : OpenClaim := { program := "ytaepgfafbnjccaa", sum := "85003c3d7e2ae8d7d035987b1f6579a41b73214fceac84b7f394ea273087413c", func := "loop.example/g01117/laws.FnExactValidDeal", spec := "fnExactValidDeal", unfollowed := true, recurses := true, apart := false, narrowed := true }
def FnExactValidDealUptoSaid : Prop := fnExactValidDealUptoRow.holds Try.pinned (OpenSpec.upto fnExactValidDealSpec)

/-- 'laws.FnExactFitsFamily', WHERE WHAT IT READS IS OF BULK AT MOST 1048576: true; the input reads as it did. -/
def fnExactFitsFamilyUptoRow : OpenClaim := { program := "ytaepgfafbnjccaa", sum := "85003c3d7e2ae8d7d035987b1f6579a41b73214fceac84b7f394ea273087413c", func := "loop.example/g01117/laws.FnExactFitsFamily", spec := "fnExactFitsFamily", unfollowed := true, recurses := true, apart := false, narrowed := true }
def FnExactFitsFamilyUptoSaid : Prop := fnExactFitsFamilyUptoRow.holds Try.pinned (OpenSpec.upto fnExactFitsFamilySpec)

/-- 'laws.FnExactTagsFit', WHERE WHAT IT READS IS OF BULK AT MOST 1048576: true; the input reads as it did. -/
def fnExactTagsFitUptoRow : OpenClaim := { program := "ytaepgfafbnjccaa", sum := "85003c3d7e2ae8d7d035987b1f6579a41b73214fceac84b7f394ea273087413c", func := "loop.example/g01117/laws.FnExactTagsFit", spec := "fnExactTagsFit", unfollowed := true, recurses := true, apart := false, narrowed := true }
def FnExactTagsFitUptoSaid : Prop := fnExactTagsFitUptoRow.holds Try.pinned (OpenSpec.upto fnExactTagsFitSpec)

/-- 'laws.FnExactDealValues', WHERE WHAT IT READS IS OF BULK AT MOST 1048576: true; the input reads as it did. -/
def fnExactDealValuesUptoRow : OpenClaim := { program := "ytaepgfafbnjccaa", sum := "85003c3d7e2ae8d7d035987b1f6579a41b73214fceac84b7f394ea273087413c", func := "loop.example/g01117/laws.FnExactDealValues", spec := "fnExactDealValues", unfollowed := true, recurses := true, apart := false, narrowed := true }
def FnExactDealValuesUptoSaid : Prop := fnExactDealValuesUptoRow.holds Try.pinned (OpenSpec.upto fnExactDealValuesSpec)

/-- 'laws.FnExactFirstMisfit', WHERE WHAT IT READS IS OF BULK AT MOST 1048576: true; the input reads as it did. -/
def fnExactFirstMisfitUptoRow : OpenClaim := { program := "ytaepgfafbnjccaa", sum := "85003c3d7e2ae8d7d035987b1f6579a41b73214fceac84b7f394ea273087413c", func := "loop.example/g01117/laws.FnExactFirstMisfit", spec := "fnExactFirstMisfit", unfollowed := true, recurses := true, apart := false, narrowed := true }
def FnExactFirstMisfitUptoSaid : Prop := fnExactFirstMisfitUptoRow.holds Try.pinned (OpenSpec.upto fnExactFirstMisfitSpec)

/-- 'laws.FnExactDealTags', WHERE WHAT IT READS IS OF BULK AT MOST 1048576: true; the input reads as it did. -/
def fnExactDealTagsUptoRow : OpenClaim := { program := "ytaepgfafbnjccaa", sum := "85003c3d7e2ae8d7d035987b1f6579a41b73214fceac84b7f394ea273087413c", func := "loop.example/g01117/laws.FnExactDealTags", spec := "fnExactDealTags", unfollowed := true, recurses := true, apart := false, narrowed := true }
def FnExactDealTagsUptoSaid : Prop := fnExactDealTagsUptoRow.holds Try.pinned (OpenSpec.upto fnExactDealTagsSpec)

/-- 'laws.FnExactSequenceFor', WHERE WHAT IT READS IS OF BULK AT MOST 1048576: true; the input reads as it did. -/
def fnExactSequenceForUptoRow : OpenClaim := { program := "ytaepgfafbnjccaa", sum := "85003c3d7e2ae8d7d035987b1f6579a41b73214fceac84b7f394ea273087413c", func := "loop.example/g01117/laws.FnExactSequenceFor", spec := "fnExactSequenceFor", unfollowed := true, recurses := true, apart := false, narrowed := true }
def FnExactSequenceForUptoSaid : Prop := fnExactSequenceForUptoRow.holds Try.pinned (OpenSpec.upto fnExactSequenceForSpec)

/-- 'laws.FnExactDualRanks', WHERE WHAT IT READS IS OF BULK AT MOST 1048576: true; the input reads as it did. -/
def fnExactDualRanksUptoRow : OpenClaim := { program := "ytaepgfafbnjccaa", sum := "85003c3d7e2ae8d7d035987b1f6579a41b73214fceac84b7f394ea273087413c", func := "loop.example/g01117/laws.FnExactDualRanks", spec := "fnExactDualRanks", unfollowed := true, recurses := true, apart := false, narrowed := true }
def FnExactDualRanksUptoSaid : Prop := fnExactDualRanksUptoRow.holds Try.pinned (OpenSpec.upto fnExactDualRanksSpec)

/-- 'laws.FnExactTermBound', WHERE WHAT IT READS IS OF BULK AT MOST 1048576: true; the input reads as it did. -/
def fnExactTermBoundUptoRow : OpenClaim := { program := "ytaepgfafbnjccaa", sum := "85003c3d7e2ae8d7d035987b1f6579a41b73214fceac84b7f394ea273087413c", func := "loop.example/g01117/laws.FnExactTermBound", spec := "fnExactTermBound", unfollowed := true, recurses := true, apart := false, narrowed := true }
def FnExactTermBoundUptoSaid : Prop := fnExactTermBoundUptoRow.holds Try.pinned (OpenSpec.upto fnExactTermBoundSpec)

/-- 'laws.FnExactLiesThatPass', WHERE WHAT IT READS IS OF BULK AT MOST 1048576: true; the input reads as it did. -/
def fnExactLiesThatPassUptoRow : OpenClaim := { program := "ytaepgfafbnjccaa", sum := "85003c3d7e2ae8d7d035987b1f6579a41b73214fceac84b7f394ea273087413c", func := "loop.example/g01117/laws.FnExactLiesThatPass", spec := "fnExactLiesThatPass", unfollowed := true, recurses := true, apart := false, narrowed := true }
def FnExactLiesThatPassUptoSaid : Prop := fnExactLiesThatPassUptoRow.holds Try.pinned (OpenSpec.upto fnExactLiesThatPassSpec)

end Rows
end Go.Proofs.Ytaepgfafbnjccaa
