/-
  No cell of these rows narrows 'for every input' (looked for: loops, veiled, ifaces, maps, wideKeys, modest, calm, conditions, laid).
  DERIVED. THE GIVEN ROWS OF THIS SEAT. 12 by the template 'for every input the law returns true; each argument reads behind the call as it read before'; 0 by the template 'total and deterministic' (their statements: YtmkpfllbmdahkaaTotals.lean).
  GIVEN WITH THE SEED: the statements are not yours to turn. If you find one false, say at which input.
  Laid BY PROGRAM, IN A SANDBOX (cutbox-rows.mjs): the forced cells as the released guide's own fill.sh prints them over the translation 6c854c1413c7c4d6… (all of the seat's roots in one cut). By AI agents, Wed Nov 11 2026. No macro, syntax, notation, axiom, sorry.
-/
import Derived.Test.YtmkpfllbmdahkaaChecked
import GoSem.Claim
import GoSem.ClaimJoined
import GoSem.ClaimMapViews
import Derived.JoinedTies
import Derived.KernelRfl
namespace Go.Proofs.Ytmkpfllbmdahkaa
/- THE CELL 'sum', in the pinned program and in every row, IS THE sha256 OF THE DUMP (.gsa) THAT YtmkpfllbmdahkaaProg.lean LOADS. Nothing in Lean hashes anything: it is a label: what it is worth is what the hold of that sum in a sandbox is worth. -/
noncomputable def Try.pinned : Pinned := { name := "ytmkpfllbmdahkaa", sum := "6c854c1413c7c4d6eb0e36b0853132b4e8ffc8349c7417eed970c0a7d23d61ec", checked := Try.checked }
namespace Rows
def none {H : Type} : Left H := { results := [], args := [] }

/-- 'laws.FnExactRankOf': WHATEVER THE INPUT: true; the input reads as it did. -/
def fnExactRankOfSpec : ChangeSpec := { name := "fnExactRankOf", fn := fun _ => fun
  | [d] => { results := [.lit (.bool true)], args := [d] }
  | _ => none }
def fnExactRankOfRow : OpenClaim := { program := "ytmkpfllbmdahkaa", sum := "6c854c1413c7c4d6eb0e36b0853132b4e8ffc8349c7417eed970c0a7d23d61ec", func := "loop.example/g01117/laws.FnExactRankOf", spec := "fnExactRankOf", unfollowed := true, recurses := true, apart := false }
def FnExactRankOfSaid : Prop := fnExactRankOfRow.holds Try.pinned (OpenSpec.ofChange fnExactRankOfSpec)

/-- ITS FALSE NEIGHBOUR: 'it returns false'. Refute it at one input. -/
def fnExactRankOfWrong : ChangeSpec := { name := "fnExactRankOf", fn := fun _ => fun
  | [d] => { results := [.lit (.bool false)], args := [d] }
  | _ => none }
def FnExactRankOfWrongFalsely : Prop := fnExactRankOfRow.holds Try.pinned (OpenSpec.ofChange fnExactRankOfWrong)

/-- 'laws.FnExactSchemeRanks': WHATEVER THE INPUT: true; the input reads as it did. -/
def fnExactSchemeRanksSpec : ChangeSpec := { name := "fnExactSchemeRanks", fn := fun _ => fun
  | [d] => { results := [.lit (.bool true)], args := [d] }
  | _ => none }
def fnExactSchemeRanksRow : OpenClaim := { program := "ytmkpfllbmdahkaa", sum := "6c854c1413c7c4d6eb0e36b0853132b4e8ffc8349c7417eed970c0a7d23d61ec", func := "loop.example/g01117/laws.FnExactSchemeRanks", spec := "fnExactSchemeRanks", unfollowed := true, recurses := true, apart := false }
def FnExactSchemeRanksSaid : Prop := fnExactSchemeRanksRow.holds Try.pinned (OpenSpec.ofChange fnExactSchemeRanksSpec)

/-- ITS FALSE NEIGHBOUR: 'it returns false'. Refute it at one input. -/
def fnExactSchemeRanksWrong : ChangeSpec := { name := "fnExactSchemeRanks", fn := fun _ => fun
  | [d] => { results := [.lit (.bool false)], args := [d] }
  | _ => none }
def FnExactSchemeRanksWrongFalsely : Prop := fnExactSchemeRanksRow.holds Try.pinned (OpenSpec.ofChange fnExactSchemeRanksWrong)

/-- 'laws.FnExactCasesBySecret': WHATEVER THE INPUT: true; the input reads as it did. -/
def fnExactCasesBySecretSpec : ChangeSpec := { name := "fnExactCasesBySecret", fn := fun _ => fun
  | [d1, d2, d3] => { results := [.lit (.bool true)], args := [d1, d2, d3] }
  | _ => none }
def fnExactCasesBySecretRow : OpenClaim := { program := "ytmkpfllbmdahkaa", sum := "6c854c1413c7c4d6eb0e36b0853132b4e8ffc8349c7417eed970c0a7d23d61ec", func := "loop.example/g01117/laws.FnExactCasesBySecret", spec := "fnExactCasesBySecret", unfollowed := true, recurses := true, apart := false }
def FnExactCasesBySecretSaid : Prop := fnExactCasesBySecretRow.holds Try.pinned (OpenSpec.ofChange fnExactCasesBySecretSpec)

/-- ITS FALSE NEIGHBOUR: 'it returns false'. Refute it at one input. -/
def fnExactCasesBySecretWrong : ChangeSpec := { name := "fnExactCasesBySecret", fn := fun _ => fun
  | [d1, d2, d3] => { results := [.lit (.bool false)], args := [d1, d2, d3] }
  | _ => none }
def FnExactCasesBySecretWrongFalsely : Prop := fnExactCasesBySecretRow.holds Try.pinned (OpenSpec.ofChange fnExactCasesBySecretWrong)

/-- 'laws.FnExactChangeBlinds': WHATEVER THE INPUT: true; the input reads as it did. -/
def fnExactChangeBlindsSpec : ChangeSpec := { name := "fnExactChangeBlinds", fn := fun _ => fun
  | [d1, d2] => { results := [.lit (.bool true)], args := [d1, d2] }
  | _ => none }
def fnExactChangeBlindsRow : OpenClaim := { program := "ytmkpfllbmdahkaa", sum := "6c854c1413c7c4d6eb0e36b0853132b4e8ffc8349c7417eed970c0a7d23d61ec", func := "loop.example/g01117/laws.FnExactChangeBlinds", spec := "fnExactChangeBlinds", unfollowed := true, recurses := true, apart := false }
def FnExactChangeBlindsSaid : Prop := fnExactChangeBlindsRow.holds Try.pinned (OpenSpec.ofChange fnExactChangeBlindsSpec)

/-- ITS FALSE NEIGHBOUR: 'it returns false'. Refute it at one input. -/
def fnExactChangeBlindsWrong : ChangeSpec := { name := "fnExactChangeBlinds", fn := fun _ => fun
  | [d1, d2] => { results := [.lit (.bool false)], args := [d1, d2] }
  | _ => none }
def FnExactChangeBlindsWrongFalsely : Prop := fnExactChangeBlindsRow.holds Try.pinned (OpenSpec.ofChange fnExactChangeBlindsWrong)

/-- 'laws.FnKernel': WHATEVER THE INPUT: true; the input reads as it did. -/
def fnKernelSpec : ChangeSpec := { name := "fnKernel", fn := fun _ => fun
  | [d1, d2] => { results := [.lit (.bool true)], args := [d1, d2] }
  | _ => none }
def fnKernelRow : OpenClaim := { program := "ytmkpfllbmdahkaa", sum := "6c854c1413c7c4d6eb0e36b0853132b4e8ffc8349c7417eed970c0a7d23d61ec", func := "loop.example/g01117/laws.FnKernel", spec := "fnKernel", unfollowed := true, recurses := true, apart := false }
def FnKernelSaid : Prop := fnKernelRow.holds Try.pinned (OpenSpec.ofChange fnKernelSpec)

/-- ITS FALSE NEIGHBOUR: 'it returns false'. Refute it at one input. -/
def fnKernelWrong : ChangeSpec := { name := "fnKernel", fn := fun _ => fun
  | [d1, d2] => { results := [.lit (.bool false)], args := [d1, d2] }
  | _ => none }
def FnKernelWrongFalsely : Prop := fnKernelRow.holds Try.pinned (OpenSpec.ofChange fnKernelWrong)

/-- 'laws.FnInverse': WHATEVER THE INPUT: true; the input reads as it did. -/
def fnInverseSpec : ChangeSpec := { name := "fnInverse", fn := fun _ => fun
  | [d1, d2] => { results := [.lit (.bool true)], args := [d1, d2] }
  | _ => none }
def fnInverseRow : OpenClaim := { program := "ytmkpfllbmdahkaa", sum := "6c854c1413c7c4d6eb0e36b0853132b4e8ffc8349c7417eed970c0a7d23d61ec", func := "loop.example/g01117/laws.FnInverse", spec := "fnInverse", unfollowed := true, recurses := true, apart := false }
def FnInverseSaid : Prop := fnInverseRow.holds Try.pinned (OpenSpec.ofChange fnInverseSpec)

/-- ITS FALSE NEIGHBOUR: 'it returns false'. Refute it at one input. -/
def fnInverseWrong : ChangeSpec := { name := "fnInverse", fn := fun _ => fun
  | [d1, d2] => { results := [.lit (.bool false)], args := [d1, d2] }
  | _ => none }
def FnInverseWrongFalsely : Prop := fnInverseRow.holds Try.pinned (OpenSpec.ofChange fnInverseWrong)

/-- 'laws.FnTags': WHATEVER THE INPUT: true; the input reads as it did. -/
def fnTagsSpec : ChangeSpec := { name := "fnTags", fn := fun _ => fun
  | [d1, d2] => { results := [.lit (.bool true)], args := [d1, d2] }
  | _ => none }
def fnTagsRow : OpenClaim := { program := "ytmkpfllbmdahkaa", sum := "6c854c1413c7c4d6eb0e36b0853132b4e8ffc8349c7417eed970c0a7d23d61ec", func := "loop.example/g01117/laws.FnTags", spec := "fnTags", unfollowed := true, recurses := true, apart := false }
def FnTagsSaid : Prop := fnTagsRow.holds Try.pinned (OpenSpec.ofChange fnTagsSpec)

/-- ITS FALSE NEIGHBOUR: 'it returns false'. Refute it at one input. -/
def fnTagsWrong : ChangeSpec := { name := "fnTags", fn := fun _ => fun
  | [d1, d2] => { results := [.lit (.bool false)], args := [d1, d2] }
  | _ => none }
def FnTagsWrongFalsely : Prop := fnTagsRow.holds Try.pinned (OpenSpec.ofChange fnTagsWrong)

/-- 'laws.FnCasesAlike': WHATEVER THE INPUT: true; the input reads as it did. -/
def fnCasesAlikeSpec : ChangeSpec := { name := "fnCasesAlike", fn := fun _ => fun
  | [d1, d2] => { results := [.lit (.bool true)], args := [d1, d2] }
  | _ => none }
def fnCasesAlikeRow : OpenClaim := { program := "ytmkpfllbmdahkaa", sum := "6c854c1413c7c4d6eb0e36b0853132b4e8ffc8349c7417eed970c0a7d23d61ec", func := "loop.example/g01117/laws.FnCasesAlike", spec := "fnCasesAlike", unfollowed := true, recurses := true, apart := false }
def FnCasesAlikeSaid : Prop := fnCasesAlikeRow.holds Try.pinned (OpenSpec.ofChange fnCasesAlikeSpec)

/-- ITS FALSE NEIGHBOUR: 'it returns false'. Refute it at one input. -/
def fnCasesAlikeWrong : ChangeSpec := { name := "fnCasesAlike", fn := fun _ => fun
  | [d1, d2] => { results := [.lit (.bool false)], args := [d1, d2] }
  | _ => none }
def FnCasesAlikeWrongFalsely : Prop := fnCasesAlikeRow.holds Try.pinned (OpenSpec.ofChange fnCasesAlikeWrong)

/-- 'laws.FnExactBestSequence': WHATEVER THE INPUT: true; the input reads as it did. -/
def fnExactBestSequenceSpec : ChangeSpec := { name := "fnExactBestSequence", fn := fun _ => fun
  | [d] => { results := [.lit (.bool true)], args := [d] }
  | _ => none }
def fnExactBestSequenceRow : OpenClaim := { program := "ytmkpfllbmdahkaa", sum := "6c854c1413c7c4d6eb0e36b0853132b4e8ffc8349c7417eed970c0a7d23d61ec", func := "loop.example/g01117/laws.FnExactBestSequence", spec := "fnExactBestSequence", unfollowed := true, recurses := true, apart := false }
def FnExactBestSequenceSaid : Prop := fnExactBestSequenceRow.holds Try.pinned (OpenSpec.ofChange fnExactBestSequenceSpec)

/-- ITS FALSE NEIGHBOUR: 'it returns false'. Refute it at one input. -/
def fnExactBestSequenceWrong : ChangeSpec := { name := "fnExactBestSequence", fn := fun _ => fun
  | [d] => { results := [.lit (.bool false)], args := [d] }
  | _ => none }
def FnExactBestSequenceWrongFalsely : Prop := fnExactBestSequenceRow.holds Try.pinned (OpenSpec.ofChange fnExactBestSequenceWrong)

/-- 'laws.FnExactRanksFamily': WHATEVER THE INPUT: true; the input reads as it did. -/
def fnExactRanksFamilySpec : ChangeSpec := { name := "fnExactRanksFamily", fn := fun _ => fun
  | [d1, d2] => { results := [.lit (.bool true)], args := [d1, d2] }
  | _ => none }
def fnExactRanksFamilyRow : OpenClaim := { program := "ytmkpfllbmdahkaa", sum := "6c854c1413c7c4d6eb0e36b0853132b4e8ffc8349c7417eed970c0a7d23d61ec", func := "loop.example/g01117/laws.FnExactRanksFamily", spec := "fnExactRanksFamily", unfollowed := true, recurses := true, apart := false }
def FnExactRanksFamilySaid : Prop := fnExactRanksFamilyRow.holds Try.pinned (OpenSpec.ofChange fnExactRanksFamilySpec)

/-- ITS FALSE NEIGHBOUR: 'it returns false'. Refute it at one input. -/
def fnExactRanksFamilyWrong : ChangeSpec := { name := "fnExactRanksFamily", fn := fun _ => fun
  | [d1, d2] => { results := [.lit (.bool false)], args := [d1, d2] }
  | _ => none }
def FnExactRanksFamilyWrongFalsely : Prop := fnExactRanksFamilyRow.holds Try.pinned (OpenSpec.ofChange fnExactRanksFamilyWrong)

/-- 'laws.FnSequences': WHATEVER THE INPUT: true; the input reads as it did. -/
def fnSequencesSpec : ChangeSpec := { name := "fnSequences", fn := fun _ => fun
  | [d1, d2] => { results := [.lit (.bool true)], args := [d1, d2] }
  | _ => none }
def fnSequencesRow : OpenClaim := { program := "ytmkpfllbmdahkaa", sum := "6c854c1413c7c4d6eb0e36b0853132b4e8ffc8349c7417eed970c0a7d23d61ec", func := "loop.example/g01117/laws.FnSequences", spec := "fnSequences", unfollowed := true, recurses := true, apart := false }
def FnSequencesSaid : Prop := fnSequencesRow.holds Try.pinned (OpenSpec.ofChange fnSequencesSpec)

/-- ITS FALSE NEIGHBOUR: 'it returns false'. Refute it at one input. -/
def fnSequencesWrong : ChangeSpec := { name := "fnSequences", fn := fun _ => fun
  | [d1, d2] => { results := [.lit (.bool false)], args := [d1, d2] }
  | _ => none }
def FnSequencesWrongFalsely : Prop := fnSequencesRow.holds Try.pinned (OpenSpec.ofChange fnSequencesWrong)

/-- 'laws.FnCutRanks': WHATEVER THE INPUT: true; the input reads as it did. -/
def fnCutRanksSpec : ChangeSpec := { name := "fnCutRanks", fn := fun _ => fun
  | [d1, d2] => { results := [.lit (.bool true)], args := [d1, d2] }
  | _ => none }
def fnCutRanksRow : OpenClaim := { program := "ytmkpfllbmdahkaa", sum := "6c854c1413c7c4d6eb0e36b0853132b4e8ffc8349c7417eed970c0a7d23d61ec", func := "loop.example/g01117/laws.FnCutRanks", spec := "fnCutRanks", unfollowed := true, recurses := true, apart := false }
def FnCutRanksSaid : Prop := fnCutRanksRow.holds Try.pinned (OpenSpec.ofChange fnCutRanksSpec)

/-- ITS FALSE NEIGHBOUR: 'it returns false'. Refute it at one input. -/
def fnCutRanksWrong : ChangeSpec := { name := "fnCutRanks", fn := fun _ => fun
  | [d1, d2] => { results := [.lit (.bool false)], args := [d1, d2] }
  | _ => none }
def FnCutRanksWrongFalsely : Prop := fnCutRanksRow.holds Try.pinned (OpenSpec.ofChange fnCutRanksWrong)

/- THE SECOND FORM. 'bulk': how many values and letters a reading holds, each counted each time it is reached (what is shared counts as often as it is met; a slice's spare places count too). A statement '..UptoSaid' is the law's where the arguments, and the package variables that the reading takes, are together of bulk at most 1048576: NARROWER than '..Said'. Prove '..Said' where nothing that the law and all that it calls make is longer than what came in: it says more and counts as full. Else prove '..UptoSaid'. A law counts once. -/
mutual
def uptoBulk {H : Type} : DataW H → Nat
  | .lit (.string bytes) => bytes.length + 1
  | .lit _ => 1
  | .nil => 1
  | .ptr d => uptoBulk d + 1
  | .slice elems spare => uptoBulkAll elems + uptoBulkAll spare + 1
  | .agg parts => uptoBulkAll parts + 1
  | .iface _ d => uptoBulk d + 1
  | .map entries => uptoBulkEntries entries + 1
  | .held _ => 1
def uptoBulkAll {H : Type} : List (DataW H) → Nat
  | [] => 0
  | d :: r => uptoBulk d + uptoBulkAll r
def uptoBulkEntries {H : Type} : List (Lit × DataW H) → Nat
  | [] => 0
  | x :: r => uptoBulkEntry x + uptoBulkEntries r
def uptoBulkEntry {H : Type} : Lit × DataW H → Nat
  | (.string bytes, d) => bytes.length + uptoBulk d + 1
  | (_, d) => uptoBulk d + 1
 end
def uptoSmall : (H : Type) → List (DataW H) → Bool := fun _ ds => decide (uptoBulkAll ds ≤ 1048576)
def OpenSpec.upto (s : _root_.Go.ChangeSpec) : _root_.Go.OpenSpec := { _root_.Go.OpenSpec.ofChange s with cond := some uptoSmall }

/-- 'laws.FnExactRankOf', WHERE WHAT IT READS IS OF BULK AT MOST 1048576: true; the input reads as it did. -/
def fnExactRankOfUptoRow : OpenClaim := { program := "ytmkpfllbmdahkaa", sum := "6c854c1413c7c4d6eb0e36b0853132b4e8ffc8349c7417eed970c0a7d23d61ec", func := "loop.example/g01117/laws.FnExactRankOf", spec := "fnExactRankOf", unfollowed := true, recurses := true, apart := false, narrowed := true }
def FnExactRankOfUptoSaid : Prop := fnExactRankOfUptoRow.holds Try.pinned (OpenSpec.upto fnExactRankOfSpec)

/-- 'laws.FnExactSchemeRanks', WHERE WHAT IT READS IS OF BULK AT MOST 1048576: true; the input reads as it did. -/
def fnExactSchemeRanksUptoRow : OpenClaim := { program := "ytmkpfllbmdahkaa", sum := "6c854c1413c7c4d6eb0e36b0853132b4e8ffc8349c7417eed970c0a7d23d61ec", func := "loop.example/g01117/laws.FnExactSchemeRanks", spec := "fnExactSchemeRanks", unfollowed := true, recurses := true, apart := false, narrowed := true }
def FnExactSchemeRanksUptoSaid : Prop := fnExactSchemeRanksUptoRow.holds Try.pinned (OpenSpec.upto fnExactSchemeRanksSpec)

/-- 'laws.FnExactCasesBySecret', WHERE WHAT IT READS IS OF BULK AT MOST 1048576: true; the input reads as it did. -/
def fnExactCasesBySecretUptoRow : OpenClaim := { program := "ytmkpfllbmdahkaa", sum := "6c854c1413c7c4d6eb0e36b0853132b4e8ffc8349c7417eed970c0a7d23d61ec", func := "loop.example/g01117/laws.FnExactCasesBySecret", spec := "fnExactCasesBySecret", unfollowed := true, recurses := true, apart := false, narrowed := true }
def FnExactCasesBySecretUptoSaid : Prop := fnExactCasesBySecretUptoRow.holds Try.pinned (OpenSpec.upto fnExactCasesBySecretSpec)

/-- 'laws.FnExactChangeBlinds', WHERE WHAT IT READS IS OF BULK AT MOST 1048576: true; the input reads as it did. -/
def fnExactChangeBlindsUptoRow : OpenClaim := { program := "ytmkpfllbmdahkaa", sum := "6c854c1413c7c4d6eb0e36b0853132b4e8ffc8349c7417eed970c0a7d23d61ec", func := "loop.example/g01117/laws.FnExactChangeBlinds", spec := "fnExactChangeBlinds", unfollowed := true, recurses := true, apart := false, narrowed := true }
def FnExactChangeBlindsUptoSaid : Prop := fnExactChangeBlindsUptoRow.holds Try.pinned (OpenSpec.upto fnExactChangeBlindsSpec)

/-- 'laws.FnKernel', WHERE WHAT IT READS IS OF BULK AT MOST 1048576: true; the input reads as it did. -/
def fnKernelUptoRow : OpenClaim := { program := "ytmkpfllbmdahkaa", sum := "6c854c1413c7c4d6eb0e36b0853132b4e8ffc8349c7417eed970c0a7d23d61ec", func := "loop.example/g01117/laws.FnKernel", spec := "fnKernel", unfollowed := true, recurses := true, apart := false, narrowed := true }
def FnKernelUptoSaid : Prop := fnKernelUptoRow.holds Try.pinned (OpenSpec.upto fnKernelSpec)

/-- 'laws.FnInverse', WHERE WHAT IT READS IS OF BULK AT MOST 1048576: true; the input reads as it did. -/
def fnInverseUptoRow : OpenClaim := { program := "ytmkpfllbmdahkaa", sum := "6c854c1413c7c4d6eb0e36b0853132b4e8ffc8349c7417eed970c0a7d23d61ec", func := "loop.example/g01117/laws.FnInverse", spec := "fnInverse", unfollowed := true, recurses := true, apart := false, narrowed := true }
def FnInverseUptoSaid : Prop := fnInverseUptoRow.holds Try.pinned (OpenSpec.upto fnInverseSpec)

/-- 'laws.FnTags', WHERE WHAT IT READS IS OF BULK AT MOST 1048576: true; the input reads as it did. -/
def fnTagsUptoRow : OpenClaim := { program := "ytmkpfllbmdahkaa", sum := "6c854c1413c7c4d6eb0e36b0853132b4e8ffc8349c7417eed970c0a7d23d61ec", func := "loop.example/g01117/laws.FnTags", spec := "fnTags", unfollowed := true, recurses := true, apart := false, narrowed := true }
def FnTagsUptoSaid : Prop := fnTagsUptoRow.holds Try.pinned (OpenSpec.upto fnTagsSpec)

/-- 'laws.FnCasesAlike', WHERE WHAT IT READS IS OF BULK AT MOST 1048576: true; the input reads as it did. -/
def fnCasesAlikeUptoRow : OpenClaim := { program := "ytmkpfllbmdahkaa", sum := "6c854c1413c7c4d6eb0e36b0853132b4e8ffc8349c7417eed970c0a7d23d61ec", func := "loop.example/g01117/laws.FnCasesAlike", spec := "fnCasesAlike", unfollowed := true, recurses := true, apart := false, narrowed := true }
def FnCasesAlikeUptoSaid : Prop := fnCasesAlikeUptoRow.holds Try.pinned (OpenSpec.upto fnCasesAlikeSpec)

/-- 'laws.FnExactBestSequence', WHERE WHAT IT READS IS OF BULK AT MOST 1048576: true; the input reads as it did. -/
def fnExactBestSequenceUptoRow : OpenClaim := { program := "ytmkpfllbmdahkaa", sum := "6c854c1413c7c4d6eb0e36b0853132b4e8ffc8349c7417eed970c0a7d23d61ec", func := "loop.example/g01117/laws.FnExactBestSequence", spec := "fnExactBestSequence", unfollowed := true, recurses := true, apart := false, narrowed := true }
def FnExactBestSequenceUptoSaid : Prop := fnExactBestSequenceUptoRow.holds Try.pinned (OpenSpec.upto fnExactBestSequenceSpec)

/-- 'laws.FnExactRanksFamily', WHERE WHAT IT READS IS OF BULK AT MOST 1048576: true; the input reads as it did. -/
def fnExactRanksFamilyUptoRow : OpenClaim := { program := "ytmkpfllbmdahkaa", sum := "6c854c1413c7c4d6eb0e36b0853132b4e8ffc8349c7417eed970c0a7d23d61ec", func := "loop.example/g01117/laws.FnExactRanksFamily", spec := "fnExactRanksFamily", unfollowed := true, recurses := true, apart := false, narrowed := true }
def FnExactRanksFamilyUptoSaid : Prop := fnExactRanksFamilyUptoRow.holds Try.pinned (OpenSpec.upto fnExactRanksFamilySpec)

/-- 'laws.FnSequences', WHERE WHAT IT READS IS OF BULK AT MOST 1048576: true; the input reads as it did. -/
def fnSequencesUptoRow : OpenClaim := { program := "ytmkpfllbmdahkaa", sum := "6c854c1413c7c4d6eb0e36b0853132b4e8ffc8349c7417eed970c0a7d23d61ec", func := "loop.example/g01117/laws.FnSequences", spec := "fnSequences", unfollowed := true, recurses := true, apart := false, narrowed := true }
def FnSequencesUptoSaid : Prop := fnSequencesUptoRow.holds Try.pinned (OpenSpec.upto fnSequencesSpec)

/-- 'laws.FnCutRanks', WHERE WHAT IT READS IS OF BULK AT MOST 1048576: true; the input reads as it did. -/
def fnCutRanksUptoRow : OpenClaim := { program := "ytmkpfllbmdahkaa", sum := "6c854c1413c7c4d6eb0e36b0853132b4e8ffc8349c7417eed970c0a7d23d61ec", func := "loop.example/g01117/laws.FnCutRanks", spec := "fnCutRanks", unfollowed := true, recurses := true, apart := false, narrowed := true }
def FnCutRanksUptoSaid : Prop := fnCutRanksUptoRow.holds Try.pinned (OpenSpec.upto fnCutRanksSpec)

end Rows
end Go.Proofs.Ytmkpfllbmdahkaa
