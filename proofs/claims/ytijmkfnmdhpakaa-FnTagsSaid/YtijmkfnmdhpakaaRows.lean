/-
  No cell of these rows narrows 'for every input' (looked for: loops, veiled, ifaces, maps, wideKeys, modest, calm, conditions, laid).
  DERIVED. THE GIVEN ROWS OF THIS SEAT. 8 by the template 'for every input the law returns true; each argument reads behind the call as it read before'; 0 by the template 'total and deterministic' (their statements: YtijmkfnmdhpakaaTotals.lean).
  GIVEN WITH THE SEED: the statements are not yours to turn. If you find one false, say at which input.
  Laid BY PROGRAM, IN A SANDBOX (cutbox-rows.mjs): the forced cells as the released guide's own fill.sh prints them over the translation 5353d2c5665a99af… (all of the seat's roots in one cut). By AI agents, Wed Nov 11 2026. No macro, syntax, notation, axiom, sorry.
-/
import Derived.Test.YtijmkfnmdhpakaaChecked
import GoSem.Claim
import GoSem.ClaimJoined
import GoSem.ClaimMapViews
import Derived.JoinedTies
import Derived.KernelRfl
namespace Go.Proofs.Ytijmkfnmdhpakaa
/- THE CELL 'sum', in the pinned program and in every row, IS THE sha256 OF THE DUMP (.gsa) THAT YtijmkfnmdhpakaaProg.lean LOADS. Nothing in Lean hashes anything: it is a label: what it is worth is what the hold of that sum in a sandbox is worth. -/
noncomputable def Try.pinned : Pinned := { name := "ytijmkfnmdhpakaa", sum := "5353d2c5665a99afe713ffda40fdd4b3c006b43afec71aa44d5c576999e86558", checked := Try.checked }
namespace Rows
def none {H : Type} : Left H := { results := [], args := [] }

/-- 'laws.FnExactTermBound': WHATEVER THE INPUT: true; the input reads as it did. -/
def fnExactTermBoundSpec : ChangeSpec := { name := "fnExactTermBound", fn := fun _ => fun
  | [d1, d2] => { results := [.lit (.bool true)], args := [d1, d2] }
  | _ => none }
def fnExactTermBoundRow : OpenClaim := { program := "ytijmkfnmdhpakaa", sum := "5353d2c5665a99afe713ffda40fdd4b3c006b43afec71aa44d5c576999e86558", func := "loop.example/g01117/laws.FnExactTermBound", spec := "fnExactTermBound", unfollowed := true, recurses := true, apart := false }
def FnExactTermBoundSaid : Prop := fnExactTermBoundRow.holds Try.pinned (OpenSpec.ofChange fnExactTermBoundSpec)

/-- ITS FALSE NEIGHBOUR: 'it returns false'. Refute it at one input. -/
def fnExactTermBoundWrong : ChangeSpec := { name := "fnExactTermBound", fn := fun _ => fun
  | [d1, d2] => { results := [.lit (.bool false)], args := [d1, d2] }
  | _ => none }
def FnExactTermBoundWrongFalsely : Prop := fnExactTermBoundRow.holds Try.pinned (OpenSpec.ofChange fnExactTermBoundWrong)

/-- 'laws.FnExactIsPort': WHATEVER THE INPUT: true; the input reads as it did. -/
def fnExactIsPortSpec : ChangeSpec := { name := "fnExactIsPort", fn := fun _ => fun
  | [d] => { results := [.lit (.bool true)], args := [d] }
  | _ => none }
def fnExactIsPortRow : OpenClaim := { program := "ytijmkfnmdhpakaa", sum := "5353d2c5665a99afe713ffda40fdd4b3c006b43afec71aa44d5c576999e86558", func := "loop.example/g01117/laws.FnExactIsPort", spec := "fnExactIsPort", unfollowed := true, recurses := true, apart := false }
def FnExactIsPortSaid : Prop := fnExactIsPortRow.holds Try.pinned (OpenSpec.ofChange fnExactIsPortSpec)

/-- ITS FALSE NEIGHBOUR: 'it returns false'. Refute it at one input. -/
def fnExactIsPortWrong : ChangeSpec := { name := "fnExactIsPort", fn := fun _ => fun
  | [d] => { results := [.lit (.bool false)], args := [d] }
  | _ => none }
def FnExactIsPortWrongFalsely : Prop := fnExactIsPortRow.holds Try.pinned (OpenSpec.ofChange fnExactIsPortWrong)

/-- 'laws.FnExactCircuitsOf': WHATEVER THE INPUT: true; the input reads as it did. -/
def fnExactCircuitsOfSpec : ChangeSpec := { name := "fnExactCircuitsOf", fn := fun _ => fun
  | [d] => { results := [.lit (.bool true)], args := [d] }
  | _ => none }
def fnExactCircuitsOfRow : OpenClaim := { program := "ytijmkfnmdhpakaa", sum := "5353d2c5665a99afe713ffda40fdd4b3c006b43afec71aa44d5c576999e86558", func := "loop.example/g01117/laws.FnExactCircuitsOf", spec := "fnExactCircuitsOf", unfollowed := true, recurses := true, apart := false }
def FnExactCircuitsOfSaid : Prop := fnExactCircuitsOfRow.holds Try.pinned (OpenSpec.ofChange fnExactCircuitsOfSpec)

/-- ITS FALSE NEIGHBOUR: 'it returns false'. Refute it at one input. -/
def fnExactCircuitsOfWrong : ChangeSpec := { name := "fnExactCircuitsOf", fn := fun _ => fun
  | [d] => { results := [.lit (.bool false)], args := [d] }
  | _ => none }
def FnExactCircuitsOfWrongFalsely : Prop := fnExactCircuitsOfRow.holds Try.pinned (OpenSpec.ofChange fnExactCircuitsOfWrong)

/-- 'laws.FnExactPortRanks': WHATEVER THE INPUT: true; the input reads as it did. -/
def fnExactPortRanksSpec : ChangeSpec := { name := "fnExactPortRanks", fn := fun _ => fun
  | [d] => { results := [.lit (.bool true)], args := [d] }
  | _ => none }
def fnExactPortRanksRow : OpenClaim := { program := "ytijmkfnmdhpakaa", sum := "5353d2c5665a99afe713ffda40fdd4b3c006b43afec71aa44d5c576999e86558", func := "loop.example/g01117/laws.FnExactPortRanks", spec := "fnExactPortRanks", unfollowed := true, recurses := true, apart := false }
def FnExactPortRanksSaid : Prop := fnExactPortRanksRow.holds Try.pinned (OpenSpec.ofChange fnExactPortRanksSpec)

/-- ITS FALSE NEIGHBOUR: 'it returns false'. Refute it at one input. -/
def fnExactPortRanksWrong : ChangeSpec := { name := "fnExactPortRanks", fn := fun _ => fun
  | [d] => { results := [.lit (.bool false)], args := [d] }
  | _ => none }
def FnExactPortRanksWrongFalsely : Prop := fnExactPortRanksRow.holds Try.pinned (OpenSpec.ofChange fnExactPortRanksWrong)

/-- 'laws.FnExactRefusedDeed': WHATEVER THE INPUT: true; the input reads as it did. -/
def fnExactRefusedDeedSpec : ChangeSpec := { name := "fnExactRefusedDeed", fn := fun _ => fun
  | [d1, d2] => { results := [.lit (.bool true)], args := [d1, d2] }
  | _ => none }
def fnExactRefusedDeedRow : OpenClaim := { program := "ytijmkfnmdhpakaa", sum := "5353d2c5665a99afe713ffda40fdd4b3c006b43afec71aa44d5c576999e86558", func := "loop.example/g01117/laws.FnExactRefusedDeed", spec := "fnExactRefusedDeed", unfollowed := true, recurses := true, apart := false }
def FnExactRefusedDeedSaid : Prop := fnExactRefusedDeedRow.holds Try.pinned (OpenSpec.ofChange fnExactRefusedDeedSpec)

/-- ITS FALSE NEIGHBOUR: 'it returns false'. Refute it at one input. -/
def fnExactRefusedDeedWrong : ChangeSpec := { name := "fnExactRefusedDeed", fn := fun _ => fun
  | [d1, d2] => { results := [.lit (.bool false)], args := [d1, d2] }
  | _ => none }
def FnExactRefusedDeedWrongFalsely : Prop := fnExactRefusedDeedRow.holds Try.pinned (OpenSpec.ofChange fnExactRefusedDeedWrong)

/-- 'laws.FnTags': WHATEVER THE INPUT: true; the input reads as it did. -/
def fnTagsSpec : ChangeSpec := { name := "fnTags", fn := fun _ => fun
  | [d1, d2] => { results := [.lit (.bool true)], args := [d1, d2] }
  | _ => none }
def fnTagsRow : OpenClaim := { program := "ytijmkfnmdhpakaa", sum := "5353d2c5665a99afe713ffda40fdd4b3c006b43afec71aa44d5c576999e86558", func := "loop.example/g01117/laws.FnTags", spec := "fnTags", unfollowed := true, recurses := true, apart := false }
def FnTagsSaid : Prop := fnTagsRow.holds Try.pinned (OpenSpec.ofChange fnTagsSpec)

/-- ITS FALSE NEIGHBOUR: 'it returns false'. Refute it at one input. -/
def fnTagsWrong : ChangeSpec := { name := "fnTags", fn := fun _ => fun
  | [d1, d2] => { results := [.lit (.bool false)], args := [d1, d2] }
  | _ => none }
def FnTagsWrongFalsely : Prop := fnTagsRow.holds Try.pinned (OpenSpec.ofChange fnTagsWrong)

/-- 'laws.FnSequences': WHATEVER THE INPUT: true; the input reads as it did. -/
def fnSequencesSpec : ChangeSpec := { name := "fnSequences", fn := fun _ => fun
  | [d1, d2] => { results := [.lit (.bool true)], args := [d1, d2] }
  | _ => none }
def fnSequencesRow : OpenClaim := { program := "ytijmkfnmdhpakaa", sum := "5353d2c5665a99afe713ffda40fdd4b3c006b43afec71aa44d5c576999e86558", func := "loop.example/g01117/laws.FnSequences", spec := "fnSequences", unfollowed := true, recurses := true, apart := false }
def FnSequencesSaid : Prop := fnSequencesRow.holds Try.pinned (OpenSpec.ofChange fnSequencesSpec)

/-- ITS FALSE NEIGHBOUR: 'it returns false'. Refute it at one input. -/
def fnSequencesWrong : ChangeSpec := { name := "fnSequences", fn := fun _ => fun
  | [d1, d2] => { results := [.lit (.bool false)], args := [d1, d2] }
  | _ => none }
def FnSequencesWrongFalsely : Prop := fnSequencesRow.holds Try.pinned (OpenSpec.ofChange fnSequencesWrong)

/-- 'laws.FnThresholdPorts': WHATEVER THE INPUT: true; the input reads as it did. -/
def fnThresholdPortsSpec : ChangeSpec := { name := "fnThresholdPorts", fn := fun _ => fun
  | [d] => { results := [.lit (.bool true)], args := [d] }
  | _ => none }
def fnThresholdPortsRow : OpenClaim := { program := "ytijmkfnmdhpakaa", sum := "5353d2c5665a99afe713ffda40fdd4b3c006b43afec71aa44d5c576999e86558", func := "loop.example/g01117/laws.FnThresholdPorts", spec := "fnThresholdPorts", unfollowed := true, recurses := true, apart := false }
def FnThresholdPortsSaid : Prop := fnThresholdPortsRow.holds Try.pinned (OpenSpec.ofChange fnThresholdPortsSpec)

/-- ITS FALSE NEIGHBOUR: 'it returns false'. Refute it at one input. -/
def fnThresholdPortsWrong : ChangeSpec := { name := "fnThresholdPorts", fn := fun _ => fun
  | [d] => { results := [.lit (.bool false)], args := [d] }
  | _ => none }
def FnThresholdPortsWrongFalsely : Prop := fnThresholdPortsRow.holds Try.pinned (OpenSpec.ofChange fnThresholdPortsWrong)

/- THE SECOND FORM. 'bulk': how many values and letters a reading holds, each counted each time it is reached (what is shared counts as often as it is met; a slice's spare places count too). A statement '..UptoSaid' is the law's where the arguments, and the package variables that the reading takes, are together of bulk at most 1048576: NARROWER than '..Said'. Prove '..Said' where nothing that the law and all that it calls make is longer than what came in: it says more and counts as full. Else prove '..UptoSaid'. A law counts once. -/
mutual
def uptoBulk {H : Type} : DataW H → Nat
  | .lit (.string bytes) => bytes.length + 1
  | .lit _ => 1
  | .nil => 1
  | .ptr d => uptoBulk d + 1
  | .slice elems spare => uptoBulkAll elems + uptoBulkAll spare + 1
  | .agg parts => uptoBulkAll parts + 1
  | .iface _ d => uptoBulk d + 1
  | .map entries => uptoBulkEntries entries + 1
  | .held _ => 1
def uptoBulkAll {H : Type} : List (DataW H) → Nat
  | [] => 0
  | d :: r => uptoBulk d + uptoBulkAll r
def uptoBulkEntries {H : Type} : List (Lit × DataW H) → Nat
  | [] => 0
  | x :: r => uptoBulkEntry x + uptoBulkEntries r
def uptoBulkEntry {H : Type} : Lit × DataW H → Nat
  | (.string bytes, d) => bytes.length + uptoBulk d + 1
  | (_, d) => uptoBulk d + 1
 end
def uptoSmall : (H : Type) → List (DataW H) → Bool := fun _ ds => decide (uptoBulkAll ds ≤ 1048576)
def OpenSpec.upto (s : _root_.Go.ChangeSpec) : _root_.Go.OpenSpec := { _root_.Go.OpenSpec.ofChange s with cond := some uptoSmall }

/-- 'laws.FnExactTermBound', WHERE WHAT IT READS IS OF BULK AT MOST 1048576: true; the input reads as it did. -/
def fnExactTermBoundUptoRow : OpenClaim := { program := "ytijmkfnmdhpakaa", sum := "5353d2c5665a99afe713ffda40fdd4b3c006b43afec71aa44d5c576999e86558", func := "loop.example/g01117/laws.FnExactTermBound", spec := "fnExactTermBound", unfollowed := true, recurses := true, apart := false, narrowed := true }
def FnExactTermBoundUptoSaid : Prop := fnExactTermBoundUptoRow.holds Try.pinned (OpenSpec.upto fnExactTermBoundSpec)

/-- 'laws.FnExactIsPort', WHERE WHAT IT READS IS OF BULK AT MOST 1048576: true; the input reads as it did. -/
def fnExactIsPortUptoRow : OpenClaim := { program := "ytijmkfnmdhpakaa", sum := "5353d2c5665a99afe713ffda40fdd4b3c006b43afec71aa44d5c576999e86558", func := "loop.example/g01117/laws.FnExactIsPort", spec := "fnExactIsPort", unfollowed := true, recurses := true, apart := false, narrowed := true }
def FnExactIsPortUptoSaid : Prop := fnExactIsPortUptoRow.holds Try.pinned (OpenSpec.upto fnExactIsPortSpec)

/-- 'laws.FnExactCircuitsOf', WHERE WHAT IT READS IS OF BULK AT MOST 1048576: true; the input reads as it did. -/
def fnExactCircuitsOfUptoRow : OpenClaim := { program := "ytijmkfnmdhpakaa", sum := "5353d2c5665a99afe713ffda40fdd4b3c006b43afec71aa44d5c576999e86558", func := "loop.example/g01117/laws.FnExactCircuitsOf", spec := "fnExactCircuitsOf", unfollowed := true, recurses := true, apart := false, narrowed := true }
def FnExactCircuitsOfUptoSaid : Prop := fnExactCircuitsOfUptoRow.holds Try.pinned (OpenSpec.upto fnExactCircuitsOfSpec)

/-- 'laws.FnExactPortRanks', WHERE WHAT IT READS IS OF BULK AT MOST 1048576: true; the input reads as it did. -/
def fnExactPortRanksUptoRow : OpenClaim := { program := "ytijmkfnmdhpakaa", sum := "5353d2c5665a99afe713ffda40fdd4b3c006b43afec71aa44d5c576999e86558", func := "loop.example/g01117/laws.FnExactPortRanks", spec := "fnExactPortRanks", unfollowed := true, recurses := true, apart := false, narrowed := true }
def FnExactPortRanksUptoSaid : Prop := fnExactPortRanksUptoRow.holds Try.pinned (OpenSpec.upto fnExactPortRanksSpec)

/-- 'laws.FnExactRefusedDeed', WHERE WHAT IT READS IS OF BULK AT MOST 1048576: true; the input reads as it did. -/
def fnExactRefusedDeedUptoRow : OpenClaim := { program := "ytijmkfnmdhpakaa", sum := "5353d2c5665a99afe713ffda40fdd4b3c006b43afec71aa44d5c576999e86558", func := "loop.example/g01117/laws.FnExactRefusedDeed", spec := "fnExactRefusedDeed", unfollowed := true, recurses := true, apart := false, narrowed := true }
def FnExactRefusedDeedUptoSaid : Prop := fnExactRefusedDeedUptoRow.holds Try.pinned (OpenSpec.upto fnExactRefusedDeedSpec)

/-- 'laws.FnTags', WHERE WHAT IT READS IS OF BULK AT MOST 1048576: true; the input reads as it did. -/
def fnTagsUptoRow : OpenClaim := { program := "ytijmkfnmdhpakaa", sum := "5353d2c5665a99afe713ffda40fdd4b3c006b43afec71aa44d5c576999e86558", func := "loop.example/g01117/laws.FnTags", spec := "fnTags", unfollowed := true, recurses := true, apart := false, narrowed := true }
def FnTagsUptoSaid : Prop := fnTagsUptoRow.holds Try.pinned (OpenSpec.upto fnTagsSpec)

/-- 'laws.FnSequences', WHERE WHAT IT READS IS OF BULK AT MOST 1048576: true; the input reads as it did. -/
def fnSequencesUptoRow : OpenClaim := { program := "ytijmkfnmdhpakaa", sum := "5353d2c5665a99afe713ffda40fdd4b3c006b43afec71aa44d5c576999e86558", func := "loop.example/g01117/laws.FnSequences", spec := "fnSequences", unfollowed := true, recurses := true, apart := false, narrowed := true }
def FnSequencesUptoSaid : Prop := fnSequencesUptoRow.holds Try.pinned (OpenSpec.upto fnSequencesSpec)

/-- 'laws.FnThresholdPorts', WHERE WHAT IT READS IS OF BULK AT MOST 1048576: true; the input reads as it did. -/
def fnThresholdPortsUptoRow : OpenClaim := { program := "ytijmkfnmdhpakaa", sum := "5353d2c5665a99afe713ffda40fdd4b3c006b43afec71aa44d5c576999e86558", func := "loop.example/g01117/laws.FnThresholdPorts", spec := "fnThresholdPorts", unfollowed := true, recurses := true, apart := false, narrowed := true }
def FnThresholdPortsUptoSaid : Prop := fnThresholdPortsUptoRow.holds Try.pinned (OpenSpec.upto fnThresholdPortsSpec)

end Rows
end Go.Proofs.Ytijmkfnmdhpakaa
