/-
  No cell of these rows narrows 'for every input' (looked for: loops, veiled, ifaces, maps, wideKeys, modest, calm, conditions, laid).
  DERIVED. THE GIVEN ROWS OF THIS SEAT. 4 by the template 'for every input the law returns true; each argument reads behind the call as it read before'; 0 by the template 'total and deterministic' (their statements: YtijmkfnmdhpakaaGreatTotals.lean).
  GIVEN WITH THE SEED: the statements are not yours to turn. If you find one false, say at which input.
  Laid BY PROGRAM, IN A SANDBOX (cutbox-rows.mjs): the forced cells as the released guide's own fill.sh prints them over the translation 55309e14b76af84f… (all of the seat's roots in one cut). By AI agents, Wed Nov 11 2026. No macro, syntax, notation, axiom, sorry.
-/
import Derived.Test.YtijmkfnmdhpakaaGreatChecked
import GoSem.Claim
import GoSem.ClaimJoined
import GoSem.ClaimMapViews
import Derived.JoinedTies
import Derived.KernelRfl
namespace Go.Proofs.YtijmkfnmdhpakaaGreat
/- THE CELL 'sum', in the pinned program and in every row, IS THE sha256 OF THE DUMP (.gsa) THAT YtijmkfnmdhpakaaGreatProg.lean LOADS. Nothing in Lean hashes anything: it is a label: what it is worth is what the hold of that sum in a sandbox is worth. -/
noncomputable def Tryz.pinned : Pinned := { name := "ytijmkfnmdhpakaagreat", sum := "55309e14b76af84ff1ea39ab79e0c2b9180b0610100d3b02867229c1a7120653", checked := Tryz.checked }
namespace Rows
def none {H : Type} : Left H := { results := [], args := [] }

/-- 'laws.FnExactNamedAfter': WHATEVER THE INPUT: true; the input reads as it did. -/
def fnExactNamedAfterSpec : ChangeSpec := { name := "fnExactNamedAfter", fn := fun _ => fun
  | [d1, d2] => { results := [.lit (.bool true)], args := [d1, d2] }
  | _ => none }
def fnExactNamedAfterRow : OpenClaim := { program := "ytijmkfnmdhpakaagreat", sum := "55309e14b76af84ff1ea39ab79e0c2b9180b0610100d3b02867229c1a7120653", func := "loop.example/g01117/laws.FnExactNamedAfter", spec := "fnExactNamedAfter", unfollowed := true, recurses := true, apart := false }
def FnExactNamedAfterSaid : Prop := fnExactNamedAfterRow.holds Tryz.pinned (OpenSpec.ofChange fnExactNamedAfterSpec)

/-- ITS FALSE NEIGHBOUR: 'it returns false'. Refute it at one input. -/
def fnExactNamedAfterWrong : ChangeSpec := { name := "fnExactNamedAfter", fn := fun _ => fun
  | [d1, d2] => { results := [.lit (.bool false)], args := [d1, d2] }
  | _ => none }
def FnExactNamedAfterWrongFalsely : Prop := fnExactNamedAfterRow.holds Tryz.pinned (OpenSpec.ofChange fnExactNamedAfterWrong)

/-- 'laws.FnExactGatherDeeds': WHATEVER THE INPUT: true; the input reads as it did. -/
def fnExactGatherDeedsSpec : ChangeSpec := { name := "fnExactGatherDeeds", fn := fun _ => fun
  | [d1, d2, d3] => { results := [.lit (.bool true)], args := [d1, d2, d3] }
  | _ => none }
def fnExactGatherDeedsRow : OpenClaim := { program := "ytijmkfnmdhpakaagreat", sum := "55309e14b76af84ff1ea39ab79e0c2b9180b0610100d3b02867229c1a7120653", func := "loop.example/g01117/laws.FnExactGatherDeeds", spec := "fnExactGatherDeeds", unfollowed := true, recurses := true, apart := false }
def FnExactGatherDeedsSaid : Prop := fnExactGatherDeedsRow.holds Tryz.pinned (OpenSpec.ofChange fnExactGatherDeedsSpec)

/-- ITS FALSE NEIGHBOUR: 'it returns false'. Refute it at one input. -/
def fnExactGatherDeedsWrong : ChangeSpec := { name := "fnExactGatherDeeds", fn := fun _ => fun
  | [d1, d2, d3] => { results := [.lit (.bool false)], args := [d1, d2, d3] }
  | _ => none }
def FnExactGatherDeedsWrongFalsely : Prop := fnExactGatherDeedsRow.holds Tryz.pinned (OpenSpec.ofChange fnExactGatherDeedsWrong)

/-- 'laws.FnExactCeremonyAfter': WHATEVER THE INPUT: true; the input reads as it did. -/
def fnExactCeremonyAfterSpec : ChangeSpec := { name := "fnExactCeremonyAfter", fn := fun _ => fun
  | [d1, d2] => { results := [.lit (.bool true)], args := [d1, d2] }
  | _ => none }
def fnExactCeremonyAfterRow : OpenClaim := { program := "ytijmkfnmdhpakaagreat", sum := "55309e14b76af84ff1ea39ab79e0c2b9180b0610100d3b02867229c1a7120653", func := "loop.example/g01117/laws.FnExactCeremonyAfter", spec := "fnExactCeremonyAfter", unfollowed := true, recurses := true, apart := false }
def FnExactCeremonyAfterSaid : Prop := fnExactCeremonyAfterRow.holds Tryz.pinned (OpenSpec.ofChange fnExactCeremonyAfterSpec)

/-- ITS FALSE NEIGHBOUR: 'it returns false'. Refute it at one input. -/
def fnExactCeremonyAfterWrong : ChangeSpec := { name := "fnExactCeremonyAfter", fn := fun _ => fun
  | [d1, d2] => { results := [.lit (.bool false)], args := [d1, d2] }
  | _ => none }
def FnExactCeremonyAfterWrongFalsely : Prop := fnExactCeremonyAfterRow.holds Tryz.pinned (OpenSpec.ofChange fnExactCeremonyAfterWrong)

/-- 'laws.FnExactOpenAfter': WHATEVER THE INPUT: true; the input reads as it did. -/
def fnExactOpenAfterSpec : ChangeSpec := { name := "fnExactOpenAfter", fn := fun _ => fun
  | [d1, d2] => { results := [.lit (.bool true)], args := [d1, d2] }
  | _ => none }
def fnExactOpenAfterRow : OpenClaim := { program := "ytijmkfnmdhpakaagreat", sum := "55309e14b76af84ff1ea39ab79e0c2b9180b0610100d3b02867229c1a7120653", func := "loop.example/g01117/laws.FnExactOpenAfter", spec := "fnExactOpenAfter", unfollowed := true, recurses := true, apart := false }
def FnExactOpenAfterSaid : Prop := fnExactOpenAfterRow.holds Tryz.pinned (OpenSpec.ofChange fnExactOpenAfterSpec)

/-- ITS FALSE NEIGHBOUR: 'it returns false'. Refute it at one input. -/
def fnExactOpenAfterWrong : ChangeSpec := { name := "fnExactOpenAfter", fn := fun _ => fun
  | [d1, d2] => { results := [.lit (.bool false)], args := [d1, d2] }
  | _ => none }
def FnExactOpenAfterWrongFalsely : Prop := fnExactOpenAfterRow.holds Tryz.pinned (OpenSpec.ofChange fnExactOpenAfterWrong)

/- THE SECOND FORM. 'bulk': how many values and letters a reading holds, each counted each time it is reached (what is shared counts as often as it is met; a slice's spare places count too). A statement '..UptoSaid' is the law's where the arguments, and the package variables that the reading takes, are together of bulk at most 1048576: NARROWER than '..Said'. Prove '..Said' where nothing that the law and all that it calls make is longer than what came in: it says more and counts as full. Else prove '..UptoSaid'. A law counts once. -/
mutual
def uptoBulk {H : Type} : DataW H → Nat
  | .lit (.string bytes) => bytes.length + 1
  | .lit _ => 1
  | .nil => 1
  | .ptr d => uptoBulk d + 1
  | .slice elems spare => uptoBulkAll elems + uptoBulkAll spare + 1
  | .agg parts => uptoBulkAll parts + 1
  | .iface _ d => uptoBulk d + 1
  | .map entries => uptoBulkEntries entries + 1
  | .held _ => 1
def uptoBulkAll {H : Type} : List (DataW H) → Nat
  | [] => 0
  | d :: r => uptoBulk d + uptoBulkAll r
def uptoBulkEntries {H : Type} : List (Lit × DataW H) → Nat
  | [] => 0
  | x :: r => uptoBulkEntry x + uptoBulkEntries r
def uptoBulkEntry {H : Type} : Lit × DataW H → Nat
  | (.string bytes, d) => bytes.length + uptoBulk d + 1
  | (_, d) => uptoBulk d + 1
 end
def uptoSmall : (H : Type) → List (DataW H) → Bool := fun _ ds => decide (uptoBulkAll ds ≤ 1048576)
def OpenSpec.upto (s : _root_.Go.ChangeSpec) : _root_.Go.OpenSpec := { _root_.Go.OpenSpec.ofChange s with cond := some uptoSmall }

/-- 'laws.FnExactNamedAfter', WHERE WHAT IT READS IS OF BULK AT MOST 1048576: true; the input reads as it did. -/
def fnExactNamedAfterUptoRow : OpenClaim := { program := "ytijmkfnmdhpakaagreat", sum := "55309e14b76af84ff1ea39ab79e0c2b9180b0610100d3b02867229c1a7120653", func := "loop.example/g01117/laws.FnExactNamedAfter", spec := "fnExactNamedAfter", unfollowed := true, recurses := true, apart := false, narrowed := true }
def FnExactNamedAfterUptoSaid : Prop := fnExactNamedAfterUptoRow.holds Tryz.pinned (OpenSpec.upto fnExactNamedAfterSpec)

/-- 'laws.FnExactGatherDeeds', WHERE WHAT IT READS IS OF BULK AT MOST 1048576: true; the input reads as it did. -/
def fnExactGatherDeedsUptoRow : OpenClaim := { program := "ytijmkfnmdhpakaagreat", sum := "55309e14b76af84ff1ea39ab79e0c2b9180b0610100d3b02867229c1a7120653", func := "loop.example/g01117/laws.FnExactGatherDeeds", spec := "fnExactGatherDeeds", unfollowed := true, recurses := true, apart := false, narrowed := true }
def FnExactGatherDeedsUptoSaid : Prop := fnExactGatherDeedsUptoRow.holds Tryz.pinned (OpenSpec.upto fnExactGatherDeedsSpec)

/-- 'laws.FnExactCeremonyAfter', WHERE WHAT IT READS IS OF BULK AT MOST 1048576: true; the input reads as it did. -/
def fnExactCeremonyAfterUptoRow : OpenClaim := { program := "ytijmkfnmdhpakaagreat", sum := "55309e14b76af84ff1ea39ab79e0c2b9180b0610100d3b02867229c1a7120653", func := "loop.example/g01117/laws.FnExactCeremonyAfter", spec := "fnExactCeremonyAfter", unfollowed := true, recurses := true, apart := false, narrowed := true }
def FnExactCeremonyAfterUptoSaid : Prop := fnExactCeremonyAfterUptoRow.holds Tryz.pinned (OpenSpec.upto fnExactCeremonyAfterSpec)

/-- 'laws.FnExactOpenAfter', WHERE WHAT IT READS IS OF BULK AT MOST 1048576: true; the input reads as it did. -/
def fnExactOpenAfterUptoRow : OpenClaim := { program := "ytijmkfnmdhpakaagreat", sum := "55309e14b76af84ff1ea39ab79e0c2b9180b0610100d3b02867229c1a7120653", func := "loop.example/g01117/laws.FnExactOpenAfter", spec := "fnExactOpenAfter", unfollowed := true, recurses := true, apart := false, narrowed := true }
def FnExactOpenAfterUptoSaid : Prop := fnExactOpenAfterUptoRow.holds Tryz.pinned (OpenSpec.upto fnExactOpenAfterSpec)

end Rows
end Go.Proofs.YtijmkfnmdhpakaaGreat
