/-
  No cell of these rows narrows 'for every input' (looked for: loops, veiled, ifaces, maps, wideKeys, modest, calm, conditions, laid).
  DERIVED. THE GIVEN ROWS OF THIS SEAT. 4 by the template 'for every input the law returns true; each argument reads behind the call as it read before'; 0 by the template 'total and deterministic' (their statements: YtlapbbffoapleaaGreatTotals.lean).
  GIVEN WITH THE SEED: the statements are not yours to turn. If you find one false, say at which input.
  Laid BY PROGRAM, IN A SANDBOX (cutbox-rows.mjs): the forced cells as the released guide's own fill.sh prints them over the translation 8f814c43d289042b… (all of the seat's roots in one cut). By AI agents, Wed Nov 11 2026. No macro, syntax, notation, axiom, sorry.
-/
import Derived.Test.YtlapbbffoapleaaGreatChecked
import GoSem.Claim
import GoSem.ClaimJoined
import GoSem.ClaimMapViews
import Derived.JoinedTies
import Derived.KernelRfl
namespace Go.Proofs.YtlapbbffoapleaaGreat
/- THE CELL 'sum', in the pinned program and in every row, IS THE sha256 OF THE DUMP (.gsa) THAT YtlapbbffoapleaaGreatProg.lean LOADS. Nothing in Lean hashes anything: it is a label: what it is worth is what the hold of that sum in a sandbox is worth. -/
noncomputable def Tryz.pinned : Pinned := { name := "ytlapbbffoapleaagreat", sum := "8f814c43d289042b220062ba5dc0eb169162eac8740009c8a0d0aecfb20ebfa9", checked := Tryz.checked }
namespace Rows
def none {H : Type} : Left H := { results := [], args := [] }

/-- 'laws.FnGather': WHATEVER THE INPUT: true; the input reads as it did. -/
def fnGatherSpec : ChangeSpec := { name := "fnGather", fn := fun _ => fun
  | [d1, d2] => { results := [.lit (.bool true)], args := [d1, d2] }
  | _ => none }
def fnGatherRow : OpenClaim := { program := "ytlapbbffoapleaagreat", sum := "8f814c43d289042b220062ba5dc0eb169162eac8740009c8a0d0aecfb20ebfa9", func := "loop.example/g01117/laws.FnGather", spec := "fnGather", unfollowed := true, recurses := true, apart := false }
def FnGatherSaid : Prop := fnGatherRow.holds Tryz.pinned (OpenSpec.ofChange fnGatherSpec)

/-- ITS FALSE NEIGHBOUR: 'it returns false'. Refute it at one input. -/
def fnGatherWrong : ChangeSpec := { name := "fnGather", fn := fun _ => fun
  | [d1, d2] => { results := [.lit (.bool false)], args := [d1, d2] }
  | _ => none }
def FnGatherWrongFalsely : Prop := fnGatherRow.holds Tryz.pinned (OpenSpec.ofChange fnGatherWrong)

/-- 'laws.FnSchemeRanks': WHATEVER THE INPUT: true; the input reads as it did. -/
def fnSchemeRanksSpec : ChangeSpec := { name := "fnSchemeRanks", fn := fun _ => fun
  | [d1, d2] => { results := [.lit (.bool true)], args := [d1, d2] }
  | _ => none }
def fnSchemeRanksRow : OpenClaim := { program := "ytlapbbffoapleaagreat", sum := "8f814c43d289042b220062ba5dc0eb169162eac8740009c8a0d0aecfb20ebfa9", func := "loop.example/g01117/laws.FnSchemeRanks", spec := "fnSchemeRanks", unfollowed := true, recurses := true, apart := false }
def FnSchemeRanksSaid : Prop := fnSchemeRanksRow.holds Tryz.pinned (OpenSpec.ofChange fnSchemeRanksSpec)

/-- ITS FALSE NEIGHBOUR: 'it returns false'. Refute it at one input. -/
def fnSchemeRanksWrong : ChangeSpec := { name := "fnSchemeRanks", fn := fun _ => fun
  | [d1, d2] => { results := [.lit (.bool false)], args := [d1, d2] }
  | _ => none }
def FnSchemeRanksWrongFalsely : Prop := fnSchemeRanksRow.holds Tryz.pinned (OpenSpec.ofChange fnSchemeRanksWrong)

/-- 'laws.FnTop': WHATEVER THE INPUT: true; the input reads as it did. -/
def fnTopSpec : ChangeSpec := { name := "fnTop", fn := fun _ => fun
  | [d1, d2] => { results := [.lit (.bool true)], args := [d1, d2] }
  | _ => none }
def fnTopRow : OpenClaim := { program := "ytlapbbffoapleaagreat", sum := "8f814c43d289042b220062ba5dc0eb169162eac8740009c8a0d0aecfb20ebfa9", func := "loop.example/g01117/laws.FnTop", spec := "fnTop", unfollowed := true, recurses := true, apart := false }
def FnTopSaid : Prop := fnTopRow.holds Tryz.pinned (OpenSpec.ofChange fnTopSpec)

/-- ITS FALSE NEIGHBOUR: 'it returns false'. Refute it at one input. -/
def fnTopWrong : ChangeSpec := { name := "fnTop", fn := fun _ => fun
  | [d1, d2] => { results := [.lit (.bool false)], args := [d1, d2] }
  | _ => none }
def FnTopWrongFalsely : Prop := fnTopRow.holds Tryz.pinned (OpenSpec.ofChange fnTopWrong)

/-- 'laws.FnCeremony': WHATEVER THE INPUT: true; the input reads as it did. -/
def fnCeremonySpec : ChangeSpec := { name := "fnCeremony", fn := fun _ => fun
  | [d1, d2] => { results := [.lit (.bool true)], args := [d1, d2] }
  | _ => none }
def fnCeremonyRow : OpenClaim := { program := "ytlapbbffoapleaagreat", sum := "8f814c43d289042b220062ba5dc0eb169162eac8740009c8a0d0aecfb20ebfa9", func := "loop.example/g01117/laws.FnCeremony", spec := "fnCeremony", unfollowed := true, recurses := true, apart := false }
def FnCeremonySaid : Prop := fnCeremonyRow.holds Tryz.pinned (OpenSpec.ofChange fnCeremonySpec)

/-- ITS FALSE NEIGHBOUR: 'it returns false'. Refute it at one input. -/
def fnCeremonyWrong : ChangeSpec := { name := "fnCeremony", fn := fun _ => fun
  | [d1, d2] => { results := [.lit (.bool false)], args := [d1, d2] }
  | _ => none }
def FnCeremonyWrongFalsely : Prop := fnCeremonyRow.holds Tryz.pinned (OpenSpec.ofChange fnCeremonyWrong)

/- THE SECOND FORM. 'bulk': how many values and letters a reading holds, each counted each time it is reached (what is shared counts as often as it is met; a slice's spare places count too). A statement '..UptoSaid' is the law's where the arguments, and the package variables that the reading takes, are together of bulk at most 1048576: NARROWER than '..Said'. Prove '..Said' where nothing that the law and all that it calls make is longer than what came in: it says more and counts as full. Else prove '..UptoSaid'. A law counts once. -/
mutual
def uptoBulk {H : Type} : DataW H → Nat
  | .lit (.string bytes) => bytes.length + 1
  | .lit _ => 1
  | .nil => 1
  | .ptr d => uptoBulk d + 1
  | .slice elems spare => uptoBulkAll elems + uptoBulkAll spare + 1
  | .agg parts => uptoBulkAll parts + 1
  | .iface _ d => uptoBulk d + 1
  | .map entries => uptoBulkEntries entries + 1
  | .held _ => 1
def uptoBulkAll {H : Type} : List (DataW H) → Nat
  | [] => 0
  | d :: r => uptoBulk d + uptoBulkAll r
def uptoBulkEntries {H : Type} : List (Lit × DataW H) → Nat
  | [] => 0
  | x :: r => uptoBulkEntry x + uptoBulkEntries r
def uptoBulkEntry {H : Type} : Lit × DataW H → Nat
  | (.string bytes, d) => bytes.length + uptoBulk d + 1
  | (_, d) => uptoBulk d + 1
 end
def uptoSmall : (H : Type) → List (DataW H) → Bool := fun _ ds => decide (uptoBulkAll ds ≤ 1048576)
def OpenSpec.upto (s : _root_.Go.ChangeSpec) : _root_.Go.OpenSpec := { _root_.Go.OpenSpec.ofChange s with cond := some uptoSmall }

/-- 'laws.FnGather', WHERE WHAT IT READS IS OF BULK AT MOST 1048576: true; the input reads as it did. -/
def fnGatherUptoRow : OpenClaim := { program := "ytlapbbffoapleaagreat", sum := "8f814c43d289042b220062ba5dc0eb169162eac8740009c8a0d0aecfb20ebfa9", func := "loop.example/g01117/laws.FnGather", spec := "fnGather", unfollowed := true, recurses := true, apart := false, narrowed := true }
def FnGatherUptoSaid : Prop := fnGatherUptoRow.holds Tryz.pinned (OpenSpec.upto fnGatherSpec)

/-- 'laws.FnSchemeRanks', WHERE WHAT IT READS IS OF BULK AT MOST 1048576: true; the input reads as it did. -/
def fnSchemeRanksUptoRow : OpenClaim := { program := "ytlapbbffoapleaagreat", sum := "8f814c43d289042b220062ba5dc0eb169162eac8740009c8a0d0aecfb20ebfa9", func := "loop.example/g01117/laws.FnSchemeRanks", spec := "fnSchemeRanks", unfollowed := true, recurses := true, apart := false, narrowed := true }
def FnSchemeRanksUptoSaid : Prop := fnSchemeRanksUptoRow.holds Tryz.pinned (OpenSpec.upto fnSchemeRanksSpec)

/-- 'laws.FnTop', WHERE WHAT IT READS IS OF BULK AT MOST 1048576: true; the input reads as it did. -/
def fnTopUptoRow : OpenClaim := { program := "ytlapbbffoapleaagreat", sum := "8f814c43d289042b220062ba5dc0eb169162eac8740009c8a0d0aecfb20ebfa9", func := "loop.example/g01117/laws.FnTop", spec := "fnTop", unfollowed := true, recurses := true, apart := false, narrowed := true }
def FnTopUptoSaid : Prop := fnTopUptoRow.holds Tryz.pinned (OpenSpec.upto fnTopSpec)

/-- 'laws.FnCeremony', WHERE WHAT IT READS IS OF BULK AT MOST 1048576: true; the input reads as it did. -/
def fnCeremonyUptoRow : OpenClaim := { program := "ytlapbbffoapleaagreat", sum := "8f814c43d289042b220062ba5dc0eb169162eac8740009c8a0d0aecfb20ebfa9", func := "loop.example/g01117/laws.FnCeremony", spec := "fnCeremony", unfollowed := true, recurses := true, apart := false, narrowed := true }
def FnCeremonyUptoSaid : Prop := fnCeremonyUptoRow.holds Tryz.pinned (OpenSpec.upto fnCeremonySpec)

end Rows
end Go.Proofs.YtlapbbffoapleaaGreat
