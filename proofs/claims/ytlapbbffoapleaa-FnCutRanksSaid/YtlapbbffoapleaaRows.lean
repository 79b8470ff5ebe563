/-
  No cell of these rows narrows 'for every input' (looked for: loops, veiled, ifaces, maps, wideKeys, modest, calm, conditions, laid).
  DERIVED. THE GIVEN ROWS OF THIS SEAT. 6 by the template 'for every input the law returns true; each argument reads behind the call as it read before'; 0 by the template 'total and deterministic' (their statements: YtlapbbffoapleaaTotals.lean).
  GIVEN WITH THE SEED: the statements are not yours to turn. If you find one false, say at which input.
  Laid BY PROGRAM, IN A SANDBOX (cutbox-rows.mjs): the forced cells as the released guide's own fill.sh prints them over the translation 6db9e8770527a961… (all of the seat's roots in one cut). By AI agents, Wed Nov 11 2026. No macro, syntax, notation, axiom, sorry.
-/
import Derived.Test.YtlapbbffoapleaaChecked
import GoSem.Claim
import GoSem.ClaimJoined
import GoSem.ClaimMapViews
import Derived.JoinedTies
import Derived.KernelRfl
namespace Go.Proofs.Ytlapbbffoapleaa
/- THE CELL 'sum', in the pinned program and in every row, IS THE sha256 OF THE DUMP (.gsa) THAT YtlapbbffoapleaaProg.lean LOADS. Nothing in Lean hashes anything: it is a label: what it is worth is what the hold of that sum in a sandbox is worth. -/
noncomputable def Try.pinned : Pinned := { name := "ytlapbbffoapleaa", sum := "6db9e8770527a961c909ff29c89d5c9f15dcf32ea901e8fe2aa786ce15c760e4", checked := Try.checked }
namespace Rows
def none {H : Type} : Left H := { results := [], args := [] }

/-- 'laws.FnInverse': WHATEVER THE INPUT: true; the input reads as it did. -/
def fnInverseSpec : ChangeSpec := { name := "fnInverse", fn := fun _ => fun
  | [d1, d2] => { results := [.lit (.bool true)], args := [d1, d2] }
  | _ => none }
def fnInverseRow : OpenClaim := { program := "ytlapbbffoapleaa", sum := "6db9e8770527a961c909ff29c89d5c9f15dcf32ea901e8fe2aa786ce15c760e4", func := "loop.example/g01117/laws.FnInverse", spec := "fnInverse", unfollowed := true, recurses := true, apart := false }
def FnInverseSaid : Prop := fnInverseRow.holds Try.pinned (OpenSpec.ofChange fnInverseSpec)

/-- ITS FALSE NEIGHBOUR: 'it returns false'. Refute it at one input. -/
def fnInverseWrong : ChangeSpec := { name := "fnInverse", fn := fun _ => fun
  | [d1, d2] => { results := [.lit (.bool false)], args := [d1, d2] }
  | _ => none }
def FnInverseWrongFalsely : Prop := fnInverseRow.holds Try.pinned (OpenSpec.ofChange fnInverseWrong)

/-- 'laws.FnCasesAlike': WHATEVER THE INPUT: true; the input reads as it did. -/
def fnCasesAlikeSpec : ChangeSpec := { name := "fnCasesAlike", fn := fun _ => fun
  | [d1, d2] => { results := [.lit (.bool true)], args := [d1, d2] }
  | _ => none }
def fnCasesAlikeRow : OpenClaim := { program := "ytlapbbffoapleaa", sum := "6db9e8770527a961c909ff29c89d5c9f15dcf32ea901e8fe2aa786ce15c760e4", func := "loop.example/g01117/laws.FnCasesAlike", spec := "fnCasesAlike", unfollowed := true, recurses := true, apart := false }
def FnCasesAlikeSaid : Prop := fnCasesAlikeRow.holds Try.pinned (OpenSpec.ofChange fnCasesAlikeSpec)

/-- ITS FALSE NEIGHBOUR: 'it returns false'. Refute it at one input. -/
def fnCasesAlikeWrong : ChangeSpec := { name := "fnCasesAlike", fn := fun _ => fun
  | [d1, d2] => { results := [.lit (.bool false)], args := [d1, d2] }
  | _ => none }
def FnCasesAlikeWrongFalsely : Prop := fnCasesAlikeRow.holds Try.pinned (OpenSpec.ofChange fnCasesAlikeWrong)

/-- 'laws.FnSeatCrash': WHATEVER THE INPUT: true; the input reads as it did. -/
def fnSeatCrashSpec : ChangeSpec := { name := "fnSeatCrash", fn := fun _ => fun
  | [d1, d2] => { results := [.lit (.bool true)], args := [d1, d2] }
  | _ => none }
def fnSeatCrashRow : OpenClaim := { program := "ytlapbbffoapleaa", sum := "6db9e8770527a961c909ff29c89d5c9f15dcf32ea901e8fe2aa786ce15c760e4", func := "loop.example/g01117/laws.FnSeatCrash", spec := "fnSeatCrash", unfollowed := true, recurses := true, apart := false }
def FnSeatCrashSaid : Prop := fnSeatCrashRow.holds Try.pinned (OpenSpec.ofChange fnSeatCrashSpec)

/-- ITS FALSE NEIGHBOUR: 'it returns false'. Refute it at one input. -/
def fnSeatCrashWrong : ChangeSpec := { name := "fnSeatCrash", fn := fun _ => fun
  | [d1, d2] => { results := [.lit (.bool false)], args := [d1, d2] }
  | _ => none }
def FnSeatCrashWrongFalsely : Prop := fnSeatCrashRow.holds Try.pinned (OpenSpec.ofChange fnSeatCrashWrong)

/-- 'laws.FnPackets': WHATEVER THE INPUT: true; the input reads as it did. -/
def fnPacketsSpec : ChangeSpec := { name := "fnPackets", fn := fun _ => fun
  | [d1, d2] => { results := [.lit (.bool true)], args := [d1, d2] }
  | _ => none }
def fnPacketsRow : OpenClaim := { program := "ytlapbbffoapleaa", sum := "6db9e8770527a961c909ff29c89d5c9f15dcf32ea901e8fe2aa786ce15c760e4", func := "loop.example/g01117/laws.FnPackets", spec := "fnPackets", unfollowed := true, recurses := true, apart := false }
def FnPacketsSaid : Prop := fnPacketsRow.holds Try.pinned (OpenSpec.ofChange fnPacketsSpec)

/-- ITS FALSE NEIGHBOUR: 'it returns false'. Refute it at one input. -/
def fnPacketsWrong : ChangeSpec := { name := "fnPackets", fn := fun _ => fun
  | [d1, d2] => { results := [.lit (.bool false)], args := [d1, d2] }
  | _ => none }
def FnPacketsWrongFalsely : Prop := fnPacketsRow.holds Try.pinned (OpenSpec.ofChange fnPacketsWrong)

/-- 'laws.FnTerms': WHATEVER THE INPUT: true; the input reads as it did. -/
def fnTermsSpec : ChangeSpec := { name := "fnTerms", fn := fun _ => fun
  | [d1, d2] => { results := [.lit (.bool true)], args := [d1, d2] }
  | _ => none }
def fnTermsRow : OpenClaim := { program := "ytlapbbffoapleaa", sum := "6db9e8770527a961c909ff29c89d5c9f15dcf32ea901e8fe2aa786ce15c760e4", func := "loop.example/g01117/laws.FnTerms", spec := "fnTerms", unfollowed := true, recurses := true, apart := false }
def FnTermsSaid : Prop := fnTermsRow.holds Try.pinned (OpenSpec.ofChange fnTermsSpec)

/-- ITS FALSE NEIGHBOUR: 'it returns false'. Refute it at one input. -/
def fnTermsWrong : ChangeSpec := { name := "fnTerms", fn := fun _ => fun
  | [d1, d2] => { results := [.lit (.bool false)], args := [d1, d2] }
  | _ => none }
def FnTermsWrongFalsely : Prop := fnTermsRow.holds Try.pinned (OpenSpec.ofChange fnTermsWrong)

/-- 'laws.FnCutRanks': WHATEVER THE INPUT: true; the input reads as it did. -/
def fnCutRanksSpec : ChangeSpec := { name := "fnCutRanks", fn := fun _ => fun
  | [d1, d2] => { results := [.lit (.bool true)], args := [d1, d2] }
  | _ => none }
def fnCutRanksRow : OpenClaim := { program := "ytlapbbffoapleaa", sum := "6db9e8770527a961c909ff29c89d5c9f15dcf32ea901e8fe2aa786ce15c760e4", func := "loop.example/g01117/laws.FnCutRanks", spec := "fnCutRanks", unfollowed := true, recurses := true, apart := false }
def FnCutRanksSaid : Prop := fnCutRanksRow.holds Try.pinned (OpenSpec.ofChange fnCutRanksSpec)

/-- ITS FALSE NEIGHBOUR: 'it returns false'. Refute it at one input. -/
def fnCutRanksWrong : ChangeSpec := { name := "fnCutRanks", fn := fun _ => fun
  | [d1, d2] => { results := [.lit (.bool false)], args := [d1, d2] }
  | _ => none }
def FnCutRanksWrongFalsely : Prop := fnCutRanksRow.holds Try.pinned (OpenSpec.ofChange fnCutRanksWrong)

/- THE SECOND FORM. 'bulk': how many values and letters a reading holds, each counted each time it is reached (what is shared counts as often as it is met; a slice's spare places count too). A statement '..UptoSaid' is the law's where the arguments, and the package variables that the reading takes, are together of bulk at most 1048576: NARROWER than '..Said'. Prove '..Said' where nothing that the law and all that it calls make is longer than what came in: it says more and counts as full. Else prove '..UptoSaid'. A law counts once. -/
mutual
def uptoBulk {H : Type} : DataW H → Nat
  | .lit (.string bytes) => bytes.length + 1
  | .lit _ => 1
  | .nil => 1
  | .ptr d => uptoBulk d + 1
  | .slice elems spare => uptoBulkAll elems + uptoBulkAll spare + 1
  | .agg parts => uptoBulkAll parts + 1
  | .iface _ d => uptoBulk d + 1
  | .map entries => uptoBulkEntries entries + 1
  | .held _ => 1
def uptoBulkAll {H : Type} : List (DataW H) → Nat
  | [] => 0
  | d :: r => uptoBulk d + uptoBulkAll r
def uptoBulkEntries {H : Type} : List (Lit × DataW H) → Nat
  | [] => 0
  | x :: r => uptoBulkEntry x + uptoBulkEntries r
def uptoBulkEntry {H : Type} : Lit × DataW H → Nat
  | (.string bytes, d) => bytes.length + uptoBulk d + 1
  | (_, d) => uptoBulk d + 1
 end
def uptoSmall : (H : Type) → List (DataW H) → Bool := fun _ ds => decide (uptoBulkAll ds ≤ 1048576)
def OpenSpec.upto (s : _root_.Go.ChangeSpec) : _root_.Go.OpenSpec := { _root_.Go.OpenSpec.ofChange s with cond := some uptoSmall }

/-- 'laws.FnInverse', WHERE WHAT IT READS IS OF BULK AT MOST 1048576: true; the input reads as it did. -/
def fnInverseUptoRow : OpenClaim := { program := "ytlapbbffoapleaa", sum := "6db9e8770527a961c909ff29c89d5c9f15dcf32ea901e8fe2aa786ce15c760e4", func := "loop.example/g01117/laws.FnInverse", spec := "fnInverse", unfollowed := true, recurses := true, apart := false, narrowed := true }
def FnInverseUptoSaid : Prop := fnInverseUptoRow.holds Try.pinned (OpenSpec.upto fnInverseSpec)

/-- 'laws.FnCasesAlike', WHERE WHAT IT READS IS OF BULK AT MOST 1048576: true; the input reads as it did. -/
def fnCasesAlikeUptoRow : OpenClaim := { program := "ytlapbbffoapleaa", sum := "6db9e8770527a961c909ff29c89d5c9f15dcf32ea901e8fe2aa786ce15c760e4", func := "loop.example/g01117/laws.FnCasesAlike", spec := "fnCasesAlike", unfollowed := true, recurses := true, apart := false, narrowed := true }
def FnCasesAlikeUptoSaid : Prop := fnCasesAlikeUptoRow.holds Try.pinned (OpenSpec.upto fnCasesAlikeSpec)

/-- 'laws.FnSeatCrash', WHERE WHAT IT READS IS OF BULK AT MOST 1048576: true; the input reads as it did. -/
def fnSeatCrashUptoRow : OpenClaim := { program := "ytlapbbffoapleaa", sum := "6db9e8770527a961c909ff29c89d5c9f15dcf32ea901e8fe2aa786ce15c760e4", func := "loop.example/g01117/laws.FnSeatCrash", spec := "fnSeatCrash", unfollowed := true, recurses := true, apart := false, narrowed := true }
def FnSeatCrashUptoSaid : Prop := fnSeatCrashUptoRow.holds Try.pinned (OpenSpec.upto fnSeatCrashSpec)

/-- 'laws.FnPackets', WHERE WHAT IT READS IS OF BULK AT MOST 1048576: true; the input reads as it did. -/
def fnPacketsUptoRow : OpenClaim := { program := "ytlapbbffoapleaa", sum := "6db9e8770527a961c909ff29c89d5c9f15dcf32ea901e8fe2aa786ce15c760e4", func := "loop.example/g01117/laws.FnPackets", spec := "fnPackets", unfollowed := true, recurses := true, apart := false, narrowed := true }
def FnPacketsUptoSaid : Prop := fnPacketsUptoRow.holds Try.pinned (OpenSpec.upto fnPacketsSpec)

/-- 'laws.FnTerms', WHERE WHAT IT READS IS OF BULK AT MOST 1048576: true; the input reads as it did. -/
def fnTermsUptoRow : OpenClaim := { program := "ytlapbbffoapleaa", sum := "6db9e8770527a961c909ff29c89d5c9f15dcf32ea901e8fe2aa786ce15c760e4", func := "loop.example/g01117/laws.FnTerms", spec := "fnTerms", unfollowed := true, recurses := true, apart := false, narrowed := true }
def FnTermsUptoSaid : Prop := fnTermsUptoRow.holds Try.pinned (OpenSpec.upto fnTermsSpec)

/-- 'laws.FnCutRanks', WHERE WHAT IT READS IS OF BULK AT MOST 1048576: true; the input reads as it did. -/
def fnCutRanksUptoRow : OpenClaim := { program := "ytlapbbffoapleaa", sum := "6db9e8770527a961c909ff29c89d5c9f15dcf32ea901e8fe2aa786ce15c760e4", func := "loop.example/g01117/laws.FnCutRanks", spec := "fnCutRanks", unfollowed := true, recurses := true, apart := false, narrowed := true }
def FnCutRanksUptoSaid : Prop := fnCutRanksUptoRow.holds Try.pinned (OpenSpec.upto fnCutRanksSpec)

end Rows
end Go.Proofs.Ytlapbbffoapleaa
