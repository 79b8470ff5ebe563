/- What Go functions of the program compute, and that their code does so (their contracts); printed by an own program over the translation. Conditions: those of each contract. -/
import Derived.Test.YtmniekgnpppbhaaProg
import Derived.Below
import Derived.Deep.Draws
import Derived.Deep.AppendLies
import Derived.Maps.AppendAt
import Derived.OwnWalk
import Derived.Laws.BytesArg
import Derived.Laws.MakeOwn
import Derived.Laws.OwnMore
import Derived.Deep.OwnRows
import Derived.Tactics
import Derived.Lib.ConvBytes
import Derived.Laws.Slices
import Derived.WalkKit
import Derived.KernelRfl
import Derived.RowKit3
import Derived.Deep.LoopGhost
import Derived.Deep.QuietTactic
import Derived.BigQuiet
import Derived.WideLaws
import Derived.Deep.DeepCutAuto
import Derived.Deep.CutBlock
import Derived.Deep.RegionHeld3
import Derived.Laws.Rows
import Derived.Lib.AppendStr
import Derived.ArgAppend
import Derived.Laws.IdiomCopy
import Derived.OrdersHeld
import Derived.Laws.BitsLemmas
import Derived.RowKit
import Derived.Test.YtmniekgnpppbhaaWWords
import Derived.Test.YtmniekgnpppbhaaWLast
import Derived.Test.YtmniekgnpppbhaaWTab
import Derived.Test.YtmniekgnpppbhaaWFour
import Derived.Test.YtmniekgnpppbhaaWQPut
import Derived.Test.YtmniekgnpppbhaaWApart
import Derived.Test.YtmniekgnpppbhaaWArr
import Derived.Test.YtmniekgnpppbhaaWZeros
import Derived.Test.YtmniekgnpppbhaaWFoot
import Derived.Test.YtmniekgnpppbhaaWKept
import Derived.Test.YtmniekgnpppbhaaWShare
import Derived.Test.YtmniekgnpppbhaaWN
import Derived.Test.YtmniekgnpppbhaaWFootNe
import Derived.Test.YtmniekgnpppbhaaWAt
import Derived.Test.YtmniekgnpppbhaaWEqStruct
import Derived.Test.YtmniekgnpppbhaaWRepsOne
import Derived.Test.YtmniekgnpppbhaaWInv
import Derived.Test.YtmniekgnpppbhaaWInvWords
import Derived.Test.YtmniekgnpppbhaaWGuard
import Derived.Test.YtmniekgnpppbhaaWNEv
import Derived.Test.YtmniekgnpppbhaaWMore
namespace Go.Proofs.Ytmniekgnpppbhaa.F
open Go.RowKit Go.Proofs.YtmniekgnpppbhaaW.PrintWords Go.Proofs.YtmniekgnpppbhaaW.PrintLast Go.Proofs.YtmniekgnpppbhaaW.PrintMore
attribute [local go_sem] max2_int min2_int max_two min_two max_three min_three max_four min_four   -- for this text's walks alone
set_option linter.unusedVariables false
set_option linter.unusedSimpArgs false



def errW : Option Int → Value
  | none => .nilIface
  | some c => .iface 0 (.int .i64 c)
theorem errW_none : errW none = .nilIface := rfl
theorem errW_some (c : Int) : errW (some c) = .iface 0 (.int .i64 c) := rfl

theorem info2 : (Try.prog.info? 2).map (fun i => (i.zero, i.size, i.bytes)) = some (some (.int .i64 0), 1, 8) := by kernel_rfl
theorem info3 : (Try.prog.info? 3).map (fun i => (i.zero, i.size, i.bytes)) = some (some (.int .i64 0), 1, 8) := by kernel_rfl
theorem info9 : (Try.prog.info? 9).map (fun i => (i.zero, i.size, i.bytes)) = some (some (.string ⟨#[]⟩), 1, 16) := by kernel_rfl
-- the values' own types

end Go.Proofs.Ytmniekgnpppbhaa.F
