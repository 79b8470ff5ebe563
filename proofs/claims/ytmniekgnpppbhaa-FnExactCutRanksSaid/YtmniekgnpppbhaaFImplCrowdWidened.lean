/- What Go functions of the program compute, and that their code does so (their contracts); printed by an own program over the translation. Conditions: those of each contract. -/
import Derived.Test.YtmniekgnpppbhaaB0
import Derived.Test.YtmniekgnpppbhaaFImplEverybody
namespace Go.Proofs.Ytmniekgnpppbhaa.F
open Go.RowKit Go.Proofs.YtmniekgnpppbhaaW.PrintWords Go.Proofs.YtmniekgnpppbhaaW.PrintLast Go.Proofs.YtmniekgnpppbhaaW.PrintMore
attribute [local go_sem] max2_int min2_int max_two min_two max_three min_three max_four min_four   -- for this text's walks alone
set_option linter.unusedVariables false
set_option linter.unusedSimpArgs false

/-! ### impl_crowd_widened: function 45 -/
def impl_crowd_widened.f (a0 : Int) (a1 : Int) : Option (Int) := (impl_everybody.f a1).bind fun t101 => (some (Go.bits .or .u64 (Go.bits .and .u64 a0 t101) (IntKind.u64.wrap ((Go.bits .andNot .u64 a0 t101) * 2))))
set_option maxHeartbeats 8000000 in
set_option maxRecDepth 100000 in
theorem impl_crowd_widened.calls (a0 : Int) (a1 : Int) (r : Int) (w : World) (h : impl_crowd_widened.f a0 a1 = some r) :
  Calls Try.prog 45 #[.int .u64 a0, .int .i64 a1] w fun e w' => e = .returned (.int .u64 r) ∧ Drawn0 w w' := by
 have H : ((impl_everybody.f a1).bind fun t101 => (some (Go.bits .or .u64 (Go.bits .and .u64 a0 t101) (IntKind.u64.wrap ((Go.bits .andNot .u64 a0 t101) * 2))))) = some r := h
 clear h
 replace H := Option.bind_eq_some_iff.mp H
 obtain ⟨t101, A30, H⟩ := H
 replace H : (some (Go.bits .or .u64 (Go.bits .and .u64 a0 t101) (IntKind.u64.wrap ((Go.bits .andNot .u64 a0 t101) * 2)))) = some r := H
 have A3 := Aside0.mk A30
 clear A30
 obtain rfl := Option.some.inj H
 go_enter Try.func45, Try.ntmps45
 go_wp2_with (first | ((with_reducible refine gate_callee (f := 34) rfl ?_); refine goesL_ (some 7) rfl rfl Try.func34 (by kernel_rfl) rfl #[.int .i64 a1] rfl (by (try simp only [List.map_toArray, List.map_cons, List.map_nil]); first | done | rfl | (simp only [List.length_drop, List.length_take]; rfl)) ?_; (with_reducible refine (impl_everybody.calls a1 t101 _ A3.out).mono ?_); rintro e w' ⟨rfl, ⟨nd, rfl⟩⟩; refine ⟨_, rfl, ?_⟩))
 go_ret
 exact ⟨by first | rfl | (simp; done) | (simp [*]; done), by repeat (first | exact Drawn0.refl _ | apply Drawn0.step)⟩

end Go.Proofs.Ytmniekgnpppbhaa.F
