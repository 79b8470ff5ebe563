/- The pure statement of FnExactValidRanks: over numbers and lists alone. Condition: the argument's numbers are int64s and its list no longer than a reading allows. -/
import Derived.Test.YtmniekgnpppbhaaPlR
import Derived.Test.YtmniekgnpppbhaaFLawsFnExactValidRanks
namespace Go.Proofs.Ytmniekgnpppbhaa.Pure
open Go.RowKit Go.Proofs.YtmniekgnpppbhaaW.PrintWords Go.Proofs.YtmniekgnpppbhaaW.PrintLast Go.Proofs.YtmniekgnpppbhaaW.PrintMore Go.Proofs.Ytmniekgnpppbhaa.F Go.Proofs.Ytmniekgnpppbhaa.Pl
set_option linter.unusedVariables false
theorem FnExactValidRanks (y0_0 : Int) (y0_1 : Int) (y0_2 : List Int) (hw0 : (fun x => (fun a => (Lit.int .i64 a).wf = true) x.1 ∧ (fun x => (fun a => (Lit.int .i64 a).wf = true) x.1 ∧ (fun xs => xs.length ≤ maxLen ∧ xs.length * 8 ≤ 140737488351232 ∧ ∀ x ∈ xs, (fun a => (Lit.int .i64 a).wf = true) x) x.2) x.2) (y0_0, y0_1, y0_2)) : ∃ k, F.laws_FnExactValidRanks.f k y0_0 y0_1 y0_2 = some true := by
  obtain ⟨h1, h2, h3, h4, h5⟩ := hw0
  have g1 : -9223372036854775808 ≤ y0_0 ∧ y0_0 ≤ 9223372036854775807 := wf_i64 h1
  have hL : y0_2.length * 8 ≤ 140737488351232 := h4
  refine Ev.rounds ?_
  unfold F.laws_FnExactValidRanks.f
  rw [szRanks_eq _ _ _ (by omega)]
  simp only [Option.bind_some]
  by_cases c : (y0_2.length : Int) ≤ 1048576
  · simp only [if_pos c, if_neg (show ¬ (1048576 - (y0_2.length : Int) < 0) by omega)]
    have hT := toRanks_ev y0_0 y0_1 y0_2 (by omega)
    have hS : Ev (fun k => F.spec_ValidRanks.f k y0_0 y0_1 y0_2) (okB y0_0 y0_1 y0_2) := Ev.bind (okB_spec y0_0 y0_1 y0_2 (by omega) g1) (Ev.now _)
    have hI := okB_impl y0_0 y0_1 y0_2 (by omega) g1
    have hE := eqRanks_ev y0_0 y0_1 y0_2 (by omega)
    refine Ev.bind hT (Ev.bind hS (Ev.bind hT (Ev.bind hI ?_)))
    simp only [bne_self_eq_false, Bool.false_eq_true, if_false]
    refine Ev.bind hT (Ev.bind hE ?_)
    simp only [if_true]
    exact Ev.now _
  · simp only [if_neg c]
    exact Ev.now _
end Go.Proofs.Ytmniekgnpppbhaa.Pure
