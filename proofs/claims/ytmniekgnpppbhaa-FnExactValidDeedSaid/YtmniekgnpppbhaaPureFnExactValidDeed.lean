/- The pure statement of FnExactValidDeed: over numbers and lists alone. No condition is used. -/
import Derived.Test.YtmniekgnpppbhaaFLawsFnExactValidDeed
namespace Go.Proofs.Ytmniekgnpppbhaa.Pure
open Go.RowKit Go.Proofs.YtmniekgnpppbhaaW.PrintWords Go.Proofs.YtmniekgnpppbhaaW.PrintLast Go.Proofs.YtmniekgnpppbhaaW.PrintMore Go.Proofs.Ytmniekgnpppbhaa.F
set_option linter.unusedVariables false
theorem within_eq (a b c : Int) : F.impl_within.f a b c = some (decide (b ≤ a ∧ a ≤ c)) := by
  unfold F.impl_within.f
  by_cases h : a ≥ b
  · rw [if_pos h]; simp [h]
  · rw [if_neg h]; simp [h]
theorem in_eq (a b c : Int) : F.spec_l00In.f a b c = some (decide (b ≤ a ∧ a ≤ c)) := by
  unfold F.spec_l00In.f
  by_cases h : a ≥ b
  · rw [if_pos h]; simp [h]
  · rw [if_neg h]; simp [h]
theorem deeds (k a b : Int) : ∃ r, F.spec_ValidDeed.f k a b = some r ∧ F.impl_ValidDeed.f k a b = some r := by
  unfold F.spec_ValidDeed.f F.spec_l08Deed.f F.impl_ValidDeed.f F.spec_l08Words.f F.impl_deedWord.f
  simp only [within_eq, in_eq, Option.bind_some, decide_eq_true_eq]
  by_cases hk : 1 ≤ k ∧ k ≤ 9
  · obtain rfl | rfl | rfl | rfl | rfl | rfl | rfl | rfl | rfl : k = 1 ∨ k = 2 ∨ k = 3 ∨ k = 4 ∨ k = 5 ∨ k = 6 ∨ k = 7 ∨ k = 8 ∨ k = 9 := by omega
    all_goals
      by_cases ha : 0 ≤ a ∧ a ≤ 999 <;> by_cases hb : 0 ≤ b ∧ b ≤ 999 <;> by_cases ha0 : a = 0 <;> simp [ha, hb, ha0, rd]
  · have h1 : k ≠ 1 := by omega
    have h2 : k ≠ 2 := by omega
    have h3 : k ≠ 3 := by omega
    have h4 : k ≠ 4 := by omega
    have h5 : k ≠ 5 := by omega
    have h6 : k ≠ 6 := by omega
    have h7 : k ≠ 7 := by omega
    have h8 : k ≠ 8 := by omega
    have h9 : k ≠ 9 := by omega
    exact ⟨false, by simp [hk], by simp [h1, h2, h3, h4, h5, h6, h7, h8, h9]⟩
theorem FnExactValidDeed (y0_0 : Int) (y0_1 : Int) (y0_2 : Int) (hw0 : (fun x => (fun a => (Lit.int .i64 a).wf = true) x.1 ∧ (fun x => (fun a => (Lit.int .i64 a).wf = true) x.1 ∧ (fun a => (Lit.int .i64 a).wf = true) x.2) x.2) (y0_0, y0_1, y0_2)) : F.laws_FnExactValidDeed.f y0_0 y0_1 y0_2 = some true := by
  obtain ⟨r, h1, h2⟩ := deeds y0_0 y0_1 y0_2
  unfold F.laws_FnExactValidDeed.f F.laws_toDeed.f
  simp only [Option.bind_some, h1, h2]
  simp
end Go.Proofs.Ytmniekgnpppbhaa.Pure
