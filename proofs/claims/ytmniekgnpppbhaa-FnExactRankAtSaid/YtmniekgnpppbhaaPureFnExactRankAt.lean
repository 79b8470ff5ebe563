/- The pure statement of FnExactRankAt: over numbers and lists alone. Condition: the arguments' numbers are int64s and their lists no longer than a reading allows. -/
import Derived.Test.YtmniekgnpppbhaaPlR
import Derived.Test.YtmniekgnpppbhaaPlG
import Derived.Test.YtmniekgnpppbhaaFLawsFnExactRankAt
namespace Go.Proofs.Ytmniekgnpppbhaa.Pure
open Go.RowKit Go.Proofs.YtmniekgnpppbhaaW.PrintWords Go.Proofs.YtmniekgnpppbhaaW.PrintLast Go.Proofs.YtmniekgnpppbhaaW.PrintMore Go.Proofs.Ytmniekgnpppbhaa.F Go.Proofs.Ytmniekgnpppbhaa.Pl
set_option linter.unusedVariables false
theorem okB_true {h u : Int} {l : List Int} (c : okB h u l = true) : OkR h u l := okB_iff.1 c
/-- The answer. -/
noncomputable def rankAt (h u : Int) (l g : List Int) : Int × Int := if okB h u l = true then (if risesB 0 (h - 1) g = true then (l.getD (bitsOf g) 0, 0) else (0, 2)) else (0, 1)
theorem bits_in {h u : Int} {l g : List Int} (c : OkR h u l) (r : Rises 0 (h - 1) g) : (∀ x ∈ g, 0 ≤ x ∧ x < (h.toNat : Nat)) ∧ bitsOf g < l.length := by
  have h1 := c.h1
  have h2 := c.h2
  have hm := rises_mem r
  refine ⟨fun x hx => by have := hm x hx; omega, ?_⟩
  rw [c.len]
  exact bitsOf_lt (fun x hx => by have := hm x hx; omega)
theorem spec_rankAt (h u : Int) (l g : List Int) (hh : -9223372036854775808 ≤ h ∧ h ≤ 9223372036854775807) (hl : l.length ≤ 1048576) (hg : g.length ≤ 1048576) : Ev (fun k => F.spec_RankAt.f k h u l g) (rankAt h u l g) := by
  unfold F.spec_RankAt.f rankAt
  refine Ev.bind (okB_spec h u l hl hh) ?_
  by_cases c : okB h u l = true
  · have hc := okB_true c
    have h1 := hc.h1
    have h2 := hc.h2
    simp only [if_pos c]
    rw [w64 (by omega) (by omega)]
    refine Ev.bind (rises_ev 0 (h - 1) g (by omega)) ?_
    by_cases r : risesB 0 (h - 1) g = true
    · simp only [if_pos r]
      obtain ⟨b1, b2⟩ := bits_in hc (risesB_iff.1 r)
      refine Ev.bind (l07Bits_ev (m := h.toNat) (by omega) b1 (by omega)) ?_
      simp only [rd_nat]
      rw [if_pos (by omega), if_pos (by omega)]
      exact Ev.now _
    · simp only [if_neg r]
      exact Ev.now _
  · simp only [if_neg c]
    exact Ev.now _
theorem impl_rankAt (h u : Int) (l g : List Int) (hh : -9223372036854775808 ≤ h ∧ h ≤ 9223372036854775807) (hl : l.length ≤ 1048576) (hg : g.length ≤ 1048576) : Ev (fun k => F.impl_RankAt.f k h u l g) (rankAt h u l g) := by
  unfold F.impl_RankAt.f rankAt
  refine Ev.bind (okB_impl h u l hl hh) ?_
  by_cases c : okB h u l = true
  · have hc := okB_true c
    have h1 := hc.h1
    have h2 := hc.h2
    simp only [if_pos c]
    refine Ev.bind (isGroup_ev h (by omega) g (by omega)) ?_
    by_cases r : risesB 0 (h - 1) g = true
    · simp only [if_pos r]
      obtain ⟨b1, b2⟩ := bits_in hc (risesB_iff.1 r)
      refine Ev.bind (crowdOf_ev (m := h.toNat) (by omega) b1 (by omega)) ?_
      simp only [rank_eq h u l _ b2, Option.bind_some]
      exact Ev.now _
    · simp only [if_neg r]
      exact Ev.now _
  · simp only [if_neg c]
    exact Ev.now _
theorem FnExactRankAt (y0_0 : Int) (y0_1 : Int) (y0_2 : List Int) (y1 : List Int) (hw0 : (fun x => (fun a => (Lit.int .i64 a).wf = true) x.1 ∧ (fun x => (fun a => (Lit.int .i64 a).wf = true) x.1 ∧ (fun xs => xs.length ≤ maxLen ∧ xs.length * 8 ≤ 140737488351232 ∧ ∀ x ∈ xs, (fun a => (Lit.int .i64 a).wf = true) x) x.2) x.2) (y0_0, y0_1, y0_2)) (hw1 : (fun xs => xs.length ≤ maxLen ∧ xs.length * 8 ≤ 140737488351232 ∧ ∀ x ∈ xs, (fun a => (Lit.int .i64 a).wf = true) x) y1) : ∃ k, F.laws_FnExactRankAt.f k y0_0 y0_1 y0_2 y1 = some true := by
  obtain ⟨h1, h2, h3, h4, h5⟩ := hw0
  have g1 : -9223372036854775808 ≤ y0_0 ∧ y0_0 ≤ 9223372036854775807 := wf_i64 h1
  have hL : y0_2.length * 8 ≤ 140737488351232 := h4
  refine Ev.rounds ?_
  unfold F.laws_FnExactRankAt.f
  by_cases c0 : (y1.length : Int) > 1048576
  · simp only [if_pos c0]
    exact Ev.now _
  · simp only [if_neg c0]
    rw [szRanks_eq _ _ _ (by omega)]
    simp only [Option.bind_some]
    by_cases c : (y0_2.length : Int) ≤ 1048576
    · simp only [if_pos c, if_neg (show ¬ (1048576 - (y0_2.length : Int) < 0) by omega)]
      have hT := toRanks_ev y0_0 y0_1 y0_2 (by omega)
      have hG := toInt64S_ev y1 (by omega)
      have hS := spec_rankAt y0_0 y0_1 y0_2 y1 g1 (by omega) (by omega)
      have hI := impl_rankAt y0_0 y0_1 y0_2 y1 g1 (by omega) (by omega)
      have hE := eqRanks_ev y0_0 y0_1 y0_2 (by omega)
      have hE1 := eqInt64S_ev y1 (by omega)
      refine Ev.bind hT (Ev.bind hG (Ev.bind hS (Ev.bind hT (Ev.bind hG (Ev.bind hI ?_)))))
      simp only [if_true, bne_self_eq_false]
      refine Ev.step (fun k => by simp only [F.laws_FnExactRankAt.j0, Bool.false_eq_true, if_false]; rfl) ?_
      refine Ev.bind hT (Ev.bind hE ?_)
      simp only [if_true]
      refine Ev.bind hG (Ev.bind hE1 ?_)
      simp only [if_true]
      exact Ev.now _
    · simp only [if_neg c]
      exact Ev.now _
end Go.Proofs.Ytmniekgnpppbhaa.Pure
