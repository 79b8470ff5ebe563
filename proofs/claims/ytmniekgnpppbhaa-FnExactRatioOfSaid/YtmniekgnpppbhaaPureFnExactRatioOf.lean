/- The pure statement of FnExactRatioOf: over numbers and lists alone. Condition: the argument's numbers are int64s and its list no longer than a reading allows. -/
import Derived.Test.YtmniekgnpppbhaaPlR
import Derived.Test.YtmniekgnpppbhaaFLawsFnExactRatioOf
namespace Go.Proofs.Ytmniekgnpppbhaa.Pure
open Go.RowKit Go.Proofs.YtmniekgnpppbhaaW.PrintWords Go.Proofs.YtmniekgnpppbhaaW.PrintLast Go.Proofs.YtmniekgnpppbhaaW.PrintMore Go.Proofs.Ytmniekgnpppbhaa.F Go.Proofs.Ytmniekgnpppbhaa.Pl
set_option linter.unusedVariables false
/-- Both find one greatest divisor, by the same rounds. -/
theorem gcds (n : Nat) : ∀ (a b : Int), 0 ≤ a → 0 ≤ b → b.toNat ≤ n → (a ≠ 0 ∨ b ≠ 0) → ∃ g : Int, g ≠ 0 ∧ Ev (fun k => F.spec_l06Gcd.l0 k a b) g ∧ ∀ x y : Int, Ev (fun k => F.impl_lowest.l0 k x y a b) (wrap64 (Int.tdiv x g), wrap64 (Int.tdiv y g)) := by
  induction n with
  | zero =>
    intro a b ha hb hn h
    have hb0 : b = 0 := by omega
    have ha0 : a ≠ 0 := by omega
    refine ⟨a, ha0, ev_succ (fun k => ?_), fun x y => ev_succ (fun k => ?_)⟩
    · simp only [F.spec_l06Gcd.l0]; rw [if_pos hb0]
    · simp only [F.impl_lowest.l0]; rw [if_pos hb0, if_neg ha0]
  | succ n ih =>
    intro a b ha hb hn h
    by_cases hb0 : b = 0
    · have ha0 : a ≠ 0 := by omega
      refine ⟨a, ha0, ev_succ (fun k => ?_), fun x y => ev_succ (fun k => ?_)⟩
      · simp only [F.spec_l06Gcd.l0]; rw [if_pos hb0]
      · simp only [F.impl_lowest.l0]; rw [if_pos hb0, if_neg ha0]
    · have e : Int.tmod a b = a % b := Int.tmod_eq_emod_of_nonneg ha
      have e1 := Int.emod_nonneg a hb0
      have e2 := Int.emod_lt_of_pos a (show 0 < b by omega)
      obtain ⟨g, hg, h1, h2⟩ := ih b (Int.tmod a b) hb (by omega) (by omega) (.inl hb0)
      refine ⟨g, hg, Ev.step (fun k => ?_) h1, fun x y => Ev.step (fun k => ?_) (h2 x y)⟩
      · simp only [F.spec_l06Gcd.l0]; rw [if_neg hb0]
      · simp only [F.impl_lowest.l0]; rw [if_neg hb0]
theorem ratios (h u : Int) (l : List Int) (hc : OkR h u l) : ∀ d i : Nat, i + d = h.toNat → ∀ acc : Int, 0 ≤ acc → acc ≤ 100000 →
    ∃ r, Ev (fun k => F.spec_RatioOf.l0 k acc (i : Int) h u l) r ∧ Ev (fun k => F.impl_RatioOf.l0 k acc h (i : Int) h u l) r := by
  have h1 := hc.h1
  have h2 := hc.h2
  have u1 := hc.u1
  intro d
  induction d with
  | zero =>
    intro i hi acc ha hb
    obtain ⟨g, hg, e1, e2⟩ := gcds u.toNat acc u ha (by omega) (Nat.le_refl _) (.inr (by omega))
    refine ⟨(wrap64 (Int.tdiv acc g), wrap64 (Int.tdiv u g), 0), ?_, ?_⟩
    · refine Ev.step (f := fun k => (F.spec_l06Gcd.f k acc u).bind fun t => if t = 0 then none else some (wrap64 (Int.tdiv acc t), wrap64 (Int.tdiv u t), 0)) (fun k => ?_) (Ev.bind (a := g) e1 ?_)
      · simp only [F.spec_RatioOf.l0]; rw [if_neg (by omega)]
      · simp only [if_neg hg]; exact Ev.now _
    · refine Ev.step (f := fun k => (F.impl_lowest.f k acc u).bind fun t => some (t.1, t.2, 0)) (fun k => ?_) (Ev.bind (e2 acc u) (Ev.now _))
      simp only [F.impl_RatioOf.l0]; rw [if_neg (by omega)]
  | succ d ih =>
    intro i hi acc ha hb
    have hlt : 2 ^ i < l.length := by
      rw [hc.len]
      exact Nat.pow_lt_pow_right (by decide) (by omega)
    have hr := hc.rng _ hlt
    obtain ⟨r, e1, e2⟩ := ih (i + 1) (by omega) (mx acc (l.getD (2 ^ i) 0)) (by unfold mx; split <;> omega) (by unfold mx; split <;> omega)
    refine ⟨r, Ev.step (fun k => ?_) e1, Ev.step (fun k => ?_) e2⟩
    · have em : F.spec_l00Max.f acc (l.getD (2 ^ i) 0) = some (mx acc (l.getD (2 ^ i) 0)) := by
        unfold F.spec_l00Max.f mx
        generalize l.getD (2 ^ i) 0 = x
        by_cases c : acc > x
        · rw [if_pos c, if_neg (by omega)]
        · rw [if_neg c]
          by_cases c' : acc < x
          · rw [if_pos c']
          · rw [if_neg c']; congr 1; omega
      simp only [F.spec_RatioOf.l0]
      rw [if_pos (by omega), wu64 (by omega) (by omega), if_pos (by omega), shl_i64 (by omega), if_pos (Int.natCast_nonneg _), if_pos (by exact_mod_cast hlt), rd_nat, em, w64 (by omega) (by omega)]
      rfl
    · simp only [F.impl_RatioOf.l0]
      rw [if_pos (by omega), if_pos (by omega), shl_u64 (by omega), rank_eq h u l _ hlt, w64 (by omega) (by omega)]
      rfl
theorem both_ratios (h u : Int) (l : List Int) (hh : -9223372036854775808 ≤ h ∧ h ≤ 9223372036854775807) (hl : l.length ≤ 1048576) : ∃ r, Ev (fun k => F.spec_RatioOf.f k h u l) r ∧ Ev (fun k => F.impl_RatioOf.f k h u l) r := by
  by_cases c : okB h u l = true
  · obtain ⟨r, e1, e2⟩ := ratios h u l (okB_iff.1 c) h.toNat 0 (by omega) 0 (by omega) (by omega)
    refine ⟨r, Ev.bind (okB_spec h u l hl hh) ?_, Ev.bind (okB_impl h u l hl hh) ?_⟩
    · simp only [if_pos c]; exact e1
    · simp only [if_pos c]; exact e2
  · refine ⟨(0, 0, 1), Ev.bind (okB_spec h u l hl hh) ?_, Ev.bind (okB_impl h u l hl hh) ?_⟩
    · simp only [if_neg c]; exact Ev.now _
    · simp only [if_neg c]; exact Ev.now _
theorem FnExactRatioOf (y0_0 : Int) (y0_1 : Int) (y0_2 : List Int) (hw0 : (fun x => (fun a => (Lit.int .i64 a).wf = true) x.1 ∧ (fun x => (fun a => (Lit.int .i64 a).wf = true) x.1 ∧ (fun xs => xs.length ≤ maxLen ∧ xs.length * 8 ≤ 140737488351232 ∧ ∀ x ∈ xs, (fun a => (Lit.int .i64 a).wf = true) x) x.2) x.2) (y0_0, y0_1, y0_2)) : ∃ k, F.laws_FnExactRatioOf.f k y0_0 y0_1 y0_2 = some true := by
  obtain ⟨h1, h2, h3, h4, h5⟩ := hw0
  have g1 : -9223372036854775808 ≤ y0_0 ∧ y0_0 ≤ 9223372036854775807 := wf_i64 h1
  have hL : y0_2.length * 8 ≤ 140737488351232 := h4
  refine Ev.rounds ?_
  unfold F.laws_FnExactRatioOf.f
  rw [szRanks_eq _ _ _ (by omega)]
  simp only [Option.bind_some]
  by_cases c : (y0_2.length : Int) ≤ 1048576
  · simp only [if_pos c, if_neg (show ¬ (1048576 - (y0_2.length : Int) < 0) by omega)]
    have hT := toRanks_ev y0_0 y0_1 y0_2 (by omega)
    have hE := eqRanks_ev y0_0 y0_1 y0_2 (by omega)
    obtain ⟨r, hS, hI⟩ := both_ratios y0_0 y0_1 y0_2 g1 (by omega)
    refine Ev.bind hT (Ev.bind hS (Ev.bind hT (Ev.bind hI ?_)))
    simp only [if_true, bne_self_eq_false]
    refine Ev.step (fun k => by simp only [F.laws_FnExactRatioOf.j0, Bool.false_eq_true, if_false]; rfl) ?_
    refine Ev.bind hT (Ev.bind hE ?_)
    simp only [if_true]
    exact Ev.now _
  · simp only [if_neg c]
    exact Ev.now _
end Go.Proofs.Ytmniekgnpppbhaa.Pure
