/- Groups: rising lists of small numbers, and their bits, as the program and as the reference find them. Plain; no condition beyond each lemma's own. -/
import Derived.Test.YtmniekgnpppbhaaPlA
import Derived.Test.YtmniekgnpppbhaaFImplIsGroup
import Derived.Test.YtmniekgnpppbhaaFImplCrowdOf
import Derived.Test.YtmniekgnpppbhaaFSpecL00Rises
import Derived.Test.YtmniekgnpppbhaaFSpecL07Bits
namespace Go.Proofs.Ytmniekgnpppbhaa.Pl
open Go.RowKit Go.Proofs.YtmniekgnpppbhaaW.PrintWords Go.Proofs.YtmniekgnpppbhaaW.PrintLast Go.Proofs.YtmniekgnpppbhaaW.PrintMore
set_option linter.unusedVariables false
theorem g_within (a b c : Int) : F.impl_within.f a b c = some (decide (b ≤ a ∧ a ≤ c)) := by
  unfold F.impl_within.f
  by_cases h : a ≥ b
  · rw [if_pos h]; simp [h]
  · rw [if_neg h]; simp [h]
theorem g_in (a b c : Int) : F.spec_l00In.f a b c = some (decide (b ≤ a ∧ a ≤ c)) := by
  unfold F.spec_l00In.f
  by_cases h : a ≥ b
  · rw [if_pos h]; simp [h]
  · rw [if_neg h]; simp [h]
/-- What is asked of the element i. -/
def RiseAt (lo hi : Int) (g : List Int) (i : Nat) : Prop := (lo ≤ g.getD i 0 ∧ g.getD i 0 ≤ hi) ∧ (0 < i → g.getD (i - 1) 0 < g.getD i 0)
def Rises (lo hi : Int) (g : List Int) : Prop := ∀ i, i < g.length → RiseAt lo hi g i
noncomputable def risesB (lo hi : Int) (g : List Int) : Bool := @decide (Rises lo hi g) (Classical.propDecidable _)
theorem risesB_iff {lo hi : Int} {g : List Int} : risesB lo hi g = true ↔ Rises lo hi g := by unfold risesB; exact @decide_eq_true_iff _ (Classical.propDecidable _)
theorem not_rises {lo hi : Int} {g : List Int} (h : ¬ Rises lo hi g) : ∃ i, i < g.length ∧ ¬ RiseAt lo hi g i := by
  apply Classical.byContradiction
  intro hn
  exact h (fun i hi => Classical.byContradiction (fun hc => hn ⟨i, hi, hc⟩))
theorem rises_round (lo hi : Int) (g : List Int) (hl : g.length ≤ 9223372036854775806) (i : Nat) (hi' : i < g.length) (k : Nat) :
    (RiseAt lo hi g i → F.spec_l00Rises.l0 (k + 1) g lo hi (i : Int) = F.spec_l00Rises.l0 k g lo hi ((i + 1 : Nat) : Int)) ∧
    (¬ RiseAt lo hi g i → F.spec_l00Rises.l0 (k + 1) g lo hi (i : Int) = some false) := by
  have e1 : wrap64 ((i : Int) + 1) = ((i + 1 : Nat) : Int) := by rw [w64 (by omega) (by omega)]; rfl
  simp only [F.spec_l00Rises.l0, g_in, Option.bind_some, decide_eq_true_eq, rd_nat, e1, if_pos (show (i : Int) < (g.length : Int) by omega), if_pos (show (0 : Int) ≤ (i : Int) by omega)]
  rcases Nat.eq_zero_or_pos i with rfl | hp
  · rw [if_neg (show ¬ (((0 : Nat) : Int) > 0) by omega)]
    constructor
    · intro h; rw [if_pos h.1]
    · intro h; rw [if_neg (fun hc => h ⟨hc, fun h0 => absurd h0 (by omega)⟩)]
  · have e2 : wrap64 ((i : Int) - 1) = ((i - 1 : Nat) : Int) := by rw [w64 (by omega) (by omega)]; omega
    simp only [e2, if_pos (show (i : Int) > 0 by omega), if_pos (show (0 : Int) ≤ ((i - 1 : Nat) : Int) by omega), if_pos (show ((i - 1 : Nat) : Int) < (g.length : Int) by omega), rd_nat]
    constructor
    · intro h; rw [if_pos h.1, if_neg (by have := h.2 hp; omega)]
    · intro h
      by_cases c : lo ≤ g.getD i 0 ∧ g.getD i 0 ≤ hi
      · rw [if_pos c, if_pos (by have : ¬ (g.getD (i - 1) 0 < g.getD i 0) := fun hc => h ⟨c, fun _ => hc⟩; omega)]
      · rw [if_neg c]
theorem rises_ev (lo hi : Int) (g : List Int) (hl : g.length ≤ 9223372036854775806) : Ev (fun k => F.spec_l00Rises.f k g lo hi) (risesB lo hi g) := by
  unfold F.spec_l00Rises.f
  have hs : ∀ i, i < g.length → RiseAt lo hi g i → ∀ r, Ev (fun k => F.spec_l00Rises.l0 k g lo hi ((i + 1 : Nat) : Int)) r → Ev (fun k => F.spec_l00Rises.l0 k g lo hi (i : Int)) r := fun i hi' hP r h => Ev.step (fun k => (rises_round lo hi g hl i hi' k).1 hP) h
  by_cases c : Rises lo hi g
  · rw [risesB_iff.2 c]
    refine ev_yes g.length (fun k i => F.spec_l00Rises.l0 k g lo hi (i : Int)) (RiseAt lo hi g) true (ev_succ (fun k => ?_)) hs c
    simp only [F.spec_l00Rises.l0]
    rw [if_neg (by omega)]
  · rw [show risesB lo hi g = false from by cases h : risesB lo hi g <;> simp_all [risesB_iff]]
    exact ev_no g.length (fun k i => F.spec_l00Rises.l0 k g lo hi (i : Int)) (RiseAt lo hi g) false hs (fun i hi' hP => ev_succ (fun k => (rises_round lo hi g hl i hi' k).2 hP)) (not_rises c)
theorem group_round (h : Int) (hh : -9223372036854775807 ≤ h ∧ h ≤ 9223372036854775807) (g : List Int) (hl : g.length ≤ 9223372036854775806) (i : Nat) (hi' : i < g.length) (k : Nat) :
    (RiseAt 0 (h - 1) g i → F.impl_isGroup.l0 (k + 1) h g g g.length (i : Int) = F.impl_isGroup.l0 k h g g g.length ((i + 1 : Nat) : Int)) ∧
    (¬ RiseAt 0 (h - 1) g i → F.impl_isGroup.l0 (k + 1) h g g g.length (i : Int) = some false) := by
  have e1 : wrap64 ((i : Int) + 1) = ((i + 1 : Nat) : Int) := by rw [w64 (by omega) (by omega)]; rfl
  simp only [F.impl_isGroup.l0, g_within, Option.bind_some, decide_eq_true_eq, rd_nat, e1, w64 (show -9223372036854775808 ≤ h - 1 by omega) (by omega), if_pos (show (i : Int) < (g.length : Int) by omega), if_pos (show (0 : Int) ≤ (i : Int) by omega)]
  rcases Nat.eq_zero_or_pos i with rfl | hp
  · rw [if_neg (show ¬ (((0 : Nat) : Int) > 0) by omega)]
    constructor
    · intro h; rw [if_pos h.1]
    · intro h; rw [if_neg (fun hc => h ⟨hc, fun h0 => absurd h0 (by omega)⟩)]
  · have e2 : wrap64 ((i : Int) - 1) = ((i - 1 : Nat) : Int) := by rw [w64 (by omega) (by omega)]; omega
    simp only [e2, if_pos (show (i : Int) > 0 by omega), if_pos (show (0 : Int) ≤ ((i - 1 : Nat) : Int) by omega), if_pos (show ((i - 1 : Nat) : Int) < (g.length : Int) by omega), rd_nat]
    constructor
    · intro h; rw [if_pos h.1, if_neg (by have := h.2 hp; omega)]
    · intro hn
      by_cases c : 0 ≤ g.getD i 0 ∧ g.getD i 0 ≤ h - 1
      · rw [if_pos c, if_pos (by have : ¬ (g.getD (i - 1) 0 < g.getD i 0) := fun hc => hn ⟨c, fun _ => hc⟩; omega)]
      · rw [if_neg c]
theorem isGroup_ev (h : Int) (hh : -9223372036854775807 ≤ h ∧ h ≤ 9223372036854775807) (g : List Int) (hl : g.length ≤ 9223372036854775806) : Ev (fun k => F.impl_isGroup.f k h g) (risesB 0 (h - 1) g) := by
  unfold F.impl_isGroup.f
  have hs : ∀ i, i < g.length → RiseAt 0 (h - 1) g i → ∀ r, Ev (fun k => F.impl_isGroup.l0 k h g g g.length ((i + 1 : Nat) : Int)) r → Ev (fun k => F.impl_isGroup.l0 k h g g g.length (i : Int)) r := fun i hi' hP r h' => Ev.step (fun k => (group_round h hh g hl i hi' k).1 hP) h'
  by_cases c : Rises 0 (h - 1) g
  · rw [risesB_iff.2 c]
    refine ev_yes g.length (fun k i => F.impl_isGroup.l0 k h g g g.length (i : Int)) (RiseAt 0 (h - 1) g) true (ev_succ (fun k => ?_)) hs c
    simp only [F.impl_isGroup.l0]
    rw [if_neg (by omega)]
  · rw [show risesB 0 (h - 1) g = false from by cases h : risesB 0 (h - 1) g <;> simp_all [risesB_iff]]
    exact ev_no g.length (fun k i => F.impl_isGroup.l0 k h g g g.length (i : Int)) (RiseAt 0 (h - 1) g) false hs (fun i hi' hP => ev_succ (fun k => (group_round h hh g hl i hi' k).2 hP)) (not_rises c)

/-! ### a group's bits -/
def bitsOf (g : List Int) : Nat := g.foldl (fun a x => a ||| 2 ^ x.toNat) 0
theorem bits_lt {m : Nat} : ∀ (g : List Int) (a : Nat), a < 2 ^ m → (∀ x ∈ g, x.toNat < m) → g.foldl (fun a x => a ||| 2 ^ x.toNat) a < 2 ^ m
  | [], a, ha, _ => ha
  | x :: g, a, ha, hg => by
    refine bits_lt g _ (Nat.or_lt_two_pow ha ?_) (fun y hy => hg y (List.mem_cons_of_mem _ hy))
    exact Nat.pow_lt_pow_right (by decide) (hg x List.mem_cons_self)
theorem bitsOf_lt {m : Nat} {g : List Int} (hg : ∀ x ∈ g, x.toNat < m) : bitsOf g < 2 ^ m := bits_lt g 0 (Nat.two_pow_pos m) hg
theorem rises_mem {lo hi : Int} {g : List Int} (h : Rises lo hi g) : ∀ x ∈ g, lo ≤ x ∧ x ≤ hi := fun x hx => by
  obtain ⟨i, hi', rfl⟩ := List.getElem_of_mem hx
  have := (h i hi').1
  simpa [List.getD_eq_getElem?_getD, List.getElem?_eq_getElem hi'] using this
theorem bits_take (g : List Int) (i : Nat) (h : i < g.length) : bitsOf (g.take (i + 1)) = bitsOf (g.take i) ||| 2 ^ (g.getD i 0).toNat := by
  unfold bitsOf
  rw [List.take_succ_eq_append_getElem h, List.foldl_append]
  simp [List.getD_eq_getElem?_getD, List.getElem?_eq_getElem h]
theorem small_pow {m : Nat} (hm : m ≤ 8) : 2 ^ m ≤ 256 := by
  have h1 : (2 : Nat) ^ m ≤ 2 ^ 8 := Nat.pow_le_pow_right (by decide) hm
  have h2 : (2 : Nat) ^ 8 = 256 := by decide
  omega
section
variable {g : List Int} {m : Nat} (hm : m ≤ 8) (hg : ∀ x ∈ g, 0 ≤ x ∧ x < m) (hl : g.length ≤ 9223372036854775806)
include hm hg
theorem step_small (i : Nat) (hi : i < g.length) : ∃ n : Nat, g.getD i 0 = (n : Int) ∧ n < m ∧ bitsOf (g.take i) < 256 ∧ 2 ^ n < 256 := by
  have h1 : g.getD i 0 ∈ g := by
    rw [List.getD_eq_getElem?_getD, List.getElem?_eq_getElem hi]
    exact List.getElem_mem hi
  obtain ⟨h2, h3⟩ := hg _ h1
  refine ⟨(g.getD i 0).toNat, by omega, by omega, ?_, ?_⟩
  · have : bitsOf (g.take i) < 2 ^ m := bitsOf_lt (fun x hx => by have := hg x (List.mem_of_mem_take hx); omega)
    have := small_pow hm
    omega
  · have : 2 ^ (g.getD i 0).toNat < 2 ^ m := Nat.pow_lt_pow_right (by decide) (by omega)
    have := small_pow hm
    omega
include hl
theorem crowdOf_ev : Ev (fun k => F.impl_crowdOf.f k g) ((bitsOf g : Nat) : Int) := by
  unfold F.impl_crowdOf.f
  have h := ev_down g.length (fun k i => F.impl_crowdOf.l0 k ((bitsOf (g.take i) : Nat) : Int) g g.length (i : Int)) ((bitsOf g : Nat) : Int) ?_ ?_ g.length 0 (by omega)
  · exact h
  · refine ev_succ (fun k => ?_)
    simp only [F.impl_crowdOf.l0]
    rw [if_neg (by omega), List.take_length]
  · intro i hi h
    refine Ev.step (fun k => ?_) h
    obtain ⟨n, e, hn, hb, hp⟩ := step_small hm hg i hi
    simp only [F.impl_crowdOf.l0, rd_nat, e]
    rw [if_pos (by omega), if_pos (by omega), if_pos (by omega), if_pos (by omega), shl_u64 (by omega), or_u64 (by omega) (by omega), w64 (by omega) (by omega), bits_take g i hi, e]
    rfl
theorem l07Bits_ev : Ev (fun k => F.spec_l07Bits.f k g) ((bitsOf g : Nat) : Int) := by
  unfold F.spec_l07Bits.f
  have h := ev_down g.length (fun k i => F.spec_l07Bits.l0 k g ((bitsOf (g.take i) : Nat) : Int) (i : Int)) ((bitsOf g : Nat) : Int) ?_ ?_ g.length 0 (by omega)
  · exact h
  · refine ev_succ (fun k => ?_)
    simp only [F.spec_l07Bits.l0]
    rw [if_neg (by omega), List.take_length]
  · intro i hi h
    refine Ev.step (fun k => ?_) h
    obtain ⟨n, e, hn, hb, hp⟩ := step_small hm hg i hi
    simp only [F.spec_l07Bits.l0, rd_nat, e]
    rw [wu64 (by omega) (by omega), if_pos (by omega), if_pos (by omega), if_pos (by omega), shl_i64 (by omega), or_i64 (by omega) (by omega), w64 (by omega) (by omega), bits_take g i hi, e]
    rfl
end
end Go.Proofs.Ytmniekgnpppbhaa.Pl
