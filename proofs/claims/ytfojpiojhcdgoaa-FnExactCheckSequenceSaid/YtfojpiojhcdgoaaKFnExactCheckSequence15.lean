/- Words, walks and laws that the proof of FnExactCheckSequence stands on, each under its own conditions alone. -/
import Derived.Laws.BitsLemmas
import Derived.IntWalk
import Derived.Test.YtfojpiojhcdgoaaKFnExactCheckSequence01
import Derived.Test.YtfojpiojhcdgoaaKFnExactCheckSequence02
import Derived.Test.YtfojpiojhcdgoaaKFnExactCheckSequence08
import Derived.Test.YtfojpiojhcdgoaaKFnExactCheckSequence10
import Derived.Test.YtfojpiojhcdgoaaKFnExactCheckSequence04
import Derived.Test.YtfojpiojhcdgoaaKFnExactCheckSequence11
import Derived.Test.YtfojpiojhcdgoaaKFnExactCheckSequence07
import Derived.Test.YtfojpiojhcdgoaaKFnExactCheckSequence06
section
namespace Go.Proofs.Ytfojpiojhcdgoaa.Pl
open Go.RowKit Go.Proofs.YtfojpiojhcdgoaaW.PrintWords Go.Proofs.YtfojpiojhcdgoaaW.PrintLast Go.Proofs.YtfojpiojhcdgoaaW.PrintMore
theorem w64 {n : Int} (h0 : -9223372036854775808 ≤ n) (h1 : n ≤ 9223372036854775807) : wrap64 n = n := IntWalk.wrap64_in n ⟨h0, h1⟩
theorem wu64 {n : Int} (h0 : 0 ≤ n) (h1 : n < 18446744073709551616) : IntKind.u64.wrap n = n := by
  simp [IntKind.wrap, IntKind.bits, IntKind.signed]; omega
theorem ki64 {n : Int} (h0 : -9223372036854775808 ≤ n) (h1 : n ≤ 9223372036854775807) : IntKind.i64.wrap n = n := by
  rw [IntKind.wrap_i64]; omega
theorem and_i64 {a b : Nat} (ha : a < 1024) (hb : b < 1024) : Go.bits .and .i64 (a : Int) (b : Int) = ((a &&& b : Nat) : Int) :=
  (bits_nat .i64 10 (by decide) (fun n h0 h1 => ki64 (by omega) (by have : (2 : Int) ^ 10 = 1024 := rfl; omega)) a b ha hb).1
theorem or_i64 {a b : Nat} (ha : a < 1024) (hb : b < 1024) : Go.bits .or .i64 (a : Int) (b : Int) = ((a ||| b : Nat) : Int) :=
  (bits_nat .i64 10 (by decide) (fun n h0 h1 => ki64 (by omega) (by have : (2 : Int) ^ 10 = 1024 := rfl; omega)) a b ha hb).2
theorem and_u64 {a b : Nat} (ha : a < 1024) (hb : b < 1024) : Go.bits .and .u64 (a : Int) (b : Int) = ((a &&& b : Nat) : Int) :=
  (bits_nat .u64 10 (by decide) (fun n h0 h1 => wu64 h0 (by have : (2 : Int) ^ 10 = 1024 := rfl; omega)) a b ha hb).1
theorem or_u64 {a b : Nat} (ha : a < 1024) (hb : b < 1024) : Go.bits .or .u64 (a : Int) (b : Int) = ((a ||| b : Nat) : Int) :=
  (bits_nat .u64 10 (by decide) (fun n h0 h1 => wu64 h0 (by have : (2 : Int) ^ 10 = 1024 := rfl; omega)) a b ha hb).2
theorem pow_small {h : Nat} (hh : h ≤ 20) : ∃ m : Nat, 2 ^ h = m ∧ m ≤ 1048576 ∧ (2 : Int) ^ h = (m : Int) :=
  ⟨2 ^ h, rfl, by
    have h1 : (2 : Nat) ^ h ≤ 2 ^ 20 := Nat.pow_le_pow_right (by decide) hh
    have h2 : (2 : Nat) ^ 20 = 1048576 := by decide
    omega, (Int.natCast_pow 2 h).symm⟩
theorem shl_i64 {h : Nat} (hh : h ≤ 20) : shl .i64 1 (h : Int) = ((2 ^ h : Nat) : Int) := by
  unfold shl
  have e : min (h : Int).toNat IntKind.i64.bits = h := by
    show min (h : Int).toNat 64 = h
    omega
  obtain ⟨m, h1, h2, h3⟩ := pow_small hh
  rw [e, Int.one_mul, h3, h1]
  exact ki64 (by omega) (by omega)
theorem shl_u64 {h : Nat} (hh : h ≤ 20) : shl .u64 1 (h : Int) = ((2 ^ h : Nat) : Int) := by
  unfold shl
  have e : min (h : Int).toNat IntKind.u64.bits = h := by
    show min (h : Int).toNat 64 = h
    omega
  obtain ⟨m, h1, h2, h3⟩ := pow_small hh
  rw [e, Int.one_mul, h3, h1]
  exact wu64 (by omega) (by omega)
theorem ev_of {α : Type} {g f : Nat → Option α} {r : α} (h : ∀ k, g k = f k) (k : Ev f r) : Ev g r := Ev.congr h k
theorem ev_some {α : Type} {g : Nat → Option α} {r : α} (h : ∀ k, g k = some r) : Ev g r := ⟨0, fun k _ => h k⟩
theorem ev_succ {α : Type} {g : Nat → Option α} {r : α} (h : ∀ k, g (k + 1) = some r) : Ev g r := Ev.step h (Ev.now r)
theorem ev_down {α : Type} (n : Nat) (F : Nat → Nat → Option α) (r : α) (he : Ev (fun k => F k n) r) (hs : ∀ i, i < n → Ev (fun k => F k (i + 1)) r → Ev (fun k => F k i) r) : ∀ d i, i + d = n → Ev (fun k => F k i) r
  | 0, i, h => by
    have : i = n := by omega
    subst this
    exact he
  | d + 1, i, h => hs i (by omega) (ev_down n F r he hs d (i + 1) (by omega))
theorem ev_yes {α : Type} (n : Nat) (F : Nat → Nat → Option α) (P : Nat → Prop) (c : α) (he : Ev (fun k => F k n) c) (hs : ∀ i, i < n → P i → ∀ r, Ev (fun k => F k (i + 1)) r → Ev (fun k => F k i) r) (hP : ∀ i, i < n → P i) : Ev (fun k => F k 0) c :=
  ev_down n F c he (fun i hi h => hs i hi (hP i hi) c h) n 0 (by omega)
theorem ev_no {α : Type} (n : Nat) (F : Nat → Nat → Option α) (P : Nat → Prop) (no : α) (hs : ∀ i, i < n → P i → ∀ r, Ev (fun k => F k (i + 1)) r → Ev (fun k => F k i) r) (hn : ∀ i, i < n → ¬ P i → Ev (fun k => F k i) no) (hP : ∃ i, i < n ∧ ¬ P i) : Ev (fun k => F k 0) no := by
  classical
  have key : ∀ d i, i + d = n → (∃ j, i ≤ j ∧ j < n ∧ ¬ P j) → Ev (fun k => F k i) no := by
    intro d
    induction d with
    | zero => rintro i h ⟨j, h1, h2, _⟩; omega
    | succ d ih =>
      rintro i h ⟨j, h1, h2, h3⟩
      by_cases hi : P i
      · refine hs i (by omega) hi no (ih (i + 1) (by omega) ⟨j, ?_, h2, h3⟩)
        rcases Nat.eq_or_lt_of_le h1 with rfl | h4
        · exact absurd hi h3
        · exact h4
      · exact hn i (by omega) hi
  obtain ⟨i, h1, h2⟩ := hP
  exact key n 0 (by omega) ⟨i, Nat.zero_le _, h1, h2⟩
theorem rd_nat (l : List Int) (i : Nat) : rd l (i : Int) = l.getD i 0 := by simp [rd]
theorem take_replicate_set (l : List Int) (i : Nat) (h : i < l.length) : (l.take i ++ List.replicate (l.length - i) (0 : Int)).set i (l.getD i 0) = l.take (i + 1) ++ List.replicate (l.length - (i + 1)) 0 := by
  apply List.ext_getElem
  · simp; omega
  · intro j h1 h2
    simp only [List.length_set, List.length_append, List.length_take, List.length_replicate] at h1
    rw [List.getElem_set]
    by_cases e : i = j
    · subst e
      rw [if_pos rfl, List.getElem_append_left (by simp; omega)]
      simp [List.getD_eq_getElem?_getD, List.getElem?_eq_getElem h]
    · rw [if_neg e]
      by_cases hj : j < i
      · rw [List.getElem_append_left (by simp; omega), List.getElem_append_left (by simp; omega)]
        simp
      · rw [List.getElem_append_right (by simp; omega), List.getElem_append_right (by simp; omega)]
        simp
end Go.Proofs.Ytfojpiojhcdgoaa.Pl
end
section
namespace Go.Proofs.Ytfojpiojhcdgoaa.Pl
open Go.RowKit Go.Proofs.YtfojpiojhcdgoaaW.PrintWords Go.Proofs.YtfojpiojhcdgoaaW.PrintLast Go.Proofs.YtfojpiojhcdgoaaW.PrintMore
set_option linter.unusedVariables false
theorem g_within (a b c : Int) : F.impl_within.f a b c = some (decide (b ≤ a ∧ a ≤ c)) := by
  unfold F.impl_within.f
  by_cases h : a ≥ b
  · rw [if_pos h]; simp [h]
  · rw [if_neg h]; simp [h]
theorem g_in (a b c : Int) : F.spec_l00In.f a b c = some (decide (b ≤ a ∧ a ≤ c)) := by
  unfold F.spec_l00In.f
  by_cases h : a ≥ b
  · rw [if_pos h]; simp [h]
  · rw [if_neg h]; simp [h]
def RiseAt (lo hi : Int) (g : List Int) (i : Nat) : Prop := (lo ≤ g.getD i 0 ∧ g.getD i 0 ≤ hi) ∧ (0 < i → g.getD (i - 1) 0 < g.getD i 0)
def Rises (lo hi : Int) (g : List Int) : Prop := ∀ i, i < g.length → RiseAt lo hi g i
noncomputable def risesB (lo hi : Int) (g : List Int) : Bool := @decide (Rises lo hi g) (Classical.propDecidable _)
theorem risesB_iff {lo hi : Int} {g : List Int} : risesB lo hi g = true ↔ Rises lo hi g := by unfold risesB; exact @decide_eq_true_iff _ (Classical.propDecidable _)
theorem not_rises {lo hi : Int} {g : List Int} (h : ¬ Rises lo hi g) : ∃ i, i < g.length ∧ ¬ RiseAt lo hi g i := by
  apply Classical.byContradiction
  intro hn
  exact h (fun i hi => Classical.byContradiction (fun hc => hn ⟨i, hi, hc⟩))
theorem rises_round (lo hi : Int) (g : List Int) (hl : g.length ≤ 9223372036854775806) (i : Nat) (hi' : i < g.length) (k : Nat) :
    (RiseAt lo hi g i → F.spec_l00Rises.l0 (k + 1) g lo hi (i : Int) = F.spec_l00Rises.l0 k g lo hi ((i + 1 : Nat) : Int)) ∧
    (¬ RiseAt lo hi g i → F.spec_l00Rises.l0 (k + 1) g lo hi (i : Int) = some false) := by
  have e1 : wrap64 ((i : Int) + 1) = ((i + 1 : Nat) : Int) := by rw [w64 (by omega) (by omega)]; rfl
  simp only [F.spec_l00Rises.l0, g_in, Option.bind_some, decide_eq_true_eq, rd_nat, e1, if_pos (show (i : Int) < (g.length : Int) by omega), if_pos (show (0 : Int) ≤ (i : Int) by omega)]
  rcases Nat.eq_zero_or_pos i with rfl | hp
  · rw [if_neg (show ¬ (((0 : Nat) : Int) > 0) by omega)]
    constructor
    · intro h; rw [if_pos h.1]
    · intro h; rw [if_neg (fun hc => h ⟨hc, fun h0 => absurd h0 (by omega)⟩)]
  · have e2 : wrap64 ((i : Int) - 1) = ((i - 1 : Nat) : Int) := by rw [w64 (by omega) (by omega)]; omega
    simp only [e2, if_pos (show (i : Int) > 0 by omega), if_pos (show (0 : Int) ≤ ((i - 1 : Nat) : Int) by omega), if_pos (show ((i - 1 : Nat) : Int) < (g.length : Int) by omega), rd_nat]
    constructor
    · intro h; rw [if_pos h.1, if_neg (by have := h.2 hp; omega)]
    · intro h
      by_cases c : lo ≤ g.getD i 0 ∧ g.getD i 0 ≤ hi
      · rw [if_pos c, if_pos (by have : ¬ (g.getD (i - 1) 0 < g.getD i 0) := fun hc => h ⟨c, fun _ => hc⟩; omega)]
      · rw [if_neg c]
theorem rises_ev (lo hi : Int) (g : List Int) (hl : g.length ≤ 9223372036854775806) : Ev (fun k => F.spec_l00Rises.f k g lo hi) (risesB lo hi g) := by
  unfold F.spec_l00Rises.f
  have hs : ∀ i, i < g.length → RiseAt lo hi g i → ∀ r, Ev (fun k => F.spec_l00Rises.l0 k g lo hi ((i + 1 : Nat) : Int)) r → Ev (fun k => F.spec_l00Rises.l0 k g lo hi (i : Int)) r := fun i hi' hP r h => Ev.step (fun k => (rises_round lo hi g hl i hi' k).1 hP) h
  by_cases c : Rises lo hi g
  · rw [risesB_iff.2 c]
    refine ev_yes g.length (fun k i => F.spec_l00Rises.l0 k g lo hi (i : Int)) (RiseAt lo hi g) true (ev_succ (fun k => ?_)) hs c
    simp only [F.spec_l00Rises.l0]
    rw [if_neg (by omega)]
  · rw [show risesB lo hi g = false from by cases h : risesB lo hi g <;> simp_all [risesB_iff]]
    exact ev_no g.length (fun k i => F.spec_l00Rises.l0 k g lo hi (i : Int)) (RiseAt lo hi g) false hs (fun i hi' hP => ev_succ (fun k => (rises_round lo hi g hl i hi' k).2 hP)) (not_rises c)
theorem group_round (h : Int) (hh : -9223372036854775807 ≤ h ∧ h ≤ 9223372036854775807) (g : List Int) (hl : g.length ≤ 9223372036854775806) (i : Nat) (hi' : i < g.length) (k : Nat) :
    (RiseAt 0 (h - 1) g i → F.impl_isGroup.l0 (k + 1) h g g g.length (i : Int) = F.impl_isGroup.l0 k h g g g.length ((i + 1 : Nat) : Int)) ∧
    (¬ RiseAt 0 (h - 1) g i → F.impl_isGroup.l0 (k + 1) h g g g.length (i : Int) = some false) := by
  have e1 : wrap64 ((i : Int) + 1) = ((i + 1 : Nat) : Int) := by rw [w64 (by omega) (by omega)]; rfl
  simp only [F.impl_isGroup.l0, g_within, Option.bind_some, decide_eq_true_eq, rd_nat, e1, w64 (show -9223372036854775808 ≤ h - 1 by omega) (by omega), if_pos (show (i : Int) < (g.length : Int) by omega), if_pos (show (0 : Int) ≤ (i : Int) by omega)]
  rcases Nat.eq_zero_or_pos i with rfl | hp
  · rw [if_neg (show ¬ (((0 : Nat) : Int) > 0) by omega)]
    constructor
    · intro h; rw [if_pos h.1]
    · intro h; rw [if_neg (fun hc => h ⟨hc, fun h0 => absurd h0 (by omega)⟩)]
  · have e2 : wrap64 ((i : Int) - 1) = ((i - 1 : Nat) : Int) := by rw [w64 (by omega) (by omega)]; omega
    simp only [e2, if_pos (show (i : Int) > 0 by omega), if_pos (show (0 : Int) ≤ ((i - 1 : Nat) : Int) by omega), if_pos (show ((i - 1 : Nat) : Int) < (g.length : Int) by omega), rd_nat]
    constructor
    · intro h; rw [if_pos h.1, if_neg (by have := h.2 hp; omega)]
    · intro hn
      by_cases c : 0 ≤ g.getD i 0 ∧ g.getD i 0 ≤ h - 1
      · rw [if_pos c, if_pos (by have : ¬ (g.getD (i - 1) 0 < g.getD i 0) := fun hc => hn ⟨c, fun _ => hc⟩; omega)]
      · rw [if_neg c]
theorem isGroup_ev (h : Int) (hh : -9223372036854775807 ≤ h ∧ h ≤ 9223372036854775807) (g : List Int) (hl : g.length ≤ 9223372036854775806) : Ev (fun k => F.impl_isGroup.f k h g) (risesB 0 (h - 1) g) := by
  unfold F.impl_isGroup.f
  have hs : ∀ i, i < g.length → RiseAt 0 (h - 1) g i → ∀ r, Ev (fun k => F.impl_isGroup.l0 k h g g g.length ((i + 1 : Nat) : Int)) r → Ev (fun k => F.impl_isGroup.l0 k h g g g.length (i : Int)) r := fun i hi' hP r h' => Ev.step (fun k => (group_round h hh g hl i hi' k).1 hP) h'
  by_cases c : Rises 0 (h - 1) g
  · rw [risesB_iff.2 c]
    refine ev_yes g.length (fun k i => F.impl_isGroup.l0 k h g g g.length (i : Int)) (RiseAt 0 (h - 1) g) true (ev_succ (fun k => ?_)) hs c
    simp only [F.impl_isGroup.l0]
    rw [if_neg (by omega)]
  · rw [show risesB 0 (h - 1) g = false from by cases h : risesB 0 (h - 1) g <;> simp_all [risesB_iff]]
    exact ev_no g.length (fun k i => F.impl_isGroup.l0 k h g g g.length (i : Int)) (RiseAt 0 (h - 1) g) false hs (fun i hi' hP => ev_succ (fun k => (group_round h hh g hl i hi' k).2 hP)) (not_rises c)
def bitsOf (g : List Int) : Nat := g.foldl (fun a x => a ||| 2 ^ x.toNat) 0
theorem bits_lt {m : Nat} : ∀ (g : List Int) (a : Nat), a < 2 ^ m → (∀ x ∈ g, x.toNat < m) → g.foldl (fun a x => a ||| 2 ^ x.toNat) a < 2 ^ m
  | [], a, ha, _ => ha
  | x :: g, a, ha, hg => by
    refine bits_lt g _ (Nat.or_lt_two_pow ha ?_) (fun y hy => hg y (List.mem_cons_of_mem _ hy))
    exact Nat.pow_lt_pow_right (by decide) (hg x List.mem_cons_self)
theorem bitsOf_lt {m : Nat} {g : List Int} (hg : ∀ x ∈ g, x.toNat < m) : bitsOf g < 2 ^ m := bits_lt g 0 (Nat.two_pow_pos m) hg
theorem rises_mem {lo hi : Int} {g : List Int} (h : Rises lo hi g) : ∀ x ∈ g, lo ≤ x ∧ x ≤ hi := fun x hx => by
  obtain ⟨i, hi', rfl⟩ := List.getElem_of_mem hx
  have := (h i hi').1
  simpa [List.getD_eq_getElem?_getD, List.getElem?_eq_getElem hi'] using this
theorem bits_take (g : List Int) (i : Nat) (h : i < g.length) : bitsOf (g.take (i + 1)) = bitsOf (g.take i) ||| 2 ^ (g.getD i 0).toNat := by
  unfold bitsOf
  rw [List.take_succ_eq_append_getElem h, List.foldl_append]
  simp [List.getD_eq_getElem?_getD, List.getElem?_eq_getElem h]
theorem small_pow {m : Nat} (hm : m ≤ 8) : 2 ^ m ≤ 256 := by
  have h1 : (2 : Nat) ^ m ≤ 2 ^ 8 := Nat.pow_le_pow_right (by decide) hm
  have h2 : (2 : Nat) ^ 8 = 256 := by decide
  omega
section
variable {g : List Int} {m : Nat} (hm : m ≤ 8) (hg : ∀ x ∈ g, 0 ≤ x ∧ x < m) (hl : g.length ≤ 9223372036854775806)
include hm hg
theorem step_small (i : Nat) (hi : i < g.length) : ∃ n : Nat, g.getD i 0 = (n : Int) ∧ n < m ∧ bitsOf (g.take i) < 256 ∧ 2 ^ n < 256 := by
  have h1 : g.getD i 0 ∈ g := by
    rw [List.getD_eq_getElem?_getD, List.getElem?_eq_getElem hi]
    exact List.getElem_mem hi
  obtain ⟨h2, h3⟩ := hg _ h1
  refine ⟨(g.getD i 0).toNat, by omega, by omega, ?_, ?_⟩
  · have : bitsOf (g.take i) < 2 ^ m := bitsOf_lt (fun x hx => by have := hg x (List.mem_of_mem_take hx); omega)
    have := small_pow hm
    omega
  · have : 2 ^ (g.getD i 0).toNat < 2 ^ m := Nat.pow_lt_pow_right (by decide) (by omega)
    have := small_pow hm
    omega
include hl
theorem crowdOf_ev : Ev (fun k => F.impl_crowdOf.f k g) ((bitsOf g : Nat) : Int) := by
  unfold F.impl_crowdOf.f
  have h := ev_down g.length (fun k i => F.impl_crowdOf.l0 k ((bitsOf (g.take i) : Nat) : Int) g g.length (i : Int)) ((bitsOf g : Nat) : Int) ?_ ?_ g.length 0 (by omega)
  · exact h
  · refine ev_succ (fun k => ?_)
    simp only [F.impl_crowdOf.l0]
    rw [if_neg (by omega), List.take_length]
  · intro i hi h
    refine Ev.step (fun k => ?_) h
    obtain ⟨n, e, hn, hb, hp⟩ := step_small hm hg i hi
    simp only [F.impl_crowdOf.l0, rd_nat, e]
    rw [if_pos (by omega), if_pos (by omega), if_pos (by omega), if_pos (by omega), shl_u64 (by omega), or_u64 (by omega) (by omega), w64 (by omega) (by omega), bits_take g i hi, e]
    rfl
theorem l07Bits_ev : Ev (fun k => F.spec_l07Bits.f k g) ((bitsOf g : Nat) : Int) := by
  unfold F.spec_l07Bits.f
  have h := ev_down g.length (fun k i => F.spec_l07Bits.l0 k g ((bitsOf (g.take i) : Nat) : Int) (i : Int)) ((bitsOf g : Nat) : Int) ?_ ?_ g.length 0 (by omega)
  · exact h
  · refine ev_succ (fun k => ?_)
    simp only [F.spec_l07Bits.l0]
    rw [if_neg (by omega), List.take_length]
  · intro i hi h
    refine Ev.step (fun k => ?_) h
    obtain ⟨n, e, hn, hb, hp⟩ := step_small hm hg i hi
    simp only [F.spec_l07Bits.l0, rd_nat, e]
    rw [wu64 (by omega) (by omega), if_pos (by omega), if_pos (by omega), if_pos (by omega), shl_i64 (by omega), or_i64 (by omega) (by omega), w64 (by omega) (by omega), bits_take g i hi, e]
    rfl
end
end Go.Proofs.Ytfojpiojhcdgoaa.Pl
end
section
namespace Go.Proofs.Ytfojpiojhcdgoaa.Pl
open Go.RowKit Go.Proofs.YtfojpiojhcdgoaaW.PrintWords Go.Proofs.YtfojpiojhcdgoaaW.PrintLast Go.Proofs.YtfojpiojhcdgoaaW.PrintMore
set_option linter.unusedVariables false
set_option linter.unusedSectionVars false
theorem ev_loop {α : Type} (n : Nat) (F : Nat → Nat → Option α) (P : Nat → Prop) (yes no : α) (hs : ∀ i, i < n → (∀ j, j < i → P j) → P i → ∀ r, Ev (fun k => F k (i + 1)) r → Ev (fun k => F k i) r)
    (hn : ∀ i, i < n → (∀ j, j < i → P j) → ¬ P i → Ev (fun k => F k i) no) (he : (∀ i, i < n → P i) → Ev (fun k => F k n) yes) :
    ((∀ i, i < n → P i) → Ev (fun k => F k 0) yes) ∧ (¬ (∀ i, i < n → P i) → Ev (fun k => F k 0) no) := by
  classical
  constructor
  · intro h
    exact ev_down n F yes (he h) (fun i hi e => hs i hi (fun j hj => h j (by omega)) (h i hi) yes e) n 0 (by omega)
  · intro h
    have h1 : ∃ i, i < n ∧ ¬ P i := by
      apply Classical.byContradiction
      intro hc
      exact h (fun i hi => Classical.byContradiction (fun hp => hc ⟨i, hi, hp⟩))
    have key : ∀ m, (∃ i, i < m ∧ i < n ∧ ¬ P i) → ∃ i, i < n ∧ ¬ P i ∧ ∀ j, j < i → P j := by
      intro m
      induction m with
      | zero => rintro ⟨i, h, _⟩; omega
      | succ m ih =>
        rintro ⟨i, hi, hin, hp⟩
        by_cases c : ∃ i, i < m ∧ i < n ∧ ¬ P i
        · exact ih c
        · refine ⟨i, hin, hp, fun j hj => Classical.byContradiction (fun hpj => c ⟨j, by omega, by omega, hpj⟩)⟩
    obtain ⟨i, hi, hp⟩ := h1
    obtain ⟨i, hin, hp, hj⟩ := key n ⟨i, hi, hi, hp⟩
    refine ev_down i F no (hn i hin hj hp) (fun j hji e => hs j (by omega) (fun q hq => hj q (by omega)) (hj j hji) no e) i 0 (by omega)
theorem rd_L1_nat (l : List (List Int)) (i : Nat) : F.rd_L1 l (i : Int) = l.getD i [] := by simp [F.rd_L1]
def lexB : List Int → List Int → Bool
  | [], [] => false
  | [], _ :: _ => true
  | _ :: _, [] => false
  | a :: xs, b :: ys => if a = b then lexB xs ys else decide (a < b)
theorem getD_drop (l : List Int) (i : Nat) (h : i < l.length) : l.drop i = l.getD i 0 :: l.drop (i + 1) := by
  rw [List.drop_eq_getElem_cons h]
  simp [List.getD_eq_getElem?_getD, List.getElem?_eq_getElem h]
theorem before_ev (a b : List Int) (ha : a.length ≤ 9223372036854775806) (hb : b.length ≤ 9223372036854775806) : Ev (fun k => F.spec_l01Before.f k a b) (lexB a b) := by
  have key : ∀ d i, i + d = a.length → Ev (fun k => F.spec_l01Before.l0 k a b (i : Int)) (lexB (a.drop i) (b.drop i)) := by
    intro d
    induction d with
    | zero =>
      intro i hi
      have e : a.drop i = [] := List.drop_eq_nil_of_le (by omega)
      refine Ev.step (f := fun k => F.spec_l01Before.j1 k a b (i : Int) false) (fun k => by simp only [F.spec_l01Before.l0]; rw [if_neg (by omega)]) ?_
      refine ev_succ (fun k => ?_)
      simp only [F.spec_l01Before.j1]
      rw [if_neg (by simp), e]
      by_cases c : i < b.length
      · rw [getD_drop b i c]; simp [lexB]; omega
      · rw [List.drop_eq_nil_of_le (by omega)]; simp [lexB]; omega
    | succ d ih =>
      intro i hi
      have hia : i < a.length := by omega
      refine Ev.step (f := fun k => F.spec_l01Before.j1 k a b (i : Int) (decide ((i : Int) < (b.length : Int)))) (fun k => by simp only [F.spec_l01Before.l0]; rw [if_pos (by omega)]) ?_
      rw [getD_drop a i hia]
      by_cases c : i < b.length
      · rw [getD_drop b i c]
        have c' : (decide ((i : Int) < (b.length : Int))) = true := by simpa using c
        rw [c']
        by_cases e : a.getD i 0 = b.getD i 0
        · rw [lexB, if_pos e]
          refine Ev.step (fun k => ?_) (ih (i + 1) (by omega))
          simp only [F.spec_l01Before.j1, if_true, rd_nat]
          rw [if_pos (by omega), if_pos (by omega), if_pos (by omega), if_pos e, w64 (by omega) (by omega)]
          rfl
        · rw [lexB, if_neg e]
          refine ev_succ (fun k => ?_)
          simp only [F.spec_l01Before.j1, if_true, rd_nat]
          rw [if_pos (by omega), if_pos (by omega), if_pos (by omega), if_neg e]
      · have c' : (decide ((i : Int) < (b.length : Int))) = false := by simpa using c
        rw [c', List.drop_eq_nil_of_le (show b.length ≤ i by omega), lexB]
        refine ev_succ (fun k => ?_)
        simp only [F.spec_l01Before.j1]
        rw [if_neg (by simp)]
        simp; omega
  have := key a.length 0 (by omega)
  simpa [F.spec_l01Before.f] using this
theorem isNaN_eq (a : Int) : F.cmp_isNaN_int64.f a = some false := by
  unfold F.cmp_isNaN_int64.f
  simp
theorem compare1 (a b : Int) : F.cmp_Compare_int64.f a b = some (if a < b then -1 else if a > b then 1 else 0) := by
  unfold F.cmp_Compare_int64.f
  simp only [isNaN_eq, Option.bind_some, Bool.false_eq_true, if_false]
  by_cases h : a < b
  · rw [if_pos h, if_pos h]
  · rw [if_neg h, if_neg h]
    by_cases h' : a > b
    · rw [if_pos h', if_pos h']
    · rw [if_neg h', if_neg h']
theorem compare_ev (a b : List Int) (ha : a.length ≤ 9223372036854775806) (hb : b.length ≤ 9223372036854775806) : ∃ c : Int, Ev (fun k => F.slices_Compare_int64_int64.f k a b) c ∧ (c ≥ 0 ↔ lexB a b = false) := by
  have key : ∀ d i, i + d = a.length → i ≤ b.length → ∃ c : Int, Ev (fun k => F.slices_Compare_int64_int64.l0 k a b a a.length (i : Int)) c ∧ (c ≥ 0 ↔ lexB (a.drop i) (b.drop i) = false) := by
    intro d
    induction d with
    | zero =>
      intro i hi hib
      have e : a.drop i = [] := List.drop_eq_nil_of_le (by omega)
      by_cases c : i < b.length
      · refine ⟨-1, ev_succ (fun k => ?_), ?_⟩
        · simp only [F.slices_Compare_int64_int64.l0]
          rw [if_neg (by omega), if_pos (by omega)]
        · rw [e, getD_drop b i c]; simp [lexB]
      · refine ⟨0, ev_succ (fun k => ?_), ?_⟩
        · simp only [F.slices_Compare_int64_int64.l0]
          rw [if_neg (by omega), if_neg (by omega)]
        · rw [e, List.drop_eq_nil_of_le (by omega)]; simp [lexB]
    | succ d ih =>
      intro i hi hib
      have hia : i < a.length := by omega
      rw [getD_drop a i hia]
      by_cases c : i < b.length
      · rw [getD_drop b i c]
        by_cases e : a.getD i 0 = b.getD i 0
        · rw [lexB, if_pos e]
          obtain ⟨v, h1, h2⟩ := ih (i + 1) (by omega) (by omega)
          refine ⟨v, Ev.step (fun k => ?_) h1, h2⟩
          simp only [F.slices_Compare_int64_int64.l0, rd_nat, compare1, Option.bind_some]
          rw [if_pos (by omega), if_pos (by omega), if_pos (by omega), if_neg (by omega), if_pos (by omega), if_pos (by rw [if_neg (by omega), if_neg (by omega)]), w64 (by omega) (by omega)]
          rfl
        · rw [lexB, if_neg e]
          refine ⟨if a.getD i 0 < b.getD i 0 then -1 else if a.getD i 0 > b.getD i 0 then 1 else 0, ev_succ (fun k => ?_), ?_⟩
          · simp only [F.slices_Compare_int64_int64.l0, rd_nat, compare1, Option.bind_some]
            rw [if_pos (by omega), if_pos (by omega), if_pos (by omega), if_neg (by omega), if_pos (by omega), if_neg]
            generalize a.getD i 0 = x at *
            generalize b.getD i 0 = y at *
            by_cases h : x < y
            · rw [if_pos h]; decide
            · rw [if_neg h, if_pos (by omega)]; decide
          · generalize a.getD i 0 = x at *
            generalize b.getD i 0 = y at *
            by_cases h : x < y
            · simp [h]
            · rw [if_neg h, if_pos (by omega)]; simp [h]
      · rw [List.drop_eq_nil_of_le (show b.length ≤ i by omega), lexB]
        refine ⟨1, ev_succ (fun k => ?_), by simp⟩
        simp only [F.slices_Compare_int64_int64.l0]
        rw [if_pos (by omega), if_pos (by omega), if_pos (by omega), if_pos (by omega)]
  obtain ⟨c, h1, h2⟩ := key a.length 0 (by omega) (by omega)
  exact ⟨c, h1, by simpa using h2⟩
def GrpAt (h : Int) (gs : List (List Int)) (i : Nat) : Prop := Rises 0 (h - 1) (gs.getD i []) ∧ (0 < i → lexB (gs.getD (i - 1) []) (gs.getD i []) = true)
def Sub (gs : List (List Int)) (i j : Nat) : Prop := bitsOf (gs.getD i []) &&& bitsOf (gs.getD j []) = bitsOf (gs.getD i [])
structure FamOk (h : Int) (gs : List (List Int)) : Prop where
  h1 : 1 ≤ h
  h2 : h ≤ 7
  grp : ∀ i, i < gs.length → GrpAt h gs i
  free : ∀ i, i < gs.length → ∀ j, j < gs.length → i ≠ j → ¬ Sub gs i j
def Short (gs : List (List Int)) : Prop := gs.length ≤ 9223372036854775806 ∧ ∀ i, i < gs.length → (gs.getD i []).length ≤ 9223372036854775806
theorem rises_bound {h : Int} {g : List Int} (h1 : 1 ≤ h) (h2 : h ≤ 7) (hr : Rises 0 (h - 1) g) : ∀ x ∈ g, 0 ≤ x ∧ x < (h.toNat : Nat) := fun x hx => by
  have := rises_mem hr x hx
  omega
theorem bits_small {h : Int} {g : List Int} (h1 : 1 ≤ h) (h2 : h ≤ 7) (hr : Rises 0 (h - 1) g) : bitsOf g < 128 := by
  have h3 : bitsOf g < 2 ^ 7 := bitsOf_lt (fun x hx => by have := rises_mem hr x hx; omega)
  have h4 : (2 : Nat) ^ 7 = 128 := by decide
  omega
theorem l01Bits_ev {g : List Int} {m : Nat} (hm : m ≤ 8) (hg : ∀ x ∈ g, 0 ≤ x ∧ x < m) (hl : g.length ≤ 9223372036854775806) : Ev (fun k => F.spec_l01Bits.f k g) ((bitsOf g : Nat) : Int) := by
  unfold F.spec_l01Bits.f
  have h := ev_down g.length (fun k i => F.spec_l01Bits.l0 k g ((bitsOf (g.take i) : Nat) : Int) (i : Int)) ((bitsOf g : Nat) : Int) ?_ ?_ g.length 0 (by omega)
  · exact h
  · refine ev_succ (fun k => ?_)
    simp only [F.spec_l01Bits.l0]
    rw [if_neg (by omega), List.take_length]
  · intro i hi h
    refine Ev.step (fun k => ?_) h
    obtain ⟨n, e, hn, hb, hp⟩ := step_small hm hg i hi
    simp only [F.spec_l01Bits.l0, rd_nat, e]
    rw [wu64 (by omega) (by omega), if_pos (by omega), if_pos (by omega), if_pos (by omega), shl_i64 (by omega), or_i64 (by omega) (by omega), w64 (by omega) (by omega), bits_take g i hi, e]
    rfl
end Go.Proofs.Ytfojpiojhcdgoaa.Pl
end
section
namespace Go.Proofs.Ytfojpiojhcdgoaa.Pl
open Go.RowKit Go.Proofs.YtfojpiojhcdgoaaW.PrintWords Go.Proofs.YtfojpiojhcdgoaaW.PrintLast Go.Proofs.YtfojpiojhcdgoaaW.PrintMore
set_option linter.unusedVariables false
set_option linter.unusedSectionVars false
instance (gs : List (List Int)) (i j : Nat) : Decidable (Sub gs i j) := inferInstanceAs (Decidable (_ = _))
noncomputable def famB (h : Int) (gs : List (List Int)) : Bool := @decide (FamOk h gs) (Classical.propDecidable _)
theorem famB_iff {h : Int} {gs : List (List Int)} : famB h gs = true ↔ FamOk h gs := by unfold famB; exact @decide_eq_true_iff _ (Classical.propDecidable _)
theorem famB_false {h : Int} {gs : List (List Int)} (hn : ¬ FamOk h gs) : famB h gs = false := by
  cases e : famB h gs with
  | false => rfl
  | true => exact absurd (famB_iff.1 e) hn
theorem risesB_false {lo hi : Int} {g : List Int} (hn : ¬ Rises lo hi g) : risesB lo hi g = false := by
  cases e : risesB lo hi g with
  | false => rfl
  | true => exact absurd (risesB_iff.1 e) hn
section
variable {h : Int} {gs : List (List Int)} (h1 : 1 ≤ h) (h2 : h ≤ 7) (hs : Short gs)
include h1 h2 hs
theorem l01Group_ev (g : List Int) (hl : g.length ≤ 9223372036854775806) : Ev (fun k => F.spec_l01Group.f k h g) (risesB 0 (h - 1) g) := by
  unfold F.spec_l01Group.f
  rw [w64 (by omega) (by omega)]
  exact Ev.bind (rises_ev 0 (h - 1) g hl) (Ev.now _)
theorem ok_round (i : Nat) (hi : i < gs.length) : (GrpAt h gs i → ∀ r, Ev (fun k => F.spec_l01Ok.l0 k ((i + 1 : Nat) : Int) h gs) r → Ev (fun k => F.spec_l01Ok.l0 k (i : Int) h gs) r) ∧ (¬ GrpAt h gs i → Ev (fun k => F.spec_l01Ok.l0 k (i : Int) h gs) false) := by
  have hn := hs.1
  have hg := l01Group_ev h1 h2 hs (gs.getD i []) (hs.2 i hi)
  have e1 : wrap64 ((i : Int) + 1) = ((i + 1 : Nat) : Int) := by rw [w64 (by omega) (by omega)]; rfl
  by_cases c : Rises 0 (h - 1) (gs.getD i [])
  · rw [risesB_iff.2 c] at hg
    rcases Nat.eq_zero_or_pos i with rfl | hp
    · refine ⟨fun _ r e => ?_, fun hn => absurd ⟨c, fun h0 => absurd h0 (by omega)⟩ hn⟩
      refine Ev.step (f := fun k => (F.spec_l01Group.f k h (gs.getD 0 [])).bind fun t => if t = true then F.spec_l01Ok.l0 k ((0 + 1 : Nat) : Int) h gs else some false) (fun k => ?_) (Ev.bind hg (by simpa using e))
      simp only [F.spec_l01Ok.l0, rd_L1_nat, e1]
      rw [if_pos (by omega), if_pos (by omega), if_neg (show ¬ (((0 : Nat) : Int) > 0) by omega)]
    · have e2 : wrap64 ((i : Int) - 1) = ((i - 1 : Nat) : Int) := by rw [w64 (by omega) (by omega)]; omega
      have hb := before_ev (gs.getD (i - 1) []) (gs.getD i []) (hs.2 (i - 1) (by omega)) (hs.2 i hi)
      have key : ∀ r, Ev (fun k => if lexB (gs.getD (i - 1) []) (gs.getD i []) = true then F.spec_l01Ok.l0 k ((i + 1 : Nat) : Int) h gs else some false) r → Ev (fun k => F.spec_l01Ok.l0 k (i : Int) h gs) r := fun r e => by
        refine Ev.step (f := fun k => (F.spec_l01Group.f k h (gs.getD i [])).bind fun t => if t = true then (F.spec_l01Before.f k (gs.getD (i - 1) []) (gs.getD i [])).bind (fun t => if t = true then F.spec_l01Ok.l0 k ((i + 1 : Nat) : Int) h gs else some false) else some false) (fun k => ?_) (Ev.bind hg ?_)
        · simp only [F.spec_l01Ok.l0, rd_L1_nat, e1, e2]
          rw [if_pos (by omega), if_pos (by omega), if_pos (show (i : Int) > 0 by omega), if_pos (by omega), if_pos (by omega)]
        · simp only [if_true]
          exact Ev.bind hb e
      refine ⟨fun hG r e => key r ?_, fun hG => key false ?_⟩
      · simp only [if_pos (hG.2 hp)]; exact e
      · have : ¬ lexB (gs.getD (i - 1) []) (gs.getD i []) = true := fun hl => hG ⟨c, fun _ => hl⟩
        simp only [if_neg this]; exact Ev.now _
  · rw [risesB_false c] at hg
    refine ⟨fun hG => absurd hG.1 c, fun _ => ?_⟩
    refine Ev.step (fun k => ?_) (Ev.bind (f := fun k t => if t = true then (if (i : Int) > 0 then (if 0 ≤ (wrap64 ((i : Int) - 1)) then (if (wrap64 ((i : Int) - 1)) < (gs.length : Int) then ((F.spec_l01Before.f k (F.rd_L1 gs (wrap64 ((i : Int) - 1))) (F.rd_L1 gs (i : Int))).bind fun t106 => (if t106 = true then (F.spec_l01Ok.l0 k (wrap64 ((i : Int) + 1)) h gs) else (some false))) else (none)) else (none)) else (F.spec_l01Ok.l0 k (wrap64 ((i : Int) + 1)) h gs)) else some false) hg ?_)
    · simp only [F.spec_l01Ok.l0]
      rw [if_pos (by omega), if_pos (by omega), rd_L1_nat]
    · simp only [Bool.false_eq_true, if_false]
      exact Ev.now _
variable (hG : ∀ i, i < gs.length → GrpAt h gs i)
include hG
theorem within_ev (i j : Nat) (hi : i < gs.length) (hj : j < gs.length) : Ev (fun k => F.spec_l01Within.f k (gs.getD i []) (gs.getD j [])) (decide (Sub gs i j)) := by
  unfold F.spec_l01Within.f
  have bi := l01Bits_ev (m := h.toNat) (by omega) (rises_bound h1 h2 (hG i hi).1) (hs.2 i hi)
  have bj := l01Bits_ev (m := h.toNat) (by omega) (rises_bound h1 h2 (hG j hj).1) (hs.2 j hj)
  have si := bits_small h1 h2 (hG i hi).1
  have sj := bits_small h1 h2 (hG j hj).1
  refine Ev.bind bi (Ev.bind bj ?_)
  simp only [and_i64 (show bitsOf (gs.getD i []) < 1024 by omega) (show bitsOf (gs.getD j []) < 1024 by omega)]
  refine ev_some (fun k => ?_)
  congr 1
  rw [Bool.eq_iff_iff, beq_iff_eq, @decide_eq_true_iff]
  exact ⟨fun e => by unfold Sub; exact_mod_cast e, fun e => by unfold Sub at e; exact_mod_cast e⟩
theorem ok_inner (i j : Nat) (hi : i < gs.length) (hj : j < gs.length) : ((i ≠ j → ¬ Sub gs i j) → ∀ r, Ev (fun k => F.spec_l01Ok.l2 k (i : Int) ((j + 1 : Nat) : Int) h gs) r → Ev (fun k => F.spec_l01Ok.l2 k (i : Int) (j : Int) h gs) r) ∧ (¬ (i ≠ j → ¬ Sub gs i j) → Ev (fun k => F.spec_l01Ok.l2 k (i : Int) (j : Int) h gs) false) := by
  have hn := hs.1
  have e1 : wrap64 ((j : Int) + 1) = ((j + 1 : Nat) : Int) := by rw [w64 (by omega) (by omega)]; rfl
  by_cases c : i = j
  · refine ⟨fun _ r e => Ev.step (fun k => ?_) e, fun hc => absurd (fun hne => absurd c hne) hc⟩
    simp only [F.spec_l01Ok.l2, e1]
    rw [if_pos (by omega), if_pos (by omega)]
  · have hw := within_ev h1 h2 hs hG i j hi hj
    have key : ∀ r, Ev (fun k => if decide (Sub gs i j) = true then some false else F.spec_l01Ok.l2 k (i : Int) ((j + 1 : Nat) : Int) h gs) r → Ev (fun k => F.spec_l01Ok.l2 k (i : Int) (j : Int) h gs) r := fun r e => by
      refine Ev.step (fun k => ?_) (Ev.bind (f := fun k t => if t = true then some false else F.spec_l01Ok.l2 k (i : Int) ((j + 1 : Nat) : Int) h gs) hw e)
      simp only [F.spec_l01Ok.l2, rd_L1_nat, e1]
      rw [if_pos (by omega), if_neg (by omega), if_pos (by omega), if_pos (by omega), if_pos (by omega)]
    refine ⟨fun hP r e => key r ?_, fun hP => key false ?_⟩
    · simp only [decide_eq_true_eq, if_neg (hP c)]; exact e
    · have : Sub gs i j := Classical.byContradiction (fun hx => hP (fun _ => hx))
      simp only [decide_eq_true_eq, if_pos this]; exact Ev.now _
theorem ok_row (i : Nat) (hi : i < gs.length) : ((∀ j, j < gs.length → i ≠ j → ¬ Sub gs i j) → ∀ r, Ev (fun k => F.spec_l01Ok.l1 k ((i + 1 : Nat) : Int) h gs) r → Ev (fun k => F.spec_l01Ok.l1 k (i : Int) h gs) r) ∧ (¬ (∀ j, j < gs.length → i ≠ j → ¬ Sub gs i j) → Ev (fun k => F.spec_l01Ok.l1 k (i : Int) h gs) false) := by
  have hn := hs.1
  have hin : ∀ r, Ev (fun k => F.spec_l01Ok.l2 k (i : Int) ((0 : Nat) : Int) h gs) r → Ev (fun k => F.spec_l01Ok.l1 k (i : Int) h gs) r := fun r e => by
    refine Ev.step (fun k => ?_) e
    simp only [F.spec_l01Ok.l1]
    rw [if_pos (by omega)]
    rfl
  constructor
  · intro hP r e
    refine hin r ((ev_loop gs.length (fun k j => F.spec_l01Ok.l2 k (i : Int) (j : Int) h gs) (fun j => i ≠ j → ¬ Sub gs i j) r false (fun j hj _ hp => (ok_inner h1 h2 hs hG i j hi hj).1 hp) (fun j hj _ hp => (ok_inner h1 h2 hs hG i j hi hj).2 hp) (fun _ => ?_)).1 hP)
    refine Ev.step (fun k => ?_) e
    simp only [F.spec_l01Ok.l2]
    rw [if_neg (by omega), w64 (by omega) (by omega)]
    rfl
  · intro hP
    exact hin false ((ev_loop gs.length (fun k j => F.spec_l01Ok.l2 k (i : Int) (j : Int) h gs) (fun j => i ≠ j → ¬ Sub gs i j) false false (fun j hj _ hp => (ok_inner h1 h2 hs hG i j hi hj).1 hp) (fun j hj _ hp => (ok_inner h1 h2 hs hG i j hi hj).2 hp) (fun hc => absurd hc hP)).2 hP)
end
theorem spec_fam (h : Int) (gs : List (List Int)) (hs : Short gs) : Ev (fun k => F.spec_ValidFamily.f k h gs) (famB h gs) := by
  unfold F.spec_ValidFamily.f F.spec_l01Ok.f
  simp only [g_in, Option.bind_some, decide_eq_true_eq]
  by_cases c : 1 ≤ h ∧ h ≤ 7
  · simp only [if_pos c]
    refine Ev.bind ?_ (Ev.now _)
    have hn := hs.1
    have L := ev_loop gs.length (fun k i => F.spec_l01Ok.l0 k (i : Int) h gs) (GrpAt h gs) (famB h gs) false (fun i hi _ hp => (ok_round c.1 c.2 hs i hi).1 hp) (fun i hi _ hp => (ok_round c.1 c.2 hs i hi).2 hp) (fun hG => ?_)
    · by_cases hG : ∀ i, i < gs.length → GrpAt h gs i
      · exact L.1 hG
      · rw [famB_false (fun f => hG f.grp)]
        exact L.2 hG
    · have L2 := ev_loop gs.length (fun k i => F.spec_l01Ok.l1 k (i : Int) h gs) (fun i => ∀ j, j < gs.length → i ≠ j → ¬ Sub gs i j) true false (fun i hi _ hp => (ok_row c.1 c.2 hs hG i hi).1 hp) (fun i hi _ hp => (ok_row c.1 c.2 hs hG i hi).2 hp) (fun _ => ev_succ (fun k => by simp only [F.spec_l01Ok.l1]; rw [if_neg (by omega)]))
      refine Ev.step (f := fun k => F.spec_l01Ok.l1 k 0 h gs) (fun k => by simp only [F.spec_l01Ok.l0]; rw [if_neg (by omega)]) ?_
      by_cases hF : ∀ i, i < gs.length → ∀ j, j < gs.length → i ≠ j → ¬ Sub gs i j
      · rw [famB_iff.2 ⟨c.1, c.2, hG, hF⟩]
        exact L2.1 hF
      · rw [famB_false (fun f => hF f.free)]
        exact L2.2 hF
  · simp only [if_neg c, Option.bind_some]
    rw [famB_false (fun f => c ⟨f.h1, f.h2⟩)]
    exact Ev.now _
theorem contains_eq {a b : Nat} (ha : a < 1024) (hb : b < 1024) : F.impl_crowd_contains.f (a : Int) (b : Int) = some (decide (a &&& b = b)) := by
  unfold F.impl_crowd_contains.f
  rw [and_u64 ha hb]
  congr 1
  rw [Bool.eq_iff_iff, beq_iff_eq, decide_eq_true_iff]
  exact ⟨fun e => by exact_mod_cast e, fun e => by exact_mod_cast e⟩
section
variable {h : Int} {gs : List (List Int)} (h1 : 1 ≤ h) (h2 : h ≤ 7) (hs : Short gs)
include h1 h2 hs
def ImpAt (h : Int) (gs : List (List Int)) (i : Nat) : Prop := GrpAt h gs i ∧ ∀ j, j < i → ¬ Sub gs i j ∧ ¬ Sub gs j i
theorem imp_inner (i j : Nat) (hi : i < gs.length) (hj : j < i) (hG : ∀ q, q ≤ i → Rises 0 (h - 1) (gs.getD q [])) (x15 x16 : Int) :
    ((¬ Sub gs i j ∧ ¬ Sub gs j i) → ∀ r, Ev (fun k => F.impl_ValidFamily.l1 k (gs.getD i []) gs x15 x16 (gs.take i) ((gs.take i).length : Int) ((j + 1 : Nat) : Int) h gs) r → Ev (fun k => F.impl_ValidFamily.l1 k (gs.getD i []) gs x15 x16 (gs.take i) ((gs.take i).length : Int) (j : Int) h gs) r) ∧
    (¬ (¬ Sub gs i j ∧ ¬ Sub gs j i) → Ev (fun k => F.impl_ValidFamily.l1 k (gs.getD i []) gs x15 x16 (gs.take i) ((gs.take i).length : Int) (j : Int) h gs) false) := by
  have hn := hs.1
  have hti : (gs.take i).length = i := by rw [List.length_take]; omega
  have htj : (gs.take i).getD j [] = gs.getD j [] := by
    rw [List.getD_eq_getElem?_getD, List.getElem?_take_of_lt hj, List.getD_eq_getElem?_getD]
  have e1 : wrap64 ((j : Int) + 1) = ((j + 1 : Nat) : Int) := by rw [w64 (by omega) (by omega)]; rfl
  have ci := crowdOf_ev (m := h.toNat) (by omega) (rises_bound h1 h2 (hG i (Nat.le_refl _))) (hs.2 i hi)
  have cj := crowdOf_ev (m := h.toNat) (by omega) (rises_bound h1 h2 (hG j (by omega))) (hs.2 j (by omega))
  have si := bits_small h1 h2 (hG i (Nat.le_refl _))
  have sj := bits_small h1 h2 (hG j (by omega))
  have k1 := contains_eq (a := bitsOf (gs.getD j [])) (b := bitsOf (gs.getD i [])) (by omega) (by omega)
  have k2 := contains_eq (a := bitsOf (gs.getD i [])) (b := bitsOf (gs.getD j [])) (by omega) (by omega)
  have t1 : (bitsOf (gs.getD j []) &&& bitsOf (gs.getD i []) = bitsOf (gs.getD i [])) ↔ Sub gs i j := by unfold Sub; rw [Nat.and_comm]
  have t2 : (bitsOf (gs.getD i []) &&& bitsOf (gs.getD j []) = bitsOf (gs.getD j [])) ↔ Sub gs j i := by unfold Sub; rw [Nat.and_comm]
  have key : ∀ r, Ev (fun k => if Sub gs i j then some false else if Sub gs j i then some false else F.impl_ValidFamily.l1 k (gs.getD i []) gs x15 x16 (gs.take i) ((gs.take i).length : Int) ((j + 1 : Nat) : Int) h gs) r → Ev (fun k => F.impl_ValidFamily.l1 k (gs.getD i []) gs x15 x16 (gs.take i) ((gs.take i).length : Int) (j : Int) h gs) r := fun r e => by
    refine Ev.step (fun k => ?_) (Ev.bind (f := fun k t112 => (F.impl_crowdOf.f k (gs.getD i [])).bind fun t113 => ((F.impl_crowd_contains.f t112 t113).bind fun t114 => (if t114 = true then (some false) else ((F.impl_crowd_contains.f t113 t112).bind fun t115 => (if t115 = true then (some false) else (F.impl_ValidFamily.l1 k (gs.getD i []) gs x15 x16 (gs.take i) ((gs.take i).length : Int) ((j + 1 : Nat) : Int) h gs)))))) cj (Ev.bind ci ?_))
    · simp only [F.impl_ValidFamily.l1, rd_L1_nat, htj, e1]
      rw [if_pos (by omega), if_pos (by omega), if_pos (by omega)]
    · simp only [k1, k2, Option.bind_some, decide_eq_true_eq, t1, t2]
      exact e
  refine ⟨fun hP r e => key r ?_, fun hP => key false ?_⟩
  · simp only [if_neg hP.1, if_neg hP.2]; exact e
  · by_cases c : Sub gs i j
    · simp only [if_pos c]; exact Ev.now _
    · have c2 : Sub gs j i := Classical.byContradiction (fun hx => hP ⟨c, hx⟩)
      simp only [if_neg c, if_pos c2]; exact Ev.now _
theorem imp_round (i : Nat) (hi : i < gs.length) (hG : ∀ q, q < i → Rises 0 (h - 1) (gs.getD q [])) :
    (ImpAt h gs i → ∀ r, Ev (fun k => F.impl_ValidFamily.l0 k gs gs.length ((i + 1 : Nat) : Int) h gs) r → Ev (fun k => F.impl_ValidFamily.l0 k gs gs.length (i : Int) h gs) r) ∧
    (¬ ImpAt h gs i → Ev (fun k => F.impl_ValidFamily.l0 k gs gs.length (i : Int) h gs) false) := by
  have hn := hs.1
  have hg := isGroup_ev h (by omega) (gs.getD i []) (hs.2 i hi)
  have hti : (gs.take i).length = i := by rw [List.length_take]; omega
  have bad : ∀ g : Int, Ev (fun k => F.impl_ValidFamily.j1 k (i : Int) (gs.getD i []) gs gs.length (i : Int) true h gs) false := fun _ => ev_succ (fun k => by simp only [F.impl_ValidFamily.j1, if_true])
  by_cases c : Rises 0 (h - 1) (gs.getD i [])
  · rw [risesB_iff.2 c] at hg
    have hG' : ∀ q, q ≤ i → Rises 0 (h - 1) (gs.getD q []) := fun q hq => by
      rcases Nat.eq_or_lt_of_le hq with rfl | hlt
      · exact c
      · exact hG q hlt
    have L := fun (r : Bool) (e : (∀ j, j < i → ¬ Sub gs i j ∧ ¬ Sub gs j i) → Ev (fun k => F.impl_ValidFamily.l0 k gs gs.length ((i + 1 : Nat) : Int) h gs) r) => ev_loop i (fun k j => F.impl_ValidFamily.l1 k (gs.getD i []) gs gs.length (i : Int) (gs.take i) ((gs.take i).length : Int) (j : Int) h gs) (fun j => ¬ Sub gs i j ∧ ¬ Sub gs j i) r false
      (fun j hj _ hp => (imp_inner h1 h2 hs i j hi hj hG' gs.length i).1 hp) (fun j hj _ hp => (imp_inner h1 h2 hs i j hi hj hG' gs.length i).2 hp)
      (fun hall => Ev.step (fun k => by
        simp only [F.impl_ValidFamily.l1]
        rw [if_neg (by omega), w64 (by omega) (by omega)]
        rfl) (e hall))
    have good : ∀ r, Ev (fun k => F.impl_ValidFamily.l1 k (gs.getD i []) gs gs.length (i : Int) (gs.take i) ((gs.take i).length : Int) ((0 : Nat) : Int) h gs) r → Ev (fun k => F.impl_ValidFamily.j1 k (i : Int) (gs.getD i []) gs gs.length (i : Int) false h gs) r := fun r e => by
      refine Ev.step (fun k => ?_) e
      simp only [F.impl_ValidFamily.j1, Bool.false_eq_true, if_false]
      rw [if_pos (by omega), if_pos (by omega), show ((i : Int)).toNat = i from by omega]
      rfl
    have test : ∃ b : Bool, (b = true ↔ ¬ (0 < i → lexB (gs.getD (i - 1) []) (gs.getD i []) = true)) ∧ ∀ r, Ev (fun k => F.impl_ValidFamily.j1 k (i : Int) (gs.getD i []) gs gs.length (i : Int) b h gs) r → Ev (fun k => F.impl_ValidFamily.l0 k gs gs.length (i : Int) h gs) r := by
      rcases Nat.eq_zero_or_pos i with rfl | hp
      · refine ⟨false, by simp, fun r e => ?_⟩
        refine Ev.step (fun k => ?_) (Ev.bind (f := fun k t => if t = true then F.impl_ValidFamily.j1 k ((0 : Nat) : Int) (gs.getD 0 []) gs gs.length ((0 : Nat) : Int) false h gs else F.impl_ValidFamily.j1 k ((0 : Nat) : Int) (gs.getD 0 []) gs gs.length ((0 : Nat) : Int) true h gs) hg (by simpa using e))
        simp only [F.impl_ValidFamily.l0, rd_L1_nat]
        rw [if_pos (by omega), if_pos (by omega), if_pos (by omega), if_neg (show ¬ (((0 : Nat) : Int) > 0) by omega)]
      · obtain ⟨v, hv, hvl⟩ := compare_ev (gs.getD (i - 1) []) (gs.getD i []) (hs.2 (i - 1) (by omega)) (hs.2 i hi)
        have e2 : wrap64 ((i : Int) - 1) = ((i - 1 : Nat) : Int) := by rw [w64 (by omega) (by omega)]; omega
        refine ⟨decide (v ≥ 0), ?_, fun r e => ?_⟩
        · rw [decide_eq_true_iff, hvl]
          constructor
          · intro hl hc; rw [hc hp] at hl; cases hl
          · intro hc
            cases hx : lexB (gs.getD (i - 1) []) (gs.getD i []) with
            | false => rfl
            | true => exact absurd (fun _ => hx) hc
        · refine Ev.step (fun k => ?_) (Ev.bind (f := fun k t => if t = true then (F.slices_Compare_int64_int64.f k (gs.getD (i - 1) []) (gs.getD i [])).bind (fun t => F.impl_ValidFamily.j1 k (i : Int) (gs.getD i []) gs gs.length (i : Int) (decide (t ≥ 0)) h gs) else F.impl_ValidFamily.j1 k (i : Int) (gs.getD i []) gs gs.length (i : Int) true h gs) hg ?_)
          · simp only [F.impl_ValidFamily.l0, rd_L1_nat, e2]
            rw [if_pos (by omega), if_pos (by omega), if_pos (by omega), if_pos (show (i : Int) > 0 by omega), if_pos (by omega), if_pos (by omega)]
          · simp only [if_true]
            exact Ev.bind hv e
    obtain ⟨b, hb, ht⟩ := test
    by_cases cl : 0 < i → lexB (gs.getD (i - 1) []) (gs.getD i []) = true
    · have : b = false := by
        cases b with
        | false => rfl
        | true => exact absurd cl (hb.1 rfl)
      subst this
      refine ⟨fun hP r e => ht r (good r ((L r (fun _ => e)).1 hP.2)), fun hP => ht false (good false ((L false (fun hall => absurd ⟨⟨c, cl⟩, hall⟩ hP)).2 (fun hall => hP ⟨⟨c, cl⟩, hall⟩)))⟩
    · have : b = true := hb.2 cl
      subst this
      exact ⟨fun hP => absurd hP.1.2 cl, fun _ => ht false (bad 0)⟩
  · rw [risesB_false c] at hg
    refine ⟨fun hP => absurd hP.1.1 c, fun _ => ?_⟩
    refine Ev.step (fun k => ?_) (Ev.bind (f := fun k t => if t = true then (if (i : Int) > 0 then (if 0 ≤ (wrap64 ((i : Int) - 1)) then (if (wrap64 ((i : Int) - 1)) < (gs.length : Int) then ((F.slices_Compare_int64_int64.f k (F.rd_L1 gs (wrap64 ((i : Int) - 1))) (gs.getD i [])).bind fun t106 => (F.impl_ValidFamily.j1 k (i : Int) (gs.getD i []) gs gs.length (i : Int) (decide (t106 ≥ 0)) h gs)) else (none)) else (none)) else (F.impl_ValidFamily.j1 k (i : Int) (gs.getD i []) gs gs.length (i : Int) false h gs)) else F.impl_ValidFamily.j1 k (i : Int) (gs.getD i []) gs gs.length (i : Int) true h gs) hg ?_)
    · simp only [F.impl_ValidFamily.l0]
      rw [if_pos (by omega), if_pos (by omega), if_pos (by omega), rd_L1_nat]
    · simp only [Bool.false_eq_true, if_false]
      exact bad 0
end
theorem impl_fam (h : Int) (gs : List (List Int)) (hs : Short gs) : Ev (fun k => F.impl_ValidFamily.f k h gs) (famB h gs) := by
  unfold F.impl_ValidFamily.f
  simp only [g_within, Option.bind_some, decide_eq_true_eq]
  by_cases c : 1 ≤ h ∧ h ≤ 7
  · simp only [if_pos c]
    have hn := hs.1
    have L := ev_loop gs.length (fun k i => F.impl_ValidFamily.l0 k gs gs.length (i : Int) h gs) (ImpAt h gs) true false (fun i hi hj hp => (imp_round c.1 c.2 hs i hi (fun q hq => (hj q hq).1.1)).1 hp) (fun i hi hj hp => (imp_round c.1 c.2 hs i hi (fun q hq => (hj q hq).1.1)).2 hp) (fun _ => ev_succ (fun k => by simp only [F.impl_ValidFamily.l0]; rw [if_neg (by omega)]))
    by_cases hA : ∀ i, i < gs.length → ImpAt h gs i
    · rw [famB_iff.2 ⟨c.1, c.2, fun i hi => (hA i hi).1, fun i hi j hj hne => by
        rcases Nat.lt_or_gt_of_ne hne with hlt | hgt
        · exact ((hA j hj).2 i hlt).2
        · exact ((hA i hi).2 j hgt).1⟩]
      exact L.1 hA
    · rw [famB_false (fun f => hA (fun i hi => ⟨f.grp i hi, fun j hj => ⟨f.free i hi j (by omega) (by omega), f.free j (by omega) i hi (by omega)⟩⟩))]
      exact L.2 hA
  · simp only [if_neg c]
    rw [famB_false (fun f => c ⟨f.h1, f.h2⟩)]
    exact Ev.now _
def HasAll (gs : List (List Int)) (c i : Nat) : Prop := c &&& bitsOf (gs.getD i []) = bitsOf (gs.getD i [])
def Opens (gs : List (List Int)) (c : Nat) : Prop := ∃ i, i < gs.length ∧ HasAll gs c i
noncomputable def opensB (gs : List (List Int)) (c : Nat) : Bool := @decide (Opens gs c) (Classical.propDecidable _)
theorem opensB_iff {gs : List (List Int)} {c : Nat} : opensB gs c = true ↔ Opens gs c := by unfold opensB; exact @decide_eq_true_iff _ (Classical.propDecidable _)
theorem opensB_false {gs : List (List Int)} {c : Nat} (hn : ¬ Opens gs c) : opensB gs c = false := by
  cases e : opensB gs c with
  | false => rfl
  | true => exact absurd (opensB_iff.1 e) hn
theorem opens_ev {h : Int} {gs : List (List Int)} (hf : FamOk h gs) (hs : Short gs) (c : Nat) (hc : c < 128) : Ev (fun k => F.impl_Family_opens.f k h gs (c : Int)) (opensB gs c) := by
  have hn := hs.1
  have h1 := hf.h1
  have h2 := hf.h2
  unfold F.impl_Family_opens.f F.slices_ContainsFunc_int64_int64_impl_Family_opens_1.f F.slices_IndexFunc_int64_int64_impl_Family_opens_1.f
  have one : ∀ i, i < gs.length → Ev (fun k => F.impl_Family_opens_1.f k (gs.getD i []) (c : Int)) (decide (c &&& bitsOf (gs.getD i []) = bitsOf (gs.getD i []))) := fun i hi => by
    unfold F.impl_Family_opens_1.f
    have hr := (hf.grp i hi).1
    have := bits_small h1 h2 hr
    refine Ev.bind (crowdOf_ev (m := h.toNat) (by omega) (rises_bound h1 h2 hr) (hs.2 i hi)) ?_
    simp only [contains_eq (show c < 1024 by omega) (show bitsOf (gs.getD i []) < 1024 by omega), Option.bind_some]
    exact Ev.now _
  have step : ∀ i, i < gs.length → ∀ r, Ev (fun k => if c &&& bitsOf (gs.getD i []) = bitsOf (gs.getD i []) then some (i : Int) else F.slices_IndexFunc_int64_int64_impl_Family_opens_1.l0 k gs gs.length ((i + 1 : Nat) : Int) (c : Int)) r → Ev (fun k => F.slices_IndexFunc_int64_int64_impl_Family_opens_1.l0 k gs gs.length (i : Int) (c : Int)) r := fun i hi r e => by
    refine Ev.step (fun k => ?_) (Ev.bind (f := fun k t => if t = true then some (i : Int) else F.slices_IndexFunc_int64_int64_impl_Family_opens_1.l0 k gs gs.length ((i + 1 : Nat) : Int) (c : Int)) (one i hi) ?_)
    · simp only [F.slices_IndexFunc_int64_int64_impl_Family_opens_1.l0, rd_L1_nat]
      rw [if_pos (by omega), if_pos (by omega), if_pos (by omega), w64 (by omega) (by omega)]
      rfl
    · simp only [decide_eq_true_eq]; exact e
  have find : ∃ v : Int, Ev (fun k => F.slices_IndexFunc_int64_int64_impl_Family_opens_1.l0 k gs gs.length ((0 : Nat) : Int) (c : Int)) v ∧ (v ≥ 0 ↔ Opens gs c) := by
    have key : ∀ d i, i + d = gs.length → ∃ v : Int, Ev (fun k => F.slices_IndexFunc_int64_int64_impl_Family_opens_1.l0 k gs gs.length (i : Int) (c : Int)) v ∧ (v ≥ 0 ↔ ∃ j, i ≤ j ∧ j < gs.length ∧ HasAll gs c j) := by
      intro d
      induction d with
      | zero =>
        intro i hi
        refine ⟨-1, ev_succ (fun k => ?_), ?_⟩
        · simp only [F.slices_IndexFunc_int64_int64_impl_Family_opens_1.l0]
          rw [if_neg (by omega)]
        · constructor
          · intro h; omega
          · rintro ⟨j, h1, h2, _⟩; omega
      | succ d ih =>
        intro i hi
        by_cases hh : c &&& bitsOf (gs.getD i []) = bitsOf (gs.getD i [])
        · refine ⟨(i : Int), step i (by omega) _ ?_, ?_⟩
          · simp only [if_pos hh]; exact Ev.now _
          · exact ⟨fun _ => ⟨i, Nat.le_refl _, by omega, hh⟩, fun _ => by omega⟩
        · obtain ⟨v, e, hv⟩ := ih (i + 1) (by omega)
          refine ⟨v, step i (by omega) _ ?_, ?_⟩
          · simp only [if_neg hh]; exact e
          · rw [hv]
            constructor
            · rintro ⟨j, a, b, p⟩; exact ⟨j, by omega, b, p⟩
            · rintro ⟨j, a, b, p⟩
              rcases Nat.eq_or_lt_of_le a with rfl | hlt
              · exact absurd p hh
              · exact ⟨j, hlt, b, p⟩
    obtain ⟨v, e, hv⟩ := key gs.length 0 (by omega)
    refine ⟨v, e, hv.trans ?_⟩
    unfold Opens
    exact ⟨fun ⟨j, _, b, p⟩ => ⟨j, b, p⟩, fun ⟨j, b, p⟩ => ⟨j, Nat.zero_le _, b, p⟩⟩
  obtain ⟨v, e, hv⟩ := find
  have e' : decide (v ≥ 0) = opensB gs c := by
    rw [Bool.eq_iff_iff, decide_eq_true_iff, opensB_iff, hv]
  refine Ev.bind (Ev.bind e (Ev.now _)) ?_
  simp only [e']
  exact Ev.now _
end Go.Proofs.Ytfojpiojhcdgoaa.Pl
end
section
namespace Go.Proofs.Ytfojpiojhcdgoaa.Pl
open Go.RowKit Go.Proofs.YtfojpiojhcdgoaaW.PrintWords Go.Proofs.YtfojpiojhcdgoaaW.PrintLast Go.Proofs.YtfojpiojhcdgoaaW.PrintMore
set_option linter.unusedVariables false
set_option linter.unusedSectionVars false
noncomputable def codeF (h : Int) (gs : List (List Int)) : Int := if famB h gs = true then (if h > 5 then 3 else if gs.length = 0 then 4 else if (gs.getD 0 []).length = 0 then 4 else 0) else 1
theorem spec_code (h : Int) (gs : List (List Int)) (hs : Short gs) : Ev (fun k => F.spec_l07Family.f k h gs) (codeF h gs) := by
  unfold F.spec_l07Family.f codeF
  refine Ev.bind (spec_fam h gs hs) ?_
  by_cases c : famB h gs = true
  · simp only [if_pos c]
    by_cases c1 : h > 5
    · simp only [if_pos c1]; exact Ev.now _
    · simp only [if_neg c1]
      by_cases c2 : gs.length = 0
      · simp only [if_pos c2, if_pos (show (gs.length : Int) = 0 by omega)]; exact Ev.now _
      · simp only [if_neg c2, if_neg (show ¬ (gs.length : Int) = 0 by omega), if_pos (show (0 : Int) < (gs.length : Int) by omega)]
        rw [show F.rd_L1 gs 0 = gs.getD 0 [] from rd_L1_nat gs 0]
        by_cases c3 : (gs.getD 0 []).length = 0
        · simp only [if_pos c3, if_pos (show ((gs.getD 0 []).length : Int) = 0 by omega)]; exact Ev.now _
        · simp only [if_neg c3, if_neg (show ¬ ((gs.getD 0 []).length : Int) = 0 by omega)]; exact Ev.now _
  · simp only [if_neg c]; exact Ev.now _
theorem impl_code (h : Int) (gs : List (List Int)) (hs : Short gs) : Ev (fun k => F.impl_rankedCode.f k h gs) (codeF h gs) := by
  unfold F.impl_rankedCode.f codeF
  refine Ev.bind (impl_fam h gs hs) ?_
  by_cases c : famB h gs = true
  · simp only [if_pos c]
    by_cases c1 : h > 5
    · simp only [if_pos c1]; exact Ev.now _
    · simp only [if_neg c1]
      by_cases c2 : gs.length = 0
      · simp only [if_pos c2, if_pos (show (gs.length : Int) = 0 by omega)]; exact Ev.now _
      · simp only [if_neg c2, if_neg (show ¬ (gs.length : Int) = 0 by omega), if_pos (show (0 : Int) < (gs.length : Int) by omega)]
        rw [show F.rd_L1 gs 0 = gs.getD 0 [] from rd_L1_nat gs 0]
        by_cases c3 : (gs.getD 0 []).length = 0
        · simp only [if_pos c3, if_pos (show ((gs.getD 0 []).length : Int) = 0 by omega)]; exact Ev.now _
        · simp only [if_neg c3, if_neg (show ¬ ((gs.getD 0 []).length : Int) = 0 by omega)]; exact Ev.now _
  · simp only [if_neg c]; exact Ev.now _
structure Ranked (h : Int) (gs : List (List Int)) : Prop where
  fam : FamOk h gs
  h5 : h ≤ 5
  some : gs.length ≠ 0
  full : (gs.getD 0 []).length ≠ 0
theorem ranked_of {h : Int} {gs : List (List Int)} (e : codeF h gs = 0) : Ranked h gs := by
  unfold codeF at e
  by_cases c : famB h gs = true
  · rw [if_pos c] at e
    by_cases c1 : h > 5
    · rw [if_pos c1] at e; omega
    · rw [if_neg c1] at e
      by_cases c2 : gs.length = 0
      · rw [if_pos c2] at e; omega
      · rw [if_neg c2] at e
        by_cases c3 : (gs.getD 0 []).length = 0
        · rw [if_pos c3] at e; omega
        · exact ⟨famB_iff.1 c, by omega, c2, c3⟩
  · rw [if_neg c] at e; omega
def Grps (h : Int) (l : List (List Int)) : Prop := ∀ i, i < l.length → Rises 0 (h - 1) (l.getD i [])
noncomputable def grpsB (h : Int) (l : List (List Int)) : Bool := @decide (Grps h l) (Classical.propDecidable _)
theorem grpsB_iff {h : Int} {l : List (List Int)} : grpsB h l = true ↔ Grps h l := by unfold grpsB; exact @decide_eq_true_iff _ (Classical.propDecidable _)
theorem grpsB_false {h : Int} {l : List (List Int)} (hn : ¬ Grps h l) : grpsB h l = false := by
  cases e : grpsB h l with
  | false => rfl
  | true => exact absurd (grpsB_iff.1 e) hn
theorem l07Group_ev {h : Int} {gs : List (List Int)} (h1 : 1 ≤ h) (h2 : h ≤ 7) (g : List Int) (hl : g.length ≤ 9223372036854775806) : Ev (fun k => F.spec_l07Group.f k h gs g) (risesB 0 (h - 1) g) := by
  unfold F.spec_l07Group.f
  rw [w64 (by omega) (by omega)]
  exact Ev.bind (rises_ev 0 (h - 1) g hl) (Ev.now _)
theorem l07Groups_ev {h : Int} {gs : List (List Int)} (h1 : 1 ≤ h) (h2 : h ≤ 7) (l : List (List Int)) (hs : Short l) : Ev (fun k => F.spec_l07Groups.f k h gs l) (grpsB h l) := by
  have hn := hs.1
  unfold F.spec_l07Groups.f
  have key : ∀ i, i < l.length → ∀ r, Ev (fun k => if risesB 0 (h - 1) (l.getD i []) = true then F.spec_l07Groups.l0 k l ((i + 1 : Nat) : Int) h gs else some false) r → Ev (fun k => F.spec_l07Groups.l0 k l (i : Int) h gs) r := fun i hi r e => by
    refine Ev.step (fun k => ?_) (Ev.bind (f := fun k t => if t = true then F.spec_l07Groups.l0 k l ((i + 1 : Nat) : Int) h gs else some false) (l07Group_ev (gs := gs) h1 h2 (l.getD i []) (hs.2 i hi)) e)
    simp only [F.spec_l07Groups.l0, rd_L1_nat]
    rw [if_pos (by omega), if_pos (by omega), w64 (by omega) (by omega)]
    rfl
  have L := ev_loop l.length (fun k i => F.spec_l07Groups.l0 k l (i : Int) h gs) (fun i => Rises 0 (h - 1) (l.getD i [])) true false
    (fun i hi _ hp r e => key i hi r (by simp only [if_pos (risesB_iff.2 hp)]; exact e)) (fun i hi _ hp => key i hi false (by simp only [risesB_false hp, Bool.false_eq_true, if_false]; exact Ev.now _))
    (fun _ => ev_succ (fun k => by simp only [F.spec_l07Groups.l0]; rw [if_neg (by omega)]))
  by_cases c : Grps h l
  · rw [grpsB_iff.2 c]; exact L.1 c
  · rw [grpsB_false c]; exact L.2 c
theorem areGroups_ev {h : Int} (h1 : 1 ≤ h) (h2 : h ≤ 7) (l : List (List Int)) (hs : Short l) : Ev (fun k => F.impl_areGroups.f k h l) (grpsB h l) := by
  have hn := hs.1
  unfold F.impl_areGroups.f F.slices_ContainsFunc_int64_int64_impl_areGroups_1.f F.slices_IndexFunc_int64_int64_impl_areGroups_1.f
  have key : ∀ i, i < l.length → ∀ r, Ev (fun k => if risesB 0 (h - 1) (l.getD i []) = false then some (i : Int) else F.slices_IndexFunc_int64_int64_impl_areGroups_1.l0 k l l.length ((i + 1 : Nat) : Int) h) r → Ev (fun k => F.slices_IndexFunc_int64_int64_impl_areGroups_1.l0 k l l.length (i : Int) h) r := fun i hi r e => by
    have hg : Ev (fun k => F.impl_areGroups_1.f k (l.getD i []) h) (!(risesB 0 (h - 1) (l.getD i []))) := by
      unfold F.impl_areGroups_1.f
      exact Ev.bind (isGroup_ev h (by omega) (l.getD i []) (hs.2 i hi)) (Ev.now _)
    refine Ev.step (fun k => ?_) (Ev.bind (f := fun k t => if t = true then some (i : Int) else F.slices_IndexFunc_int64_int64_impl_areGroups_1.l0 k l l.length ((i + 1 : Nat) : Int) h) hg ?_)
    · simp only [F.slices_IndexFunc_int64_int64_impl_areGroups_1.l0, rd_L1_nat]
      rw [if_pos (by omega), if_pos (by omega), if_pos (by omega), w64 (by omega) (by omega)]
      rfl
    · cases hb : risesB 0 (h - 1) (l.getD i []) with
      | false => simp only [hb, if_true] at e; simp only [Bool.not_false, if_true]; exact e
      | true => simp only [hb, Bool.true_eq_false, if_false] at e; simp only [Bool.not_true, Bool.false_eq_true, if_false]; exact e
  have find : ∃ v : Int, Ev (fun k => F.slices_IndexFunc_int64_int64_impl_areGroups_1.l0 k l l.length ((0 : Nat) : Int) h) v ∧ (v ≥ 0 ↔ ¬ Grps h l) := by
    have go : ∀ d i, i + d = l.length → ∃ v : Int, Ev (fun k => F.slices_IndexFunc_int64_int64_impl_areGroups_1.l0 k l l.length (i : Int) h) v ∧ (v ≥ 0 ↔ ∃ j, i ≤ j ∧ j < l.length ∧ ¬ Rises 0 (h - 1) (l.getD j [])) := by
      intro d
      induction d with
      | zero =>
        intro i hi
        refine ⟨-1, ev_succ (fun k => ?_), ?_⟩
        · simp only [F.slices_IndexFunc_int64_int64_impl_areGroups_1.l0]
          rw [if_neg (by omega)]
        · exact ⟨fun h => by omega, fun ⟨j, a, b, _⟩ => by omega⟩
      | succ d ih =>
        intro i hi
        by_cases hr : Rises 0 (h - 1) (l.getD i [])
        · obtain ⟨v, e, hv⟩ := ih (i + 1) (by omega)
          refine ⟨v, key i (by omega) v (by simp only [risesB_iff.2 hr, Bool.true_eq_false, if_false]; exact e), hv.trans ⟨fun ⟨j, a, b, p⟩ => ⟨j, by omega, b, p⟩, fun ⟨j, a, b, p⟩ => ?_⟩⟩
          rcases Nat.eq_or_lt_of_le a with rfl | hlt
          · exact absurd hr p
          · exact ⟨j, hlt, b, p⟩
        · exact ⟨(i : Int), key i (by omega) _ (by simp only [risesB_false hr, if_true]; exact Ev.now _), fun _ => ⟨i, Nat.le_refl _, by omega, hr⟩, fun _ => by omega⟩
    obtain ⟨v, e, hv⟩ := go l.length 0 (by omega)
    refine ⟨v, e, hv.trans ⟨fun ⟨j, _, b, p⟩ hg => p (hg j b), fun hg => ?_⟩⟩
    apply Classical.byContradiction
    intro hc
    exact hg (fun j hj => Classical.byContradiction (fun hp => hc ⟨j, Nat.zero_le _, hj, hp⟩))
  obtain ⟨v, e, hv⟩ := find
  have e' : (!(decide (v ≥ 0))) = grpsB h l := by
    by_cases c : Grps h l
    · rw [grpsB_iff.2 c, decide_eq_false (fun hx => hv.1 hx c)]; rfl
    · rw [grpsB_false c, decide_eq_true (hv.2 c)]; rfl
  refine Ev.bind (Ev.bind e (Ev.now _)) ?_
  simp only [e']
  exact Ev.now _
theorem rdOf_nat (l : List Bool) (i : Nat) : rdOf false l (i : Int) = l.getD i false := by simp [rdOf]
noncomputable def tabO (h : Int) (gs : List (List Int)) : List Bool := (List.range (2 ^ h.toNat)).map (opensB gs)
theorem tabO_len (h : Int) (gs : List (List Int)) : (tabO h gs).length = 2 ^ h.toNat := by simp [tabO]
theorem tabO_get (h : Int) (gs : List (List Int)) (c : Nat) (hc : c < 2 ^ h.toNat) : (tabO h gs).getD c false = opensB gs c := by
  simp [tabO, List.getD_eq_getElem?_getD, hc]
noncomputable def someB (gs : List (List Int)) (c i : Nat) : Bool := @decide (∃ j, j < i ∧ HasAll gs c j) (Classical.propDecidable _)
theorem someB_iff {gs : List (List Int)} {c i : Nat} : someB gs c i = true ↔ ∃ j, j < i ∧ HasAll gs c j := by unfold someB; exact @decide_eq_true_iff _ (Classical.propDecidable _)
theorem pow_h {h : Int} (h1 : 1 ≤ h) (h2 : h ≤ 7) : 2 ^ h.toNat ≤ 128 := by
  have a : (2 : Nat) ^ h.toNat ≤ 2 ^ 7 := Nat.pow_le_pow_right (by decide) (by omega)
  have b : (2 : Nat) ^ 7 = 128 := by decide
  omega
theorem open_ev {h : Int} {gs : List (List Int)} (hf : FamOk h gs) (hs : Short gs) : Ev (fun k => F.spec_l07Open.f k h gs) (tabO h gs) := by
  have hn := hs.1
  have h1 := hf.h1
  have h2 := hf.h2
  have hp := pow_h h1 h2
  obtain ⟨m, rfl⟩ : ∃ m : Nat, h = (m : Int) := ⟨h.toNat, by omega⟩
  have em : ((m : Int)).toNat = m := by omega
  rw [em] at hp
  unfold F.spec_l07Open.f tabO
  rw [em]
  have hsh : shl .i64 1 (IntKind.u64.wrap (m : Int)) = ((2 ^ m : Nat) : Int) := by rw [wu64 (by omega) (by omega), shl_i64 (by omega)]
  have hw : (0 : Int) ≤ IntKind.u64.wrap (m : Int) := by rw [wu64 (by omega) (by omega)]; omega
  have inner : ∀ c, c < 2 ^ m → ∀ (acc : List Bool), acc.length ≤ 128 → ∀ r, Ev (fun k => F.spec_l07Open.l0 k (acc ++ [opensB gs c]) ((c + 1 : Nat) : Int) (m : Int) gs) r → Ev (fun k => F.spec_l07Open.l1 k acc (c : Int) false ((0 : Nat) : Int) (m : Int) gs) r := by
    intro c hc acc hacc r e
    have z : someB gs c 0 = false := by
      cases hb : someB gs c 0 with
      | false => rfl
      | true => obtain ⟨j, a, _⟩ := someB_iff.1 hb; omega
    have all : someB gs c gs.length = opensB gs c := by
      rw [Bool.eq_iff_iff, someB_iff, opensB_iff]; rfl
    have L := ev_down gs.length (fun k i => F.spec_l07Open.l1 k acc (c : Int) (someB gs c i) (i : Int) (m : Int) gs) r ?_ ?_ gs.length 0 (by omega)
    · rw [z] at L; exact L
    · refine Ev.step (fun k => ?_) e
      simp only [F.spec_l07Open.l1, all]
      rw [if_neg (by omega), if_pos (by omega), w64 (by omega) (by omega)]
      rfl
    · intro i hi e
      have hr := (hf.grp i hi).1
      have hb := bits_small h1 h2 hr
      refine Ev.step (fun k => ?_) (Ev.bind (f := fun k t105 => if someB gs c i = true then F.spec_l07Open.l1 k acc (c : Int) true ((i + 1 : Nat) : Int) (m : Int) gs else F.spec_l07Open.l1 k acc (c : Int) ((Go.bits .and .i64 t105 (c : Int)) == t105) ((i + 1 : Nat) : Int) (m : Int) gs) (l07Bits_ev (m := m) (by omega) (by have := rises_bound h1 h2 hr; simpa using this) (hs.2 i hi)) ?_)
      · simp only [F.spec_l07Open.l1, rd_L1_nat]
        rw [if_pos (by omega), if_pos (by omega), w64 (by omega) (by omega)]
        rfl
      · by_cases cs : someB gs c i = true
        · have : someB gs c (i + 1) = true := by
            obtain ⟨j, a, b⟩ := someB_iff.1 cs
            exact someB_iff.2 ⟨j, by omega, b⟩
          rw [this] at e
          simp only [if_pos cs]
          exact e
        · have : someB gs c (i + 1) = ((((bitsOf (gs.getD i []) &&& c : Nat) : Int)) == ((bitsOf (gs.getD i []) : Nat) : Int)) := by
            rw [Bool.eq_iff_iff, someB_iff, beq_iff_eq]
            constructor
            · rintro ⟨j, a, b⟩
              rcases Nat.eq_or_lt_of_le (Nat.lt_succ_iff.1 a) with rfl | hlt
              · unfold HasAll at b
                rw [Nat.and_comm] at b
                rw [b]
              · exact absurd (someB_iff.2 ⟨j, hlt, b⟩) cs
            · intro hx
              refine ⟨i, by omega, ?_⟩
              unfold HasAll
              rw [Nat.and_comm]
              exact_mod_cast hx
          rw [this] at e
          simp only [if_neg cs, and_i64 (show bitsOf (gs.getD i []) < 1024 by omega) (show c < 1024 by omega)]
          exact e
  have L := ev_down (2 ^ m) (fun k i => F.spec_l07Open.l0 k ((List.range i).map (opensB gs)) (i : Int) (m : Int) gs) ((List.range (2 ^ m)).map (opensB gs)) ?_ ?_ (2 ^ m) 0 (by omega)
  · simpa using L
  · refine ev_succ (fun k => ?_)
    simp only [F.spec_l07Open.l0, hsh]
    rw [if_pos hw, if_neg (by omega)]
  · intro i hi e
    refine Ev.step (f := fun k => F.spec_l07Open.l1 k ((List.range i).map (opensB gs)) (i : Int) false ((0 : Nat) : Int) (m : Int) gs) (fun k => ?_) (inner i hi _ (by simp; omega) _ ?_)
    · simp only [F.spec_l07Open.l0, hsh]
      rw [if_pos hw, if_pos (by omega)]
      rfl
    · rw [List.range_succ, List.map_append] at e
      exact e
end Go.Proofs.Ytfojpiojhcdgoaa.Pl
end
section
namespace Go.Proofs.Ytfojpiojhcdgoaa.Pl
open Go.RowKit Go.Proofs.YtfojpiojhcdgoaaW.PrintWords Go.Proofs.YtfojpiojhcdgoaaW.PrintLast Go.Proofs.YtfojpiojhcdgoaaW.PrintMore
set_option linter.unusedVariables false
set_option linter.unusedSectionVars false
theorem c_toInt64S_ev (l : List Int) (hl : l.length ≤ 35184372088832) : Ev (fun k => F.laws_toInt64S.f k l) l := by
  refine ev_of (f := fun k => F.laws_toInt64S.l0 k l (List.replicate l.length 0) 0) (fun k => ?_) ?_
  · unfold F.laws_toInt64S.f
    rw [if_pos (by omega), if_pos (by simpa using hl)]
    simp
  · have h := ev_down l.length (fun k i => F.laws_toInt64S.l0 k l (l.take i ++ List.replicate (l.length - i) 0) (i : Int)) l ?_ ?_ l.length 0 (by omega)
    · simpa using h
    · refine ev_succ (fun k => ?_)
      simp only [F.laws_toInt64S.l0]
      rw [if_neg (by omega)]
      simp
    · intro i hi h
      refine Ev.step (fun k => ?_) h
      simp only [F.laws_toInt64S.l0]
      rw [if_pos (by omega), if_pos (by omega), if_pos (by simp; omega), w64 (by omega) (by omega), rd_nat]
      rw [show ((i : Int)).toNat = i from by omega, take_replicate_set l i hi]
      rfl
theorem c_eqInt64S_ev (l : List Int) (hl : l.length ≤ 35184372088832) : Ev (fun k => F.laws_eqInt64S.f k l l) true := by
  refine ev_of (f := fun k => F.laws_eqInt64S.l0 k l l 0) (fun k => ?_) ?_
  · unfold F.laws_eqInt64S.f
    rw [if_pos rfl]
  · refine ev_yes l.length (fun k i => F.laws_eqInt64S.l0 k l l (i : Int)) (fun _ => True) true ?_ ?_ (fun _ _ => trivial)
    · refine ev_succ (fun k => ?_)
      simp only [F.laws_eqInt64S.l0]
      rw [if_neg (by omega)]
    · intro i hi _ r h
      refine Ev.step (fun k => ?_) h
      simp only [F.laws_eqInt64S.l0]
      rw [if_pos (by omega), if_pos (by omega), if_pos (by omega), if_true, w64 (by omega) (by omega)]
      rfl
def Small (l : List (List Int)) : Prop := l.length ≤ 5864062014634 ∧ ∀ i, i < l.length → (l.getD i []).length ≤ 17592186043904
theorem Small.short {l : List (List Int)} (h : Small l) : Short l := ⟨by have := h.1; omega, fun i hi => by have := h.2 i hi; omega⟩
theorem getD_mem_L1 {l : List (List Int)} {i : Nat} (hi : i < l.length) : l.getD i [] ∈ l := by
  rw [List.getD_eq_getElem?_getD, List.getElem?_eq_getElem hi]
  exact List.getElem_mem hi
theorem small_of {l : List (List Int)} (h1 : l.length * 24 ≤ 140737488351232) (h2 : ∀ x ∈ l, x.length * 8 ≤ 140737488351232) : Small l :=
  ⟨by omega, fun i hi => by have := h2 _ (getD_mem_L1 hi); omega⟩
theorem take_replicate_setL (l : List (List Int)) (i : Nat) (h : i < l.length) : (l.take i ++ List.replicate (l.length - i) ([] : List Int)).set i (l.getD i []) = l.take (i + 1) ++ List.replicate (l.length - (i + 1)) [] := by
  have e1 : (l.take i).length = i := by rw [List.length_take]; omega
  rw [List.set_append_right _ _ (by omega), e1, Nat.sub_self]
  rw [show l.length - i = (l.length - (i + 1)) + 1 by omega, List.replicate_succ, List.set_cons_zero]
  rw [← List.take_append_getElem h, List.getD_eq_getElem?_getD, List.getElem?_eq_getElem h]
  simp only [Option.getD_some, List.append_assoc, List.singleton_append]
theorem toInt64SS_ev (l : List (List Int)) (hl : Small l) : Ev (fun k => F.laws_toInt64SS.f k l) l := by
  have hn := hl.1
  refine ev_of (f := fun k => F.laws_toInt64SS.l0 k l (List.replicate l.length []) 0) (fun k => ?_) ?_
  · unfold F.laws_toInt64SS.f
    rw [if_pos (by omega), if_pos (by omega)]
    simp
  · have h := ev_down l.length (fun k i => F.laws_toInt64SS.l0 k l (l.take i ++ List.replicate (l.length - i) []) (i : Int)) l ?_ ?_ l.length 0 (by omega)
    · simpa using h
    · refine ev_succ (fun k => ?_)
      simp only [F.laws_toInt64SS.l0]
      rw [if_neg (by omega)]
      simp
    · intro i hi h
      refine Ev.step (fun k => ?_) (Ev.bind (f := fun k t => F.laws_toInt64SS.l0 k l ((l.take i ++ List.replicate (l.length - i) []).set i t) ((i + 1 : Nat) : Int)) (c_toInt64S_ev (l.getD i []) (by have := hl.2 i hi; omega)) ?_)
      · simp only [F.laws_toInt64SS.l0, rd_L1_nat]
        have e : (i : Int) < (((l.take i ++ List.replicate (l.length - i) []).length : Nat) : Int) := by simp; omega
        simp only [if_pos e]
        rw [if_pos (by omega), if_pos (by omega), w64 (by omega) (by omega)]
        rw [show ((i : Int)).toNat = i from by omega]
        rfl
      · simp only [take_replicate_setL l i hi]
        exact h
theorem eqInt64SS_ev (l : List (List Int)) (hl : Small l) : Ev (fun k => F.laws_eqInt64SS.f k l l) true := by
  have hn := hl.1
  refine ev_of (f := fun k => F.laws_eqInt64SS.l0 k l l 0) (fun k => ?_) ?_
  · unfold F.laws_eqInt64SS.f
    rw [if_pos rfl]
  · refine ev_yes l.length (fun k i => F.laws_eqInt64SS.l0 k l l (i : Int)) (fun _ => True) true ?_ ?_ (fun _ _ => trivial)
    · refine ev_succ (fun k => ?_)
      simp only [F.laws_eqInt64SS.l0]
      rw [if_neg (by omega)]
    · intro i hi _ r h
      refine Ev.step (fun k => ?_) (Ev.bind (f := fun k t => if t = true then F.laws_eqInt64SS.l0 k l l ((i + 1 : Nat) : Int) else some false) (c_eqInt64S_ev (l.getD i []) (by have := hl.2 i hi; omega)) ?_)
      · simp only [F.laws_eqInt64SS.l0, rd_L1_nat]
        rw [if_pos (by omega), if_pos (by omega), if_pos (by omega), w64 (by omega) (by omega)]
        rfl
      · simp only [if_true]
        exact h
theorem szInt64SS_ev (l : List (List Int)) (hl : Small l) (a : Int) : ∃ v, Ev (fun k => F.laws_szInt64SS.f k l a) v := by
  have hn := hl.1
  unfold F.laws_szInt64SS.f
  by_cases c : wrap64 (a - (l.length : Int)) < 0
  · exact ⟨-1, by simp only [if_pos c]; exact Ev.now _⟩
  · have key : ∀ d i, i + d = l.length → ∀ b, ∃ v, Ev (fun k => F.laws_szInt64SS.l0 k l b (i : Int)) v := by
      intro d
      induction d with
      | zero =>
        intro i hi b
        refine ⟨b, ev_succ (fun k => ?_)⟩
        simp only [F.laws_szInt64SS.l0]
        rw [if_neg (by omega)]
      | succ d ih =>
        intro i hi b
        by_cases c1 : wrap64 (b - ((l.getD i []).length : Int)) < 0
        · refine ⟨-1, ev_succ (fun k => ?_)⟩
          simp only [F.laws_szInt64SS.l0, rd_L1_nat, F.laws_szInt64S.f, if_pos c1, Option.bind_some]
          rw [if_pos (by omega), if_pos (by omega), if_pos (by omega)]
        · obtain ⟨v, e⟩ := ih (i + 1) (by omega) (wrap64 (b - ((l.getD i []).length : Int)))
          refine ⟨v, Ev.step (fun k => ?_) e⟩
          simp only [F.laws_szInt64SS.l0, rd_L1_nat, F.laws_szInt64S.f, if_neg c1, Option.bind_some]
          rw [if_pos (by omega), if_pos (by omega), w64 (n := (i : Int) + 1) (by omega) (by omega)]
          rfl
    obtain ⟨v, e⟩ := key l.length 0 (by omega) (wrap64 (a - (l.length : Int)))
    exact ⟨v, by simp only [if_neg c]; exact e⟩
theorem szFamily_ev (h : Int) (l : List (List Int)) (hl : Small l) (a : Int) : ∃ v, Ev (fun k => F.laws_szFamily.f k h l a) v := by
  unfold F.laws_szFamily.f
  obtain ⟨v, e⟩ := szInt64SS_ev l hl a
  by_cases c : v < 0
  · exact ⟨-1, Ev.bind e (by simp only [if_pos c]; exact Ev.now _)⟩
  · exact ⟨v, Ev.bind e (by simp only [if_neg c]; exact Ev.now _)⟩
theorem szSequence_ev (g : List Int) (l w : List (List Int)) (hl : Small l) (hw : Small w) (a : Int) : ∃ v, Ev (fun k => F.laws_szSequence.f k g l w a) v := by
  unfold F.laws_szSequence.f
  have e0 : ∃ u, F.laws_szInt64S.f g a = some u := by
    unfold F.laws_szInt64S.f
    by_cases c : wrap64 (a - (g.length : Int)) < 0
    · exact ⟨_, by rw [if_pos c]⟩
    · exact ⟨_, by rw [if_neg c]⟩
  obtain ⟨u, e0⟩ := e0
  simp only [e0, Option.bind_some]
  by_cases c0 : u < 0
  · exact ⟨-1, by simp only [if_pos c0]; exact Ev.now _⟩
  · simp only [if_neg c0]
    obtain ⟨v, e⟩ := szInt64SS_ev l hl u
    by_cases c : v < 0
    · exact ⟨-1, Ev.bind e (by simp only [if_pos c]; exact Ev.now _)⟩
    · obtain ⟨x, e2⟩ := szInt64SS_ev w hw v
      by_cases c2 : x < 0
      · exact ⟨-1, Ev.bind e (by simp only [if_neg c]; exact Ev.bind e2 (by simp only [if_pos c2]; exact Ev.now _))⟩
      · exact ⟨x, Ev.bind e (by simp only [if_neg c]; exact Ev.bind e2 (by simp only [if_neg c2]; exact Ev.now _))⟩
theorem toFamily_ev (h : Int) (l : List (List Int)) (hl : Small l) : Ev (fun k => F.laws_toFamily.f k h l) (h, l) := by
  unfold F.laws_toFamily.f
  exact Ev.bind (toInt64SS_ev l hl) (Ev.now _)
theorem eqFamily_ev (h : Int) (l : List (List Int)) (hl : Small l) : Ev (fun k => F.laws_eqFamily.f k h l h l) true := by
  unfold F.laws_eqFamily.f
  simp only [if_true]
  exact Ev.bind (eqInt64SS_ev l hl) (by simp only [if_true]; exact Ev.now _)
theorem toSequence_ev (g : List Int) (l w : List (List Int)) (hg : g.length ≤ 17592186043904) (hl : Small l) (hw : Small w) : Ev (fun k => F.laws_toSequence.f k g l w) (g, l, w) := by
  unfold F.laws_toSequence.f
  exact Ev.bind (c_toInt64S_ev g (by omega)) (Ev.bind (toInt64SS_ev l hl) (Ev.bind (toInt64SS_ev w hw) (Ev.now _)))
theorem eqSequence_ev (g : List Int) (l w : List (List Int)) (hg : g.length ≤ 17592186043904) (hl : Small l) (hw : Small w) : Ev (fun k => F.laws_eqSequence.f k g l w g l w) true := by
  unfold F.laws_eqSequence.f
  refine Ev.bind (c_eqInt64S_ev g (by omega)) ?_
  simp only [if_true]
  refine Ev.bind (eqInt64SS_ev l hl) ?_
  simp only [if_true]
  refine Ev.bind (eqInt64SS_ev w hw) ?_
  simp only [if_true]
  exact Ev.now _
end Go.Proofs.Ytfojpiojhcdgoaa.Pl
end
