/- Ranks: both definitions of validity say the same (OkR); copies of lists and ranks are equal to them. Plain; no condition beyond each lemma's own. -/
import Derived.Test.YtmniekgnpppbhaaPlA
import Derived.Test.YtmniekgnpppbhaaFSpecL07Ok
import Derived.Test.YtmniekgnpppbhaaFImplValidRanks
import Derived.Test.YtmniekgnpppbhaaFLawsToRanks
import Derived.Test.YtmniekgnpppbhaaFLawsEqRanks
import Derived.Test.YtmniekgnpppbhaaFLawsSzRanks
namespace Go.Proofs.Ytmniekgnpppbhaa.Pl
open Go.RowKit Go.Proofs.YtmniekgnpppbhaaW.PrintWords Go.Proofs.YtmniekgnpppbhaaW.PrintLast Go.Proofs.YtmniekgnpppbhaaW.PrintMore
set_option linter.unusedVariables false
set_option linter.unusedSectionVars false

/-! ### copies -/
theorem toInt64S_ev (l : List Int) (hl : l.length ≤ 35184372088832) : Ev (fun k => F.laws_toInt64S.f k l) l := by
  refine ev_of (f := fun k => F.laws_toInt64S.l0 k l (List.replicate l.length 0) 0) (fun k => ?_) ?_
  · unfold F.laws_toInt64S.f
    rw [if_pos (by omega), if_pos (by simpa using hl)]
    simp
  · have h := ev_down l.length (fun k i => F.laws_toInt64S.l0 k l (l.take i ++ List.replicate (l.length - i) 0) (i : Int)) l ?_ ?_ l.length 0 (by omega)
    · simpa using h
    · refine ev_succ (fun k => ?_)
      simp only [F.laws_toInt64S.l0]
      rw [if_neg (by omega)]
      simp
    · intro i hi h
      refine Ev.step (fun k => ?_) h
      simp only [F.laws_toInt64S.l0]
      rw [if_pos (by omega), if_pos (by omega), if_pos (by simp; omega), w64 (by omega) (by omega), rd_nat]
      rw [show ((i : Int)).toNat = i from by omega, take_replicate_set l i hi]
      rfl
theorem eqInt64S_ev (l : List Int) (hl : l.length ≤ 35184372088832) : Ev (fun k => F.laws_eqInt64S.f k l l) true := by
  refine ev_of (f := fun k => F.laws_eqInt64S.l0 k l l 0) (fun k => ?_) ?_
  · unfold F.laws_eqInt64S.f
    rw [if_pos rfl]
  · refine ev_yes l.length (fun k i => F.laws_eqInt64S.l0 k l l (i : Int)) (fun _ => True) true ?_ ?_ (fun _ _ => trivial)
    · refine ev_succ (fun k => ?_)
      simp only [F.laws_eqInt64S.l0]
      rw [if_neg (by omega)]
    · intro i hi _ r h
      refine Ev.step (fun k => ?_) h
      simp only [F.laws_eqInt64S.l0]
      rw [if_pos (by omega), if_pos (by omega), if_pos (by omega), if_true, w64 (by omega) (by omega)]
      rfl
theorem toRanks_ev (h u : Int) (l : List Int) (hl : l.length ≤ 35184372088832) : Ev (fun k => F.laws_toRanks.f k h u l) (h, u, l) := by
  unfold F.laws_toRanks.f
  exact Ev.bind (toInt64S_ev l hl) (Ev.now _)
theorem eqRanks_ev (h u : Int) (l : List Int) (hl : l.length ≤ 35184372088832) : Ev (fun k => F.laws_eqRanks.f k h u l h u l) true := by
  unfold F.laws_eqRanks.f
  simp only [if_true]
  refine Ev.bind (eqInt64S_ev l hl) ?_
  simp only [if_true]
  exact Ev.now _
theorem szRanks_eq (h u : Int) (l : List Int) (hl : l.length ≤ 9223372036854775807) : F.laws_szRanks.f h u l 1048576 = some (if (l.length : Int) ≤ 1048576 then 1048576 - (l.length : Int) else -1) := by
  unfold F.laws_szRanks.f F.laws_szInt64S.f
  rw [w64 (by omega) (by omega)]
  by_cases c : (l.length : Int) ≤ 1048576
  · rw [if_neg (by omega), if_pos c]
    simp only [Option.bind_some]
    rw [if_neg (by omega)]
  · rw [if_pos (by omega), if_neg c]
    simp

/-! ### validity -/
def Bad (l : List Int) (a b : Nat) : Prop := (a &&& b = a ∧ l.getD a 0 > l.getD b 0) ∨ l.getD a 0 + l.getD b 0 < l.getD (a ||| b) 0 + l.getD (a &&& b) 0
instance (l : List Int) (a b : Nat) : Decidable (Bad l a b) := inferInstanceAs (Decidable (_ ∨ _))
/-- Numbers of a list in a range. -/
def Within (l : List Int) : Prop := ∀ i, i < l.length → 0 ≤ l.getD i 0 ∧ l.getD i 0 ≤ 100000
structure OkR (h u : Int) (l : List Int) : Prop where
  h1 : 1 ≤ h
  h2 : h ≤ 5
  u1 : 1 ≤ u
  u2 : u ≤ 100000
  len : l.length = 2 ^ h.toNat
  zero : l.getD 0 0 = 0
  rng : Within l
  good : ∀ a, a < l.length → ∀ b, b < l.length → ¬ Bad l a b

theorem within_eq (a b c : Int) : F.impl_within.f a b c = some (decide (b ≤ a ∧ a ≤ c)) := by
  unfold F.impl_within.f
  by_cases h : a ≥ b
  · rw [if_pos h]; simp [h]
  · rw [if_neg h]; simp [h]
theorem in_eq (a b c : Int) : F.spec_l00In.f a b c = some (decide (b ≤ a ∧ a ≤ c)) := by
  unfold F.spec_l00In.f
  by_cases h : a ≥ b
  · rw [if_pos h]; simp [h]
  · rw [if_neg h]; simp [h]

section
variable {l : List Int} {m : Nat} (hl : l.length = 2 ^ m) (hm : m ≤ 9) (hr : Within l)
include hl hm
theorem len_le : l.length ≤ 512 := by
  rw [hl]
  have h1 : (2 : Nat) ^ m ≤ 2 ^ 9 := Nat.pow_le_pow_right (by decide) hm
  have h2 : (2 : Nat) ^ 9 = 512 := by decide
  omega
theorem and_lt {a b : Nat} (hb : b < l.length) : a &&& b < l.length := by rw [hl] at *; exact Nat.and_lt_two_pow _ hb
theorem or_lt {a b : Nat} (ha : a < l.length) (hb : b < l.length) : a ||| b < l.length := by rw [hl] at *; exact Nat.or_lt_two_pow ha hb
include hr
theorem meets_round (a b : Nat) (ha : a < l.length) (hb : b < l.length) (k : Nat) :
    F.spec_l07Meets.l1 (k + 1) l a b = if Bad l a b then some false else F.spec_l07Meets.l1 k l a ((b + 1 : Nat) : Int) := by
  have hL := len_le hl hm
  have h1 : a &&& b < l.length := and_lt hl hm hb
  have h2 : a ||| b < l.length := or_lt hl hm ha hb
  have i1 := and_i64 (show a < 1024 by omega) (show b < 1024 by omega)
  have i2 := or_i64 (show a < 1024 by omega) (show b < 1024 by omega)
  show _ = if ((a &&& b = a ∧ l.getD a 0 > l.getD b 0) ∨ l.getD a 0 + l.getD b 0 < l.getD (a ||| b) 0 + l.getD (a &&& b) 0) then _ else _
  clear hl hm
  generalize a &&& b = x at *
  generalize a ||| b = y at *
  have ra := hr a ha
  have rb := hr b hb
  have r1 := hr _ h1
  have r2 := hr _ h2
  clear hr
  simp only [F.spec_l07Meets.l1, i1, i2, rd_nat]
  clear i1 i2
  generalize l.getD a 0 = la at *
  generalize l.getD b 0 = lb at *
  generalize l.getD x 0 = lx at *
  generalize l.getD y 0 = ly at *
  rw [w64 (show -9223372036854775808 ≤ la + lb by omega) (by omega), w64 (show -9223372036854775808 ≤ ly + lx by omega) (by omega), w64 (show -9223372036854775808 ≤ (b : Int) + 1 by omega) (by omega)]
  rw [if_pos (show (b : Int) < (l.length : Int) by omega)]
  have z : ∀ n : Nat, (0 : Int) ≤ (n : Int) := fun n => Int.natCast_nonneg n
  have p2 : (a : Int) < (l.length : Int) := by omega
  have p3 : (x : Int) < (l.length : Int) := by omega
  have p4 : (y : Int) < (l.length : Int) := by omega
  by_cases c : x = a
  · rw [if_pos (by omega), if_pos (z a), if_pos p2, if_pos (z b)]
    by_cases d : la > lb
    · rw [if_pos d, if_pos (Or.inl ⟨c, d⟩)]
    · rw [if_neg d, if_pos (z y), if_pos p4, if_pos (z x), if_pos p3]
      by_cases e : la + lb < ly + lx
      · rw [if_pos e, if_pos (Or.inr e)]
      · rw [if_neg e, if_neg (fun h => h.elim (fun h => d h.2) e)]
        rfl
  · rw [if_neg (by omega), if_pos (z a), if_pos p2, if_pos (z b), if_pos (z y), if_pos p4, if_pos (z x), if_pos p3]
    by_cases e : la + lb < ly + lx
    · rw [if_pos e, if_pos (Or.inr e)]
    · rw [if_neg e, if_neg (fun h => h.elim (fun h => c h.1) e)]
      rfl
theorem meets_row (a : Nat) (ha : a < l.length) : ((∀ b, b < l.length → ¬ Bad l a b) → ∀ r, Ev (fun k => F.spec_l07Meets.l0 k l ((a + 1 : Nat) : Int)) r → Ev (fun k => F.spec_l07Meets.l0 k l (a : Int)) r) ∧
    ((∃ b, b < l.length ∧ ¬ ¬ Bad l a b) → Ev (fun k => F.spec_l07Meets.l0 k l (a : Int)) false) := by
  have hL := len_le hl hm
  have hin : ∀ r, Ev (fun k => F.spec_l07Meets.l1 k l a 0) r → Ev (fun k => F.spec_l07Meets.l0 k l (a : Int)) r := fun r h => by
    refine Ev.step (fun k => ?_) h
    simp only [F.spec_l07Meets.l0]
    rw [if_pos (by omega)]
  have hs : ∀ i, i < l.length → ¬ Bad l a i → ∀ r, Ev (fun k => F.spec_l07Meets.l1 k l a ((i + 1 : Nat) : Int)) r → Ev (fun k => F.spec_l07Meets.l1 k l a (i : Int)) r := fun i hi hb r h => by
    refine Ev.step (fun k => ?_) h
    rw [meets_round hl hm hr a i ha hi, if_neg hb]
  constructor
  · intro hg r h
    refine hin r (ev_yes l.length (fun k i => F.spec_l07Meets.l1 k l a (i : Int)) (fun b => ¬ Bad l a b) r ?_ hs hg)
    refine Ev.step (fun k => ?_) h
    simp only [F.spec_l07Meets.l1]
    rw [if_neg (by omega), w64 (by omega) (by omega)]
    rfl
  · intro he
    refine hin false (ev_no l.length (fun k i => F.spec_l07Meets.l1 k l a (i : Int)) (fun b => ¬ Bad l a b) false hs (fun i hi hb => ?_) he)
    refine ev_succ (fun k => ?_)
    rw [meets_round hl hm hr a i ha hi, if_pos (Classical.not_not.1 hb)]
theorem meets_ev (c : Bool) (hc : c = true ↔ ∀ a, a < l.length → ∀ b, b < l.length → ¬ Bad l a b) : Ev (fun k => F.spec_l07Meets.f k l) c := by
  have hL := len_le hl hm
  unfold F.spec_l07Meets.f
  cases c with
  | true =>
    refine ev_yes l.length (fun k i => F.spec_l07Meets.l0 k l (i : Int)) (fun a => ∀ b, b < l.length → ¬ Bad l a b) true ?_ (fun i hi hP r h => (meets_row hl hm hr i hi).1 hP r h) (hc.1 rfl)
    refine ev_succ (fun k => ?_)
    simp only [F.spec_l07Meets.l0]
    rw [if_neg (by omega)]
  | false =>
    refine ev_no l.length (fun k i => F.spec_l07Meets.l0 k l (i : Int)) (fun a => ∀ b, b < l.length → ¬ Bad l a b) false (fun i hi hP r h => (meets_row hl hm hr i hi).1 hP r h) (fun i hi hP => (meets_row hl hm hr i hi).2 ?_) ?_
    · simpa using hP
    · apply Classical.byContradiction
      intro h
      have : false = true := hc.2 (fun a ha b hb => Classical.byContradiction (fun hn => h ⟨a, ha, fun h' => hn (h' b hb)⟩))
      cases this
end

/-- What both reach ahead of the pairs: the head, and the range. -/
theorem l07Ok_ev (h u : Int) (l : List Int) (hw : l.length ≤ 1048576) (hh : -9223372036854775808 ≤ h ∧ h ≤ 9223372036854775807) (c : Bool) (hc : c = true ↔ OkR h u l) : Ev (fun k => F.spec_l07Ok.f k h u l) c := by
  have no : ∀ {g : Nat → Option Bool}, ¬ OkR h u l → Ev g false → Ev g c := fun hn hg => by
    have : c = false := by
      cases c with
      | false => rfl
      | true => exact absurd (hc.1 rfl) hn
    rw [this]; exact hg
  have j0f : Ev (fun k => F.spec_l07Ok.j0 k true h u l) false := ev_succ (fun k => by simp only [F.spec_l07Ok.j0, if_true])
  unfold F.spec_l07Ok.f
  simp only [in_eq, Option.bind_some, decide_eq_true_eq]
  by_cases c1 : 1 ≤ h ∧ h ≤ 5
  · simp only [if_pos c1]
    by_cases c2 : 1 ≤ u ∧ u ≤ 100000
    · simp only [if_pos c2]
      obtain ⟨m, rfl⟩ : ∃ m : Nat, h = (m : Int) := ⟨h.toNat, by omega⟩
      have hm : m ≤ 9 := by omega
      rw [wu64 (by omega) (by omega), shl_i64 (by omega)]
      simp only [if_pos (show (0 : Int) ≤ (m : Int) by omega)]
      by_cases c3 : l.length = 2 ^ m
      · have c3' : (l.length : Int) = ((2 ^ m : Nat) : Int) := by rw [c3]
        have hL := len_le c3 hm
        have hp : 0 < l.length := by rw [c3]; exact Nat.two_pow_pos m
        simp only [if_pos c3', if_pos (show (0 : Int) < (l.length : Int) by omega)]
        rw [show rd l 0 = l.getD 0 0 from by simp [rd]]
        by_cases c4 : l.getD 0 0 = 0
        · have e4 : (l.getD 0 0 != 0) = false := by simpa using c4
          rw [e4]
          have hs : ∀ i, i < l.length → (0 ≤ l.getD i 0 ∧ l.getD i 0 ≤ 100000) → ∀ r, Ev (fun k => F.spec_l07Ok.l0 k ((i + 1 : Nat) : Int) (m : Int) u l) r → Ev (fun k => F.spec_l07Ok.l0 k (i : Int) (m : Int) u l) r := fun i hi hP r hr => by
            refine Ev.step (fun k => ?_) hr
            simp only [F.spec_l07Ok.l0, in_eq, Option.bind_some, rd_nat, decide_eq_true_eq]
            rw [if_pos (by omega), if_pos (by omega), if_pos hP, w64 (by omega) (by omega)]
            rfl
          refine Ev.step (f := fun k => F.spec_l07Ok.l0 k 0 (m : Int) u l) (fun k => by simp only [F.spec_l07Ok.j0]; rw [if_neg (by simp)]) ?_
          by_cases c5 : Within l
          · refine ev_yes l.length (fun k i => F.spec_l07Ok.l0 k (i : Int) (m : Int) u l) (fun i => 0 ≤ l.getD i 0 ∧ l.getD i 0 ≤ 100000) c ?_ hs c5
            have hmm := meets_ev c3 hm c5 c ⟨fun h => (hc.1 h).good, fun h => hc.2 ⟨c1.1, c1.2, c2.1, c2.2, by simpa using c3, c4, c5, h⟩⟩
            refine Ev.step (f := fun k => (F.spec_l07Meets.f k l).bind fun t => some t) (fun k => ?_) (Ev.bind hmm (Ev.now _))
            simp only [F.spec_l07Ok.l0]
            rw [if_neg (by omega)]
          · refine no (fun h => c5 h.rng) (ev_no l.length (fun k i => F.spec_l07Ok.l0 k (i : Int) (m : Int) u l) (fun i => 0 ≤ l.getD i 0 ∧ l.getD i 0 ≤ 100000) false hs (fun i hi hP => ?_) ?_)
            · refine ev_succ (fun k => ?_)
              simp only [F.spec_l07Ok.l0, in_eq, Option.bind_some, rd_nat, decide_eq_true_eq]
              rw [if_pos (by omega), if_pos (by omega), if_neg hP]
            · apply Classical.byContradiction
              intro h
              exact c5 (fun i hi => Classical.byContradiction (fun hn => h ⟨i, hi, hn⟩))
        · have e4 : (l.getD 0 0 != 0) = true := by simpa using c4
          rw [e4]
          exact no (fun h => c4 h.zero) j0f
      · have c3' : ¬ (l.length : Int) = ((2 ^ m : Nat) : Int) := fun h => c3 (by exact_mod_cast h)
        simp only [if_neg c3']
        exact no (fun h => c3 (by simpa using h.len)) j0f
    · simp only [if_neg c2]
      exact no (fun h => c2 ⟨h.u1, h.u2⟩) j0f
  · simp only [if_neg c1]
    exact no (fun h => c1 ⟨h.h1, h.h2⟩) j0f

/-! ### the program's own -/
theorem everybody_eq {m : Nat} (hm : m ≤ 9) : F.impl_everybody.f (m : Int) = some (((2 ^ m - 1 : Nat)) : Int) := by
  unfold F.impl_everybody.f
  rw [if_pos (by omega), shl_u64 (by omega)]
  have h0 : 0 < 2 ^ m := Nat.two_pow_pos m
  have h1 : (2 : Nat) ^ m ≤ 2 ^ 9 := Nat.pow_le_pow_right (by decide) hm
  have h2 : (2 : Nat) ^ 9 = 512 := by decide
  rw [wu64 (by omega) (by omega)]
  congr 1
  omega
theorem rank_eq (h u : Int) (l : List Int) (x : Nat) (hx : x < l.length) : F.impl_Ranks_rank.f h u l (x : Int) = some (l.getD x 0) := by
  unfold F.impl_Ranks_rank.f
  rw [if_pos (by omega), if_pos (by omega), rd_nat]
section
variable {l : List Int} {m : Nat} {h u : Int} (hh : h = (m : Int)) (hl : l.length = 2 ^ m) (hm : m ≤ 9) (hr : Within l)
include hh hl hm hr
theorem pairs_round (a b : Nat) (ha : a < l.length) (hb : b < l.length) (k : Nat) :
    F.impl_ValidRanks.l2 (k + 1) a b h u l = if Bad l a b then some false else F.impl_ValidRanks.l2 k a ((b + 1 : Nat) : Int) h u l := by
  subst hh
  have hL := len_le hl hm
  have hE := everybody_eq hm
  rw [← hl] at hE
  have h1 : a &&& b < l.length := and_lt hl hm hb
  have h2 : a ||| b < l.length := or_lt hl hm ha hb
  have i0 : Go.bits .and .u64 (b : Int) (a : Int) = ((a &&& b : Nat) : Int) := by rw [and_u64 (by omega) (by omega), Nat.and_comm]
  have i1 := and_u64 (show a < 1024 by omega) (show b < 1024 by omega)
  have i2 := or_u64 (show a < 1024 by omega) (show b < 1024 by omega)
  show _ = if ((a &&& b = a ∧ l.getD a 0 > l.getD b 0) ∨ l.getD a 0 + l.getD b 0 < l.getD (a ||| b) 0 + l.getD (a &&& b) 0) then _ else _
  clear hl hm
  generalize a &&& b = x at *
  generalize a ||| b = y at *
  have ra := hr a ha
  have rb := hr b hb
  have r1 := hr _ h1
  have r2 := hr _ h2
  clear hr
  simp only [F.impl_ValidRanks.l2, F.impl_crowd_contains.f, hE, i0, i1, i2, rank_eq _ _ _ _ ha, rank_eq _ _ _ _ hb, rank_eq _ _ _ _ h1, rank_eq _ _ _ _ h2, Option.bind_some]
  clear i0 i1 i2
  generalize l.getD a 0 = la at *
  generalize l.getD b 0 = lb at *
  generalize l.getD x 0 = lx at *
  generalize l.getD y 0 = ly at *
  rw [w64 (show -9223372036854775808 ≤ la + lb by omega) (by omega), w64 (show -9223372036854775808 ≤ ly + lx by omega) (by omega), wu64 (show 0 ≤ (b : Int) + 1 by omega) (by omega)]
  rw [if_pos (show (b : Int) ≤ ((l.length - 1 : Nat) : Int) by omega)]
  by_cases c : x = a
  · rw [if_pos (by rw [c]; exact beq_self_eq_true _)]
    by_cases d : la > lb
    · rw [if_pos (show lb < la from d), if_pos (Or.inl ⟨c, d⟩)]
    · rw [if_neg (show ¬ lb < la from d)]
      by_cases e : la + lb < ly + lx
      · rw [if_pos e, if_pos (Or.inr e)]
      · rw [if_neg e, if_neg (fun h => h.elim (fun h => d h.2) e)]
        rfl
  · rw [if_neg (by rw [beq_iff_eq]; omega)]
    by_cases e : la + lb < ly + lx
    · rw [if_pos e, if_pos (Or.inr e)]
    · rw [if_neg e, if_neg (fun h => h.elim (fun h => c h.1) e)]
      rfl
theorem pairs_row (a : Nat) (ha : a < l.length) : ((∀ b, b < l.length → ¬ Bad l a b) → ∀ r, Ev (fun k => F.impl_ValidRanks.l1 k ((a + 1 : Nat) : Int) h u l) r → Ev (fun k => F.impl_ValidRanks.l1 k (a : Int) h u l) r) ∧
    ((∃ b, b < l.length ∧ ¬ ¬ Bad l a b) → Ev (fun k => F.impl_ValidRanks.l1 k (a : Int) h u l) false) := by
  have hL := len_le hl hm
  have hE := everybody_eq hm
  rw [← hl] at hE
  have hin : ∀ r, Ev (fun k => F.impl_ValidRanks.l2 k a 0 h u l) r → Ev (fun k => F.impl_ValidRanks.l1 k (a : Int) h u l) r := fun r hh' => by
    refine Ev.step (fun k => ?_) hh'
    simp only [F.impl_ValidRanks.l1, hh, hE, Option.bind_some]
    rw [if_pos (by omega)]
  have hs : ∀ i, i < l.length → ¬ Bad l a i → ∀ r, Ev (fun k => F.impl_ValidRanks.l2 k a ((i + 1 : Nat) : Int) h u l) r → Ev (fun k => F.impl_ValidRanks.l2 k a (i : Int) h u l) r := fun i hi hb r hh' => by
    refine Ev.step (fun k => ?_) hh'
    rw [pairs_round hh hl hm hr a i ha hi, if_neg hb]
  constructor
  · intro hg r hh'
    refine hin r (ev_yes l.length (fun k i => F.impl_ValidRanks.l2 k a (i : Int) h u l) (fun b => ¬ Bad l a b) r ?_ hs hg)
    refine Ev.step (fun k => ?_) hh'
    simp only [F.impl_ValidRanks.l2, hh, hE, Option.bind_some]
    rw [if_neg (by omega), wu64 (by omega) (by omega)]
    rfl
  · intro he
    refine hin false (ev_no l.length (fun k i => F.impl_ValidRanks.l2 k a (i : Int) h u l) (fun b => ¬ Bad l a b) false hs (fun i hi hb => ?_) he)
    refine ev_succ (fun k => ?_)
    rw [pairs_round hh hl hm hr a i ha hi, if_pos (Classical.not_not.1 hb)]
theorem pairs_ev (c : Bool) (hc : c = true ↔ ∀ a, a < l.length → ∀ b, b < l.length → ¬ Bad l a b) : Ev (fun k => F.impl_ValidRanks.l1 k 0 h u l) c := by
  have hL := len_le hl hm
  have hE := everybody_eq hm
  rw [← hl] at hE
  have hp : 0 < l.length := by rw [hl]; exact Nat.two_pow_pos m
  cases c with
  | true =>
    refine ev_yes l.length (fun k i => F.impl_ValidRanks.l1 k (i : Int) h u l) (fun a => ∀ b, b < l.length → ¬ Bad l a b) true ?_ (fun i hi hP r h => (pairs_row hh hl hm hr i hi).1 hP r h) (hc.1 rfl)
    refine ev_succ (fun k => ?_)
    simp only [F.impl_ValidRanks.l1, hh, hE, Option.bind_some]
    rw [if_neg (by omega)]
  | false =>
    refine ev_no l.length (fun k i => F.impl_ValidRanks.l1 k (i : Int) h u l) (fun a => ∀ b, b < l.length → ¬ Bad l a b) false (fun i hi hP r h => (pairs_row hh hl hm hr i hi).1 hP r h) (fun i hi hP => (pairs_row hh hl hm hr i hi).2 ?_) ?_
    · simpa using hP
    · apply Classical.byContradiction
      intro h
      have : false = true := hc.2 (fun a ha b hb => Classical.byContradiction (fun hn => h ⟨a, ha, fun h' => hn (h' b hb)⟩))
      cases this
end
theorem validRanks_ev (h u : Int) (l : List Int) (hw : l.length ≤ 1048576) (hh : -9223372036854775808 ≤ h ∧ h ≤ 9223372036854775807) (c : Bool) (hc : c = true ↔ OkR h u l) : Ev (fun k => F.impl_ValidRanks.f k h u l) c := by
  have no : ∀ {g : Nat → Option Bool}, ¬ OkR h u l → Ev g false → Ev g c := fun hn hg => by
    have : c = false := by
      cases c with
      | false => rfl
      | true => exact absurd (hc.1 rfl) hn
    rw [this]; exact hg
  have j0f : Ev (fun k => F.impl_ValidRanks.j0 k true h u l) false := ev_succ (fun k => by simp only [F.impl_ValidRanks.j0, if_true])
  unfold F.impl_ValidRanks.f
  simp only [within_eq, Option.bind_some, decide_eq_true_eq]
  by_cases c1 : 1 ≤ h ∧ h ≤ 5
  · simp only [if_pos c1]
    by_cases c2 : 1 ≤ u ∧ u ≤ 100000
    · simp only [if_pos c2]
      obtain ⟨m, rfl⟩ : ∃ m : Nat, h = (m : Int) := ⟨h.toNat, by omega⟩
      have hm : m ≤ 9 := by omega
      rw [shl_i64 (by omega)]
      simp only [if_pos (show (0 : Int) ≤ (m : Int) by omega)]
      by_cases c3 : l.length = 2 ^ m
      · have c3' : (l.length : Int) = ((2 ^ m : Nat) : Int) := by rw [c3]
        have hL := len_le c3 hm
        have hp : 0 < l.length := by rw [c3]; exact Nat.two_pow_pos m
        simp only [if_pos c3', if_pos (show (0 : Int) < (l.length : Int) by omega)]
        rw [show rd l 0 = l.getD 0 0 from by simp [rd]]
        by_cases c4 : l.getD 0 0 = 0
        · have e4 : (l.getD 0 0 != 0) = false := by simpa using c4
          rw [e4]
          have hs : ∀ i, i < l.length → (0 ≤ l.getD i 0 ∧ l.getD i 0 ≤ 100000) → ∀ r, Ev (fun k => F.impl_ValidRanks.l0 k l l.length ((i + 1 : Nat) : Int) (m : Int) u l) r → Ev (fun k => F.impl_ValidRanks.l0 k l l.length (i : Int) (m : Int) u l) r := fun i hi hP r hr => by
            refine Ev.step (fun k => ?_) hr
            simp only [F.impl_ValidRanks.l0, within_eq, Option.bind_some, rd_nat, decide_eq_true_eq]
            rw [if_pos (by omega), if_pos (by omega), if_pos (by omega), if_pos hP, w64 (by omega) (by omega)]
            rfl
          refine Ev.step (f := fun k => F.impl_ValidRanks.l0 k l l.length 0 (m : Int) u l) (fun k => by simp only [F.impl_ValidRanks.j0]; rw [if_neg (by simp)]) ?_
          by_cases c5 : Within l
          · refine ev_yes l.length (fun k i => F.impl_ValidRanks.l0 k l l.length (i : Int) (m : Int) u l) (fun i => 0 ≤ l.getD i 0 ∧ l.getD i 0 ≤ 100000) c ?_ hs c5
            have hmm := pairs_ev (u := u) rfl c3 hm c5 c ⟨fun h => (hc.1 h).good, fun h => hc.2 ⟨c1.1, c1.2, c2.1, c2.2, by simpa using c3, c4, c5, h⟩⟩
            refine Ev.step (fun k => ?_) hmm
            simp only [F.impl_ValidRanks.l0]
            rw [if_neg (by omega)]
          · refine no (fun h => c5 h.rng) (ev_no l.length (fun k i => F.impl_ValidRanks.l0 k l l.length (i : Int) (m : Int) u l) (fun i => 0 ≤ l.getD i 0 ∧ l.getD i 0 ≤ 100000) false hs (fun i hi hP => ?_) ?_)
            · refine ev_succ (fun k => ?_)
              simp only [F.impl_ValidRanks.l0, within_eq, Option.bind_some, rd_nat, decide_eq_true_eq]
              rw [if_pos (by omega), if_pos (by omega), if_pos (by omega), if_neg hP]
            · apply Classical.byContradiction
              intro h
              exact c5 (fun i hi => Classical.byContradiction (fun hn => h ⟨i, hi, hn⟩))
        · have e4 : (l.getD 0 0 != 0) = true := by simpa using c4
          rw [e4]
          exact no (fun h => c4 h.zero) j0f
      · have c3' : ¬ (l.length : Int) = ((2 ^ m : Nat) : Int) := fun h => c3 (by exact_mod_cast h)
        simp only [if_neg c3']
        exact no (fun h => c3 (by simpa using h.len)) j0f
    · simp only [if_neg c2]
      exact no (fun h => c2 ⟨h.u1, h.u2⟩) j0f
  · simp only [if_neg c1]
    exact no (fun h => c1 ⟨h.h1, h.h2⟩) j0f
/-- Valid, as a bool. -/
noncomputable def okB (h u : Int) (l : List Int) : Bool := @decide (OkR h u l) (Classical.propDecidable _)
theorem okB_iff {h u : Int} {l : List Int} : okB h u l = true ↔ OkR h u l := by unfold okB; exact @decide_eq_true_iff _ (Classical.propDecidable _)
theorem okB_spec (h u : Int) (l : List Int) (hw : l.length ≤ 1048576) (hh : -9223372036854775808 ≤ h ∧ h ≤ 9223372036854775807) : Ev (fun k => F.spec_l07Ok.f k h u l) (okB h u l) := l07Ok_ev h u l hw hh _ okB_iff
theorem okB_impl (h u : Int) (l : List Int) (hw : l.length ≤ 1048576) (hh : -9223372036854775808 ≤ h ∧ h ≤ 9223372036854775807) : Ev (fun k => F.impl_ValidRanks.f k h u l) (okB h u l) := validRanks_ev h u l hw hh _ okB_iff
theorem wf_i64 {a : Int} (h : (Lit.int .i64 a).wf = true) : -9223372036854775808 ≤ a ∧ a ≤ 9223372036854775807 := by
  simpa [Lit.wf, IntKind.min, IntKind.max, IntKind.signed, IntKind.bits] using h
end Go.Proofs.Ytmniekgnpppbhaa.Pl
