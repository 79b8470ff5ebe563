/- The law FnExactAddRanks is proved: it holds for all arguments. No condition. -/
import Derived.Laws.BitsLemmas
import Derived.IntWalk
import Derived.SizedLaws
import Derived.ChangeSlices
import Derived.ChangeArms
import Derived.Deep.Slices
import Derived.Test.YtmniekgnpppbhaaRows
import Derived.WalkKit
import Derived.ProofKit
import Derived.OpenShut
import Derived.ShutString
import Derived.ChangeOld
import Derived.Below
import Derived.Test.YtmniekgnpppbhaaKFnExactAddRanks01
import Derived.Test.YtmniekgnpppbhaaKFnExactAddRanks06
import Derived.Test.YtmniekgnpppbhaaKFnExactAddRanks02
import Derived.Test.YtmniekgnpppbhaaKFnExactAddRanks05
import Derived.Test.YtmniekgnpppbhaaKFnExactAddRanks04
import Derived.Test.YtmniekgnpppbhaaKFnExactAddRanks08
import Derived.Test.YtmniekgnpppbhaaKFnExactAddRanks00
section
namespace Go.Proofs.Ytmniekgnpppbhaa.Pl
open Go.RowKit Go.Proofs.YtmniekgnpppbhaaW.PrintWords Go.Proofs.YtmniekgnpppbhaaW.PrintLast Go.Proofs.YtmniekgnpppbhaaW.PrintMore
theorem w64 {n : Int} (h0 : -9223372036854775808 ≤ n) (h1 : n ≤ 9223372036854775807) : wrap64 n = n := IntWalk.wrap64_in n ⟨h0, h1⟩
theorem wu64 {n : Int} (h0 : 0 ≤ n) (h1 : n < 18446744073709551616) : IntKind.u64.wrap n = n := by
  simp [IntKind.wrap, IntKind.bits, IntKind.signed]; omega
theorem ki64 {n : Int} (h0 : -9223372036854775808 ≤ n) (h1 : n ≤ 9223372036854775807) : IntKind.i64.wrap n = n := by
  rw [IntKind.wrap_i64]; omega
theorem and_i64 {a b : Nat} (ha : a < 1024) (hb : b < 1024) : Go.bits .and .i64 (a : Int) (b : Int) = ((a &&& b : Nat) : Int) :=
  (bits_nat .i64 10 (by decide) (fun n h0 h1 => ki64 (by omega) (by have : (2 : Int) ^ 10 = 1024 := rfl; omega)) a b ha hb).1
theorem or_i64 {a b : Nat} (ha : a < 1024) (hb : b < 1024) : Go.bits .or .i64 (a : Int) (b : Int) = ((a ||| b : Nat) : Int) :=
  (bits_nat .i64 10 (by decide) (fun n h0 h1 => ki64 (by omega) (by have : (2 : Int) ^ 10 = 1024 := rfl; omega)) a b ha hb).2
theorem and_u64 {a b : Nat} (ha : a < 1024) (hb : b < 1024) : Go.bits .and .u64 (a : Int) (b : Int) = ((a &&& b : Nat) : Int) :=
  (bits_nat .u64 10 (by decide) (fun n h0 h1 => wu64 h0 (by have : (2 : Int) ^ 10 = 1024 := rfl; omega)) a b ha hb).1
theorem or_u64 {a b : Nat} (ha : a < 1024) (hb : b < 1024) : Go.bits .or .u64 (a : Int) (b : Int) = ((a ||| b : Nat) : Int) :=
  (bits_nat .u64 10 (by decide) (fun n h0 h1 => wu64 h0 (by have : (2 : Int) ^ 10 = 1024 := rfl; omega)) a b ha hb).2
theorem pow_small {h : Nat} (hh : h ≤ 20) : ∃ m : Nat, 2 ^ h = m ∧ m ≤ 1048576 ∧ (2 : Int) ^ h = (m : Int) :=
  ⟨2 ^ h, rfl, by
    have h1 : (2 : Nat) ^ h ≤ 2 ^ 20 := Nat.pow_le_pow_right (by decide) hh
    have h2 : (2 : Nat) ^ 20 = 1048576 := by decide
    omega, (Int.natCast_pow 2 h).symm⟩
theorem shl_i64 {h : Nat} (hh : h ≤ 20) : shl .i64 1 (h : Int) = ((2 ^ h : Nat) : Int) := by
  unfold shl
  have e : min (h : Int).toNat IntKind.i64.bits = h := by
    show min (h : Int).toNat 64 = h
    omega
  obtain ⟨m, h1, h2, h3⟩ := pow_small hh
  rw [e, Int.one_mul, h3, h1]
  exact ki64 (by omega) (by omega)
theorem shl_u64 {h : Nat} (hh : h ≤ 20) : shl .u64 1 (h : Int) = ((2 ^ h : Nat) : Int) := by
  unfold shl
  have e : min (h : Int).toNat IntKind.u64.bits = h := by
    show min (h : Int).toNat 64 = h
    omega
  obtain ⟨m, h1, h2, h3⟩ := pow_small hh
  rw [e, Int.one_mul, h3, h1]
  exact wu64 (by omega) (by omega)
theorem ev_of {α : Type} {g f : Nat → Option α} {r : α} (h : ∀ k, g k = f k) (k : Ev f r) : Ev g r := Ev.congr h k
theorem ev_succ {α : Type} {g : Nat → Option α} {r : α} (h : ∀ k, g (k + 1) = some r) : Ev g r := Ev.step h (Ev.now r)
theorem ev_down {α : Type} (n : Nat) (F : Nat → Nat → Option α) (r : α) (he : Ev (fun k => F k n) r) (hs : ∀ i, i < n → Ev (fun k => F k (i + 1)) r → Ev (fun k => F k i) r) : ∀ d i, i + d = n → Ev (fun k => F k i) r
  | 0, i, h => by
    have : i = n := by omega
    subst this
    exact he
  | d + 1, i, h => hs i (by omega) (ev_down n F r he hs d (i + 1) (by omega))
theorem ev_yes {α : Type} (n : Nat) (F : Nat → Nat → Option α) (P : Nat → Prop) (c : α) (he : Ev (fun k => F k n) c) (hs : ∀ i, i < n → P i → ∀ r, Ev (fun k => F k (i + 1)) r → Ev (fun k => F k i) r) (hP : ∀ i, i < n → P i) : Ev (fun k => F k 0) c :=
  ev_down n F c he (fun i hi h => hs i hi (hP i hi) c h) n 0 (by omega)
theorem ev_no {α : Type} (n : Nat) (F : Nat → Nat → Option α) (P : Nat → Prop) (no : α) (hs : ∀ i, i < n → P i → ∀ r, Ev (fun k => F k (i + 1)) r → Ev (fun k => F k i) r) (hn : ∀ i, i < n → ¬ P i → Ev (fun k => F k i) no) (hP : ∃ i, i < n ∧ ¬ P i) : Ev (fun k => F k 0) no := by
  classical
  have key : ∀ d i, i + d = n → (∃ j, i ≤ j ∧ j < n ∧ ¬ P j) → Ev (fun k => F k i) no := by
    intro d
    induction d with
    | zero => rintro i h ⟨j, h1, h2, _⟩; omega
    | succ d ih =>
      rintro i h ⟨j, h1, h2, h3⟩
      by_cases hi : P i
      · refine hs i (by omega) hi no (ih (i + 1) (by omega) ⟨j, ?_, h2, h3⟩)
        rcases Nat.eq_or_lt_of_le h1 with rfl | h4
        · exact absurd hi h3
        · exact h4
      · exact hn i (by omega) hi
  obtain ⟨i, h1, h2⟩ := hP
  exact key n 0 (by omega) ⟨i, Nat.zero_le _, h1, h2⟩
theorem rd_nat (l : List Int) (i : Nat) : rd l (i : Int) = l.getD i 0 := by simp [rd]
theorem take_replicate_set (l : List Int) (i : Nat) (h : i < l.length) : (l.take i ++ List.replicate (l.length - i) (0 : Int)).set i (l.getD i 0) = l.take (i + 1) ++ List.replicate (l.length - (i + 1)) 0 := by
  apply List.ext_getElem
  · simp; omega
  · intro j h1 h2
    simp only [List.length_set, List.length_append, List.length_take, List.length_replicate] at h1
    rw [List.getElem_set]
    by_cases e : i = j
    · subst e
      rw [if_pos rfl, List.getElem_append_left (by simp; omega)]
      simp [List.getD_eq_getElem?_getD, List.getElem?_eq_getElem h]
    · rw [if_neg e]
      by_cases hj : j < i
      · rw [List.getElem_append_left (by simp; omega), List.getElem_append_left (by simp; omega)]
        simp
      · rw [List.getElem_append_right (by simp; omega), List.getElem_append_right (by simp; omega)]
        simp
end Go.Proofs.Ytmniekgnpppbhaa.Pl
end
section
namespace Go.Proofs.Ytmniekgnpppbhaa.Pl
open Go.RowKit Go.Proofs.YtmniekgnpppbhaaW.PrintWords Go.Proofs.YtmniekgnpppbhaaW.PrintLast Go.Proofs.YtmniekgnpppbhaaW.PrintMore
set_option linter.unusedVariables false
set_option linter.unusedSectionVars false
theorem toInt64S_ev (l : List Int) (hl : l.length ≤ 35184372088832) : Ev (fun k => F.laws_toInt64S.f k l) l := by
  refine ev_of (f := fun k => F.laws_toInt64S.l0 k l (List.replicate l.length 0) 0) (fun k => ?_) ?_
  · unfold F.laws_toInt64S.f
    rw [if_pos (by omega), if_pos (by simpa using hl)]
    simp
  · have h := ev_down l.length (fun k i => F.laws_toInt64S.l0 k l (l.take i ++ List.replicate (l.length - i) 0) (i : Int)) l ?_ ?_ l.length 0 (by omega)
    · simpa using h
    · refine ev_succ (fun k => ?_)
      simp only [F.laws_toInt64S.l0]
      rw [if_neg (by omega)]
      simp
    · intro i hi h
      refine Ev.step (fun k => ?_) h
      simp only [F.laws_toInt64S.l0]
      rw [if_pos (by omega), if_pos (by omega), if_pos (by simp; omega), w64 (by omega) (by omega), rd_nat]
      rw [show ((i : Int)).toNat = i from by omega, take_replicate_set l i hi]
      rfl
theorem eqInt64S_ev (l : List Int) (hl : l.length ≤ 35184372088832) : Ev (fun k => F.laws_eqInt64S.f k l l) true := by
  refine ev_of (f := fun k => F.laws_eqInt64S.l0 k l l 0) (fun k => ?_) ?_
  · unfold F.laws_eqInt64S.f
    rw [if_pos rfl]
  · refine ev_yes l.length (fun k i => F.laws_eqInt64S.l0 k l l (i : Int)) (fun _ => True) true ?_ ?_ (fun _ _ => trivial)
    · refine ev_succ (fun k => ?_)
      simp only [F.laws_eqInt64S.l0]
      rw [if_neg (by omega)]
    · intro i hi _ r h
      refine Ev.step (fun k => ?_) h
      simp only [F.laws_eqInt64S.l0]
      rw [if_pos (by omega), if_pos (by omega), if_pos (by omega), if_true, w64 (by omega) (by omega)]
      rfl
theorem toRanks_ev (h u : Int) (l : List Int) (hl : l.length ≤ 35184372088832) : Ev (fun k => F.laws_toRanks.f k h u l) (h, u, l) := by
  unfold F.laws_toRanks.f
  exact Ev.bind (toInt64S_ev l hl) (Ev.now _)
theorem eqRanks_ev (h u : Int) (l : List Int) (hl : l.length ≤ 35184372088832) : Ev (fun k => F.laws_eqRanks.f k h u l h u l) true := by
  unfold F.laws_eqRanks.f
  simp only [if_true]
  refine Ev.bind (eqInt64S_ev l hl) ?_
  simp only [if_true]
  exact Ev.now _
theorem szRanks_eq (h u : Int) (l : List Int) (hl : l.length ≤ 9223372036854775807) : F.laws_szRanks.f h u l 1048576 = some (if (l.length : Int) ≤ 1048576 then 1048576 - (l.length : Int) else -1) := by
  unfold F.laws_szRanks.f F.laws_szInt64S.f
  rw [w64 (by omega) (by omega)]
  by_cases c : (l.length : Int) ≤ 1048576
  · rw [if_neg (by omega), if_pos c]
    simp only [Option.bind_some]
    rw [if_neg (by omega)]
  · rw [if_pos (by omega), if_neg c]
    simp
def Bad (l : List Int) (a b : Nat) : Prop := (a &&& b = a ∧ l.getD a 0 > l.getD b 0) ∨ l.getD a 0 + l.getD b 0 < l.getD (a ||| b) 0 + l.getD (a &&& b) 0
instance (l : List Int) (a b : Nat) : Decidable (Bad l a b) := inferInstanceAs (Decidable (_ ∨ _))
def Within (l : List Int) : Prop := ∀ i, i < l.length → 0 ≤ l.getD i 0 ∧ l.getD i 0 ≤ 100000
structure OkR (h u : Int) (l : List Int) : Prop where
  h1 : 1 ≤ h
  h2 : h ≤ 5
  u1 : 1 ≤ u
  u2 : u ≤ 100000
  len : l.length = 2 ^ h.toNat
  zero : l.getD 0 0 = 0
  rng : Within l
  good : ∀ a, a < l.length → ∀ b, b < l.length → ¬ Bad l a b
theorem within_eq (a b c : Int) : F.impl_within.f a b c = some (decide (b ≤ a ∧ a ≤ c)) := by
  unfold F.impl_within.f
  by_cases h : a ≥ b
  · rw [if_pos h]; simp [h]
  · rw [if_neg h]; simp [h]
theorem in_eq (a b c : Int) : F.spec_l00In.f a b c = some (decide (b ≤ a ∧ a ≤ c)) := by
  unfold F.spec_l00In.f
  by_cases h : a ≥ b
  · rw [if_pos h]; simp [h]
  · rw [if_neg h]; simp [h]
section
variable {l : List Int} {m : Nat} (hl : l.length = 2 ^ m) (hm : m ≤ 9) (hr : Within l)
include hl hm
theorem len_le : l.length ≤ 512 := by
  rw [hl]
  have h1 : (2 : Nat) ^ m ≤ 2 ^ 9 := Nat.pow_le_pow_right (by decide) hm
  have h2 : (2 : Nat) ^ 9 = 512 := by decide
  omega
theorem and_lt {a b : Nat} (hb : b < l.length) : a &&& b < l.length := by rw [hl] at *; exact Nat.and_lt_two_pow _ hb
theorem or_lt {a b : Nat} (ha : a < l.length) (hb : b < l.length) : a ||| b < l.length := by rw [hl] at *; exact Nat.or_lt_two_pow ha hb
include hr
theorem meets_round (a b : Nat) (ha : a < l.length) (hb : b < l.length) (k : Nat) :
    F.spec_l07Meets.l1 (k + 1) l a b = if Bad l a b then some false else F.spec_l07Meets.l1 k l a ((b + 1 : Nat) : Int) := by
  have hL := len_le hl hm
  have h1 : a &&& b < l.length := and_lt hl hm hb
  have h2 : a ||| b < l.length := or_lt hl hm ha hb
  have i1 := and_i64 (show a < 1024 by omega) (show b < 1024 by omega)
  have i2 := or_i64 (show a < 1024 by omega) (show b < 1024 by omega)
  show _ = if ((a &&& b = a ∧ l.getD a 0 > l.getD b 0) ∨ l.getD a 0 + l.getD b 0 < l.getD (a ||| b) 0 + l.getD (a &&& b) 0) then _ else _
  clear hl hm
  generalize a &&& b = x at *
  generalize a ||| b = y at *
  have ra := hr a ha
  have rb := hr b hb
  have r1 := hr _ h1
  have r2 := hr _ h2
  clear hr
  simp only [F.spec_l07Meets.l1, i1, i2, rd_nat]
  clear i1 i2
  generalize l.getD a 0 = la at *
  generalize l.getD b 0 = lb at *
  generalize l.getD x 0 = lx at *
  generalize l.getD y 0 = ly at *
  rw [w64 (show -9223372036854775808 ≤ la + lb by omega) (by omega), w64 (show -9223372036854775808 ≤ ly + lx by omega) (by omega), w64 (show -9223372036854775808 ≤ (b : Int) + 1 by omega) (by omega)]
  rw [if_pos (show (b : Int) < (l.length : Int) by omega)]
  have z : ∀ n : Nat, (0 : Int) ≤ (n : Int) := fun n => Int.natCast_nonneg n
  have p2 : (a : Int) < (l.length : Int) := by omega
  have p3 : (x : Int) < (l.length : Int) := by omega
  have p4 : (y : Int) < (l.length : Int) := by omega
  by_cases c : x = a
  · rw [if_pos (by omega), if_pos (z a), if_pos p2, if_pos (z b)]
    by_cases d : la > lb
    · rw [if_pos d, if_pos (Or.inl ⟨c, d⟩)]
    · rw [if_neg d, if_pos (z y), if_pos p4, if_pos (z x), if_pos p3]
      by_cases e : la + lb < ly + lx
      · rw [if_pos e, if_pos (Or.inr e)]
      · rw [if_neg e, if_neg (fun h => h.elim (fun h => d h.2) e)]
        rfl
  · rw [if_neg (by omega), if_pos (z a), if_pos p2, if_pos (z b), if_pos (z y), if_pos p4, if_pos (z x), if_pos p3]
    by_cases e : la + lb < ly + lx
    · rw [if_pos e, if_pos (Or.inr e)]
    · rw [if_neg e, if_neg (fun h => h.elim (fun h => c h.1) e)]
      rfl
theorem meets_row (a : Nat) (ha : a < l.length) : ((∀ b, b < l.length → ¬ Bad l a b) → ∀ r, Ev (fun k => F.spec_l07Meets.l0 k l ((a + 1 : Nat) : Int)) r → Ev (fun k => F.spec_l07Meets.l0 k l (a : Int)) r) ∧
    ((∃ b, b < l.length ∧ ¬ ¬ Bad l a b) → Ev (fun k => F.spec_l07Meets.l0 k l (a : Int)) false) := by
  have hL := len_le hl hm
  have hin : ∀ r, Ev (fun k => F.spec_l07Meets.l1 k l a 0) r → Ev (fun k => F.spec_l07Meets.l0 k l (a : Int)) r := fun r h => by
    refine Ev.step (fun k => ?_) h
    simp only [F.spec_l07Meets.l0]
    rw [if_pos (by omega)]
  have hs : ∀ i, i < l.length → ¬ Bad l a i → ∀ r, Ev (fun k => F.spec_l07Meets.l1 k l a ((i + 1 : Nat) : Int)) r → Ev (fun k => F.spec_l07Meets.l1 k l a (i : Int)) r := fun i hi hb r h => by
    refine Ev.step (fun k => ?_) h
    rw [meets_round hl hm hr a i ha hi, if_neg hb]
  constructor
  · intro hg r h
    refine hin r (ev_yes l.length (fun k i => F.spec_l07Meets.l1 k l a (i : Int)) (fun b => ¬ Bad l a b) r ?_ hs hg)
    refine Ev.step (fun k => ?_) h
    simp only [F.spec_l07Meets.l1]
    rw [if_neg (by omega), w64 (by omega) (by omega)]
    rfl
  · intro he
    refine hin false (ev_no l.length (fun k i => F.spec_l07Meets.l1 k l a (i : Int)) (fun b => ¬ Bad l a b) false hs (fun i hi hb => ?_) he)
    refine ev_succ (fun k => ?_)
    rw [meets_round hl hm hr a i ha hi, if_pos (Classical.not_not.1 hb)]
theorem meets_ev (c : Bool) (hc : c = true ↔ ∀ a, a < l.length → ∀ b, b < l.length → ¬ Bad l a b) : Ev (fun k => F.spec_l07Meets.f k l) c := by
  have hL := len_le hl hm
  unfold F.spec_l07Meets.f
  cases c with
  | true =>
    refine ev_yes l.length (fun k i => F.spec_l07Meets.l0 k l (i : Int)) (fun a => ∀ b, b < l.length → ¬ Bad l a b) true ?_ (fun i hi hP r h => (meets_row hl hm hr i hi).1 hP r h) (hc.1 rfl)
    refine ev_succ (fun k => ?_)
    simp only [F.spec_l07Meets.l0]
    rw [if_neg (by omega)]
  | false =>
    refine ev_no l.length (fun k i => F.spec_l07Meets.l0 k l (i : Int)) (fun a => ∀ b, b < l.length → ¬ Bad l a b) false (fun i hi hP r h => (meets_row hl hm hr i hi).1 hP r h) (fun i hi hP => (meets_row hl hm hr i hi).2 ?_) ?_
    · simpa using hP
    · apply Classical.byContradiction
      intro h
      have : false = true := hc.2 (fun a ha b hb => Classical.byContradiction (fun hn => h ⟨a, ha, fun h' => hn (h' b hb)⟩))
      cases this
end
theorem l07Ok_ev (h u : Int) (l : List Int) (hw : l.length ≤ 1048576) (hh : -9223372036854775808 ≤ h ∧ h ≤ 9223372036854775807) (c : Bool) (hc : c = true ↔ OkR h u l) : Ev (fun k => F.spec_l07Ok.f k h u l) c := by
  have no : ∀ {g : Nat → Option Bool}, ¬ OkR h u l → Ev g false → Ev g c := fun hn hg => by
    have : c = false := by
      cases c with
      | false => rfl
      | true => exact absurd (hc.1 rfl) hn
    rw [this]; exact hg
  have j0f : Ev (fun k => F.spec_l07Ok.j0 k true h u l) false := ev_succ (fun k => by simp only [F.spec_l07Ok.j0, if_true])
  unfold F.spec_l07Ok.f
  simp only [in_eq, Option.bind_some, decide_eq_true_eq]
  by_cases c1 : 1 ≤ h ∧ h ≤ 5
  · simp only [if_pos c1]
    by_cases c2 : 1 ≤ u ∧ u ≤ 100000
    · simp only [if_pos c2]
      obtain ⟨m, rfl⟩ : ∃ m : Nat, h = (m : Int) := ⟨h.toNat, by omega⟩
      have hm : m ≤ 9 := by omega
      rw [wu64 (by omega) (by omega), shl_i64 (by omega)]
      simp only [if_pos (show (0 : Int) ≤ (m : Int) by omega)]
      by_cases c3 : l.length = 2 ^ m
      · have c3' : (l.length : Int) = ((2 ^ m : Nat) : Int) := by rw [c3]
        have hL := len_le c3 hm
        have hp : 0 < l.length := by rw [c3]; exact Nat.two_pow_pos m
        simp only [if_pos c3', if_pos (show (0 : Int) < (l.length : Int) by omega)]
        rw [show rd l 0 = l.getD 0 0 from by simp [rd]]
        by_cases c4 : l.getD 0 0 = 0
        · have e4 : (l.getD 0 0 != 0) = false := by simpa using c4
          rw [e4]
          have hs : ∀ i, i < l.length → (0 ≤ l.getD i 0 ∧ l.getD i 0 ≤ 100000) → ∀ r, Ev (fun k => F.spec_l07Ok.l0 k ((i + 1 : Nat) : Int) (m : Int) u l) r → Ev (fun k => F.spec_l07Ok.l0 k (i : Int) (m : Int) u l) r := fun i hi hP r hr => by
            refine Ev.step (fun k => ?_) hr
            simp only [F.spec_l07Ok.l0, in_eq, Option.bind_some, rd_nat, decide_eq_true_eq]
            rw [if_pos (by omega), if_pos (by omega), if_pos hP, w64 (by omega) (by omega)]
            rfl
          refine Ev.step (f := fun k => F.spec_l07Ok.l0 k 0 (m : Int) u l) (fun k => by simp only [F.spec_l07Ok.j0]; rw [if_neg (by simp)]) ?_
          by_cases c5 : Within l
          · refine ev_yes l.length (fun k i => F.spec_l07Ok.l0 k (i : Int) (m : Int) u l) (fun i => 0 ≤ l.getD i 0 ∧ l.getD i 0 ≤ 100000) c ?_ hs c5
            have hmm := meets_ev c3 hm c5 c ⟨fun h => (hc.1 h).good, fun h => hc.2 ⟨c1.1, c1.2, c2.1, c2.2, by simpa using c3, c4, c5, h⟩⟩
            refine Ev.step (f := fun k => (F.spec_l07Meets.f k l).bind fun t => some t) (fun k => ?_) (Ev.bind hmm (Ev.now _))
            simp only [F.spec_l07Ok.l0]
            rw [if_neg (by omega)]
          · refine no (fun h => c5 h.rng) (ev_no l.length (fun k i => F.spec_l07Ok.l0 k (i : Int) (m : Int) u l) (fun i => 0 ≤ l.getD i 0 ∧ l.getD i 0 ≤ 100000) false hs (fun i hi hP => ?_) ?_)
            · refine ev_succ (fun k => ?_)
              simp only [F.spec_l07Ok.l0, in_eq, Option.bind_some, rd_nat, decide_eq_true_eq]
              rw [if_pos (by omega), if_pos (by omega), if_neg hP]
            · apply Classical.byContradiction
              intro h
              exact c5 (fun i hi => Classical.byContradiction (fun hn => h ⟨i, hi, hn⟩))
        · have e4 : (l.getD 0 0 != 0) = true := by simpa using c4
          rw [e4]
          exact no (fun h => c4 h.zero) j0f
      · have c3' : ¬ (l.length : Int) = ((2 ^ m : Nat) : Int) := fun h => c3 (by exact_mod_cast h)
        simp only [if_neg c3']
        exact no (fun h => c3 (by simpa using h.len)) j0f
    · simp only [if_neg c2]
      exact no (fun h => c2 ⟨h.u1, h.u2⟩) j0f
  · simp only [if_neg c1]
    exact no (fun h => c1 ⟨h.h1, h.h2⟩) j0f
theorem everybody_eq {m : Nat} (hm : m ≤ 9) : F.impl_everybody.f (m : Int) = some (((2 ^ m - 1 : Nat)) : Int) := by
  unfold F.impl_everybody.f
  rw [if_pos (by omega), shl_u64 (by omega)]
  have h0 : 0 < 2 ^ m := Nat.two_pow_pos m
  have h1 : (2 : Nat) ^ m ≤ 2 ^ 9 := Nat.pow_le_pow_right (by decide) hm
  have h2 : (2 : Nat) ^ 9 = 512 := by decide
  rw [wu64 (by omega) (by omega)]
  congr 1
  omega
theorem rank_eq (h u : Int) (l : List Int) (x : Nat) (hx : x < l.length) : F.impl_Ranks_rank.f h u l (x : Int) = some (l.getD x 0) := by
  unfold F.impl_Ranks_rank.f
  rw [if_pos (by omega), if_pos (by omega), rd_nat]
section
variable {l : List Int} {m : Nat} {h u : Int} (hh : h = (m : Int)) (hl : l.length = 2 ^ m) (hm : m ≤ 9) (hr : Within l)
include hh hl hm hr
theorem pairs_round (a b : Nat) (ha : a < l.length) (hb : b < l.length) (k : Nat) :
    F.impl_ValidRanks.l2 (k + 1) a b h u l = if Bad l a b then some false else F.impl_ValidRanks.l2 k a ((b + 1 : Nat) : Int) h u l := by
  subst hh
  have hL := len_le hl hm
  have hE := everybody_eq hm
  rw [← hl] at hE
  have h1 : a &&& b < l.length := and_lt hl hm hb
  have h2 : a ||| b < l.length := or_lt hl hm ha hb
  have i0 : Go.bits .and .u64 (b : Int) (a : Int) = ((a &&& b : Nat) : Int) := by rw [and_u64 (by omega) (by omega), Nat.and_comm]
  have i1 := and_u64 (show a < 1024 by omega) (show b < 1024 by omega)
  have i2 := or_u64 (show a < 1024 by omega) (show b < 1024 by omega)
  show _ = if ((a &&& b = a ∧ l.getD a 0 > l.getD b 0) ∨ l.getD a 0 + l.getD b 0 < l.getD (a ||| b) 0 + l.getD (a &&& b) 0) then _ else _
  clear hl hm
  generalize a &&& b = x at *
  generalize a ||| b = y at *
  have ra := hr a ha
  have rb := hr b hb
  have r1 := hr _ h1
  have r2 := hr _ h2
  clear hr
  simp only [F.impl_ValidRanks.l2, F.impl_crowd_contains.f, hE, i0, i1, i2, rank_eq _ _ _ _ ha, rank_eq _ _ _ _ hb, rank_eq _ _ _ _ h1, rank_eq _ _ _ _ h2, Option.bind_some]
  clear i0 i1 i2
  generalize l.getD a 0 = la at *
  generalize l.getD b 0 = lb at *
  generalize l.getD x 0 = lx at *
  generalize l.getD y 0 = ly at *
  rw [w64 (show -9223372036854775808 ≤ la + lb by omega) (by omega), w64 (show -9223372036854775808 ≤ ly + lx by omega) (by omega), wu64 (show 0 ≤ (b : Int) + 1 by omega) (by omega)]
  rw [if_pos (show (b : Int) ≤ ((l.length - 1 : Nat) : Int) by omega)]
  by_cases c : x = a
  · rw [if_pos (by rw [c]; exact beq_self_eq_true _)]
    by_cases d : la > lb
    · rw [if_pos (show lb < la from d), if_pos (Or.inl ⟨c, d⟩)]
    · rw [if_neg (show ¬ lb < la from d)]
      by_cases e : la + lb < ly + lx
      · rw [if_pos e, if_pos (Or.inr e)]
      · rw [if_neg e, if_neg (fun h => h.elim (fun h => d h.2) e)]
        rfl
  · rw [if_neg (by rw [beq_iff_eq]; omega)]
    by_cases e : la + lb < ly + lx
    · rw [if_pos e, if_pos (Or.inr e)]
    · rw [if_neg e, if_neg (fun h => h.elim (fun h => c h.1) e)]
      rfl
theorem pairs_row (a : Nat) (ha : a < l.length) : ((∀ b, b < l.length → ¬ Bad l a b) → ∀ r, Ev (fun k => F.impl_ValidRanks.l1 k ((a + 1 : Nat) : Int) h u l) r → Ev (fun k => F.impl_ValidRanks.l1 k (a : Int) h u l) r) ∧
    ((∃ b, b < l.length ∧ ¬ ¬ Bad l a b) → Ev (fun k => F.impl_ValidRanks.l1 k (a : Int) h u l) false) := by
  have hL := len_le hl hm
  have hE := everybody_eq hm
  rw [← hl] at hE
  have hin : ∀ r, Ev (fun k => F.impl_ValidRanks.l2 k a 0 h u l) r → Ev (fun k => F.impl_ValidRanks.l1 k (a : Int) h u l) r := fun r hh' => by
    refine Ev.step (fun k => ?_) hh'
    simp only [F.impl_ValidRanks.l1, hh, hE, Option.bind_some]
    rw [if_pos (by omega)]
  have hs : ∀ i, i < l.length → ¬ Bad l a i → ∀ r, Ev (fun k => F.impl_ValidRanks.l2 k a ((i + 1 : Nat) : Int) h u l) r → Ev (fun k => F.impl_ValidRanks.l2 k a (i : Int) h u l) r := fun i hi hb r hh' => by
    refine Ev.step (fun k => ?_) hh'
    rw [pairs_round hh hl hm hr a i ha hi, if_neg hb]
  constructor
  · intro hg r hh'
    refine hin r (ev_yes l.length (fun k i => F.impl_ValidRanks.l2 k a (i : Int) h u l) (fun b => ¬ Bad l a b) r ?_ hs hg)
    refine Ev.step (fun k => ?_) hh'
    simp only [F.impl_ValidRanks.l2, hh, hE, Option.bind_some]
    rw [if_neg (by omega), wu64 (by omega) (by omega)]
    rfl
  · intro he
    refine hin false (ev_no l.length (fun k i => F.impl_ValidRanks.l2 k a (i : Int) h u l) (fun b => ¬ Bad l a b) false hs (fun i hi hb => ?_) he)
    refine ev_succ (fun k => ?_)
    rw [pairs_round hh hl hm hr a i ha hi, if_pos (Classical.not_not.1 hb)]
theorem pairs_ev (c : Bool) (hc : c = true ↔ ∀ a, a < l.length → ∀ b, b < l.length → ¬ Bad l a b) : Ev (fun k => F.impl_ValidRanks.l1 k 0 h u l) c := by
  have hL := len_le hl hm
  have hE := everybody_eq hm
  rw [← hl] at hE
  have hp : 0 < l.length := by rw [hl]; exact Nat.two_pow_pos m
  cases c with
  | true =>
    refine ev_yes l.length (fun k i => F.impl_ValidRanks.l1 k (i : Int) h u l) (fun a => ∀ b, b < l.length → ¬ Bad l a b) true ?_ (fun i hi hP r h => (pairs_row hh hl hm hr i hi).1 hP r h) (hc.1 rfl)
    refine ev_succ (fun k => ?_)
    simp only [F.impl_ValidRanks.l1, hh, hE, Option.bind_some]
    rw [if_neg (by omega)]
  | false =>
    refine ev_no l.length (fun k i => F.impl_ValidRanks.l1 k (i : Int) h u l) (fun a => ∀ b, b < l.length → ¬ Bad l a b) false (fun i hi hP r h => (pairs_row hh hl hm hr i hi).1 hP r h) (fun i hi hP => (pairs_row hh hl hm hr i hi).2 ?_) ?_
    · simpa using hP
    · apply Classical.byContradiction
      intro h
      have : false = true := hc.2 (fun a ha b hb => Classical.byContradiction (fun hn => h ⟨a, ha, fun h' => hn (h' b hb)⟩))
      cases this
end
theorem validRanks_ev (h u : Int) (l : List Int) (hw : l.length ≤ 1048576) (hh : -9223372036854775808 ≤ h ∧ h ≤ 9223372036854775807) (c : Bool) (hc : c = true ↔ OkR h u l) : Ev (fun k => F.impl_ValidRanks.f k h u l) c := by
  have no : ∀ {g : Nat → Option Bool}, ¬ OkR h u l → Ev g false → Ev g c := fun hn hg => by
    have : c = false := by
      cases c with
      | false => rfl
      | true => exact absurd (hc.1 rfl) hn
    rw [this]; exact hg
  have j0f : Ev (fun k => F.impl_ValidRanks.j0 k true h u l) false := ev_succ (fun k => by simp only [F.impl_ValidRanks.j0, if_true])
  unfold F.impl_ValidRanks.f
  simp only [within_eq, Option.bind_some, decide_eq_true_eq]
  by_cases c1 : 1 ≤ h ∧ h ≤ 5
  · simp only [if_pos c1]
    by_cases c2 : 1 ≤ u ∧ u ≤ 100000
    · simp only [if_pos c2]
      obtain ⟨m, rfl⟩ : ∃ m : Nat, h = (m : Int) := ⟨h.toNat, by omega⟩
      have hm : m ≤ 9 := by omega
      rw [shl_i64 (by omega)]
      simp only [if_pos (show (0 : Int) ≤ (m : Int) by omega)]
      by_cases c3 : l.length = 2 ^ m
      · have c3' : (l.length : Int) = ((2 ^ m : Nat) : Int) := by rw [c3]
        have hL := len_le c3 hm
        have hp : 0 < l.length := by rw [c3]; exact Nat.two_pow_pos m
        simp only [if_pos c3', if_pos (show (0 : Int) < (l.length : Int) by omega)]
        rw [show rd l 0 = l.getD 0 0 from by simp [rd]]
        by_cases c4 : l.getD 0 0 = 0
        · have e4 : (l.getD 0 0 != 0) = false := by simpa using c4
          rw [e4]
          have hs : ∀ i, i < l.length → (0 ≤ l.getD i 0 ∧ l.getD i 0 ≤ 100000) → ∀ r, Ev (fun k => F.impl_ValidRanks.l0 k l l.length ((i + 1 : Nat) : Int) (m : Int) u l) r → Ev (fun k => F.impl_ValidRanks.l0 k l l.length (i : Int) (m : Int) u l) r := fun i hi hP r hr => by
            refine Ev.step (fun k => ?_) hr
            simp only [F.impl_ValidRanks.l0, within_eq, Option.bind_some, rd_nat, decide_eq_true_eq]
            rw [if_pos (by omega), if_pos (by omega), if_pos (by omega), if_pos hP, w64 (by omega) (by omega)]
            rfl
          refine Ev.step (f := fun k => F.impl_ValidRanks.l0 k l l.length 0 (m : Int) u l) (fun k => by simp only [F.impl_ValidRanks.j0]; rw [if_neg (by simp)]) ?_
          by_cases c5 : Within l
          · refine ev_yes l.length (fun k i => F.impl_ValidRanks.l0 k l l.length (i : Int) (m : Int) u l) (fun i => 0 ≤ l.getD i 0 ∧ l.getD i 0 ≤ 100000) c ?_ hs c5
            have hmm := pairs_ev (u := u) rfl c3 hm c5 c ⟨fun h => (hc.1 h).good, fun h => hc.2 ⟨c1.1, c1.2, c2.1, c2.2, by simpa using c3, c4, c5, h⟩⟩
            refine Ev.step (fun k => ?_) hmm
            simp only [F.impl_ValidRanks.l0]
            rw [if_neg (by omega)]
          · refine no (fun h => c5 h.rng) (ev_no l.length (fun k i => F.impl_ValidRanks.l0 k l l.length (i : Int) (m : Int) u l) (fun i => 0 ≤ l.getD i 0 ∧ l.getD i 0 ≤ 100000) false hs (fun i hi hP => ?_) ?_)
            · refine ev_succ (fun k => ?_)
              simp only [F.impl_ValidRanks.l0, within_eq, Option.bind_some, rd_nat, decide_eq_true_eq]
              rw [if_pos (by omega), if_pos (by omega), if_pos (by omega), if_neg hP]
            · apply Classical.byContradiction
              intro h
              exact c5 (fun i hi => Classical.byContradiction (fun hn => h ⟨i, hi, hn⟩))
        · have e4 : (l.getD 0 0 != 0) = true := by simpa using c4
          rw [e4]
          exact no (fun h => c4 h.zero) j0f
      · have c3' : ¬ (l.length : Int) = ((2 ^ m : Nat) : Int) := fun h => c3 (by exact_mod_cast h)
        simp only [if_neg c3']
        exact no (fun h => c3 (by simpa using h.len)) j0f
    · simp only [if_neg c2]
      exact no (fun h => c2 ⟨h.u1, h.u2⟩) j0f
  · simp only [if_neg c1]
    exact no (fun h => c1 ⟨h.h1, h.h2⟩) j0f
noncomputable def okB (h u : Int) (l : List Int) : Bool := @decide (OkR h u l) (Classical.propDecidable _)
theorem okB_iff {h u : Int} {l : List Int} : okB h u l = true ↔ OkR h u l := by unfold okB; exact @decide_eq_true_iff _ (Classical.propDecidable _)
theorem okB_spec (h u : Int) (l : List Int) (hw : l.length ≤ 1048576) (hh : -9223372036854775808 ≤ h ∧ h ≤ 9223372036854775807) : Ev (fun k => F.spec_l07Ok.f k h u l) (okB h u l) := l07Ok_ev h u l hw hh _ okB_iff
theorem okB_impl (h u : Int) (l : List Int) (hw : l.length ≤ 1048576) (hh : -9223372036854775808 ≤ h ∧ h ≤ 9223372036854775807) : Ev (fun k => F.impl_ValidRanks.f k h u l) (okB h u l) := validRanks_ev h u l hw hh _ okB_iff
theorem wf_i64 {a : Int} (h : (Lit.int .i64 a).wf = true) : -9223372036854775808 ≤ a ∧ a ≤ 9223372036854775807 := by
  simpa [Lit.wf, IntKind.min, IntKind.max, IntKind.signed, IntKind.bits] using h
end Go.Proofs.Ytmniekgnpppbhaa.Pl
end
section
namespace Go.Proofs.Ytmniekgnpppbhaa.Pl
open Go.RowKit Go.Proofs.YtmniekgnpppbhaaW.PrintWords Go.Proofs.YtmniekgnpppbhaaW.PrintLast Go.Proofs.YtmniekgnpppbhaaW.PrintMore
set_option linter.unusedVariables false
def marks (a : Int) : Nat → List Int
  | 0 => []
  | n + 1 => a :: marks (a + 1) n
theorem marks_length (a : Int) (n : Nat) : (marks a n).length = n := by
  induction n generalizing a with
  | zero => rfl
  | succ n ih => simp [marks, ih]
theorem marks_get (a : Int) (n i : Nat) (h : i < n) : (marks a n).getD i 0 = a + i := by
  induction n generalizing a i with
  | zero => omega
  | succ n ih =>
    cases i with
    | zero => simp [marks]
    | succ i =>
      rw [marks, List.getD_cons_succ, ih _ _ (by omega)]
      omega
theorem marks_snoc (a : Int) (n : Nat) : marks a (n + 1) = marks a n ++ [a + n] := by
  induction n generalizing a with
  | zero => simp [marks]
  | succ n ih =>
    rw [marks, ih (a + 1), marks, List.cons_append]
    congr 3
    omega
theorem set_mark (l : List Int) (a : Int) (i : Nat) (h : i < l.length) : (marks a i ++ l.drop i).set i (a + i) = marks a (i + 1) ++ l.drop (i + 1) := by
  rw [marks_snoc, List.set_append_right _ _ (by rw [marks_length]; exact Nat.le_refl _), marks_length, Nat.sub_self, List.drop_eq_getElem_cons h, List.set_cons_zero, List.append_assoc]
  rfl
theorem mark_ev (l : List Int) (a : Int) (ha : 0 ≤ a) (hl : a + l.length ≤ 9223372036854775806) : Ev (fun k => F.laws_markInt64S.f k l a) (a + l.length, marks a l.length) := by
  unfold F.laws_markInt64S.f
  have h := ev_down l.length (fun k i => F.laws_markInt64S.l0 k (marks a i ++ l.drop i) (a + i) (i : Int)) (a + l.length, marks a l.length) ?_ ?_ l.length 0 (by omega)
  · simpa [marks] using h
  · refine ev_succ (fun k => ?_)
    simp only [F.laws_markInt64S.l0]
    rw [if_neg (by simp [marks_length])]
    simp
  · intro i hi h
    refine Ev.step (fun k => ?_) h
    simp only [F.laws_markInt64S.l0]
    rw [if_pos (by simp [marks_length]; omega), if_pos (by omega), show ((i : Int)).toNat = i from by omega, set_mark l a i hi, w64 (by omega) (by omega), w64 (by omega) (by omega)]
    congr 1
    omega
theorem held_ev (n : Nat) (a : Int) (ha : 0 ≤ a) (hl : a + n ≤ 9223372036854775806) : Ev (fun k => F.laws_heldInt64S.f k (marks a n) a) (a + n) := by
  unfold F.laws_heldInt64S.f
  have h := ev_down n (fun k i => F.laws_heldInt64S.l0 k (marks a n) (a + i) (i : Int)) (a + n) ?_ ?_ n 0 (by omega)
  · simpa using h
  · refine ev_succ (fun k => ?_)
    simp only [F.laws_heldInt64S.l0]
    rw [if_neg (by simp [marks_length])]
  · intro i hi h
    refine Ev.step (fun k => ?_) h
    simp only [F.laws_heldInt64S.l0]
    rw [if_pos (by simp [marks_length]; omega), if_pos (by omega), rd_nat, marks_get a n i hi, if_pos rfl, w64 (by omega) (by omega), w64 (by omega) (by omega)]
    congr 1
    omega
theorem markRanks_ev (h u : Int) (l : List Int) (a : Int) (ha : 0 ≤ a) (hl : a + l.length ≤ 9223372036854775806) : Ev (fun k => F.laws_markRanks.f k h u l a) (a + l.length, marks a l.length) := by
  unfold F.laws_markRanks.f
  exact Ev.bind (mark_ev l a ha hl) (Ev.now _)
theorem heldRanks_ev (h u : Int) (n : Nat) (a : Int) (ha : 0 ≤ a) (hl : a + n ≤ 9223372036854775806) : Ev (fun k => F.laws_heldRanks.f k h u (marks a n) a) (a + n) := by
  unfold F.laws_heldRanks.f
  refine Ev.bind (held_ev n a ha hl) ?_
  simp only [if_neg (show ¬ (a + (n : Int) < 0) by omega)]
  exact Ev.now _
end Go.Proofs.Ytmniekgnpppbhaa.Pl
end
section
namespace Go.Proofs.Ytmniekgnpppbhaa.Pure
open Go.RowKit Go.Proofs.YtmniekgnpppbhaaW.PrintWords Go.Proofs.YtmniekgnpppbhaaW.PrintLast Go.Proofs.YtmniekgnpppbhaaW.PrintMore Go.Proofs.Ytmniekgnpppbhaa.F Go.Proofs.Ytmniekgnpppbhaa.Pl
set_option linter.unusedVariables false
set_option linter.unusedSectionVars false
set_option linter.unusedSimpArgs false
def sumL (l m : List Int) : List Int := (List.range l.length).map fun i => l.getD i 0 + m.getD i 0
theorem sumL_len (l m : List Int) : (sumL l m).length = l.length := by simp [sumL]
theorem sumL_get (l m : List Int) (i : Nat) (h : i < l.length) : (sumL l m).getD i 0 = l.getD i 0 + m.getD i 0 := by
  unfold sumL
  simp [List.getD_eq_getElem?_getD, h]
noncomputable def add (h u : Int) (l : List Int) (h' u' : Int) (l' : List Int) : Int × Int × List Int × Int :=
  if okB h u l = true ∧ okB h' u' l' = true then (if h = h' then (if okB h (u + u') (sumL l l') = true then (h, u + u', sumL l l', 0) else (0, 0, [], 3)) else (0, 0, [], 2)) else (0, 0, [], 1)
section
variable {h u u' : Int} {l l' : List Int} (hc : OkR h u l) (hd : OkR h u' l')
include hc hd
theorem same_len : l'.length = l.length := by rw [hc.len, hd.len]
theorem sum_ok : OkR h (u + u') (sumL l l') ↔ u + u' ≤ 100000 ∧ ∀ i, i < (sumL l l').length → (sumL l l').getD i 0 ≤ 100000 := by
  have hL := same_len hc hd
  constructor
  · intro s
    exact ⟨s.u2, fun i hi => (s.rng i hi).2⟩
  · rintro ⟨h1, h2⟩
    have hp : 0 < l.length := by rw [hc.len]; exact Nat.two_pow_pos _
    refine ⟨hc.h1, hc.h2, by have := hc.u1; have := hd.u1; omega, h1, by rw [sumL_len, hc.len], by rw [sumL_get l l' 0 hp, hc.zero, hd.zero]; rfl, fun i hi => ⟨?_, h2 i hi⟩, fun a ha b hb => ?_⟩
    · rw [sumL_len] at hi
      rw [sumL_get l l' i hi]
      have := (hc.rng i hi).1
      have := (hd.rng i (by omega)).1
      omega
    · rw [sumL_len] at ha hb
      have hm : h.toNat ≤ 9 := by have := hc.h2; omega
      have i1 : a &&& b < l.length := and_lt hc.len hm hb
      have i2 : a ||| b < l.length := or_lt hc.len hm ha hb
      have g1 := hc.good a ha b hb
      have g2 := hd.good a (by omega) b (by omega)
      unfold Bad at *
      rw [sumL_get l l' a ha, sumL_get l l' b hb, sumL_get l l' _ i1, sumL_get l l' _ i2]
      clear i1 i2 hm
      generalize a &&& b = x at *
      generalize a ||| b = y at *
      rintro (⟨e, p⟩ | p)
      · rcases Int.lt_or_le (l.getD b 0) (l.getD a 0) with q | q
        · exact g1 (Or.inl ⟨e, q⟩)
        · exact g2 (Or.inl ⟨e, by omega⟩)
      · rcases Int.lt_or_le (l.getD a 0 + l.getD b 0) (l.getD y 0 + l.getD x 0) with q | q
        · exact g1 (Or.inr q)
        · exact g2 (Or.inr (by omega))
theorem sum_small (i : Nat) (hi : i < l.length) : wrap64 (l.getD i 0 + l'.getD i 0) = l.getD i 0 + l'.getD i 0 := by
  have hL := same_len hc hd
  have r1 := hc.rng i hi
  have r2 := hd.rng i (by omega)
  exact w64 (by omega) (by omega)
theorem u_small : wrap64 (u + u') = u + u' := by
  have := hc.u1; have := hc.u2; have := hd.u1; have := hd.u2
  exact w64 (by omega) (by omega)
theorem short_len : l.length ≤ 512 := len_le (m := h.toNat) hc.len (by have := hc.h2; omega)
theorem spec_loop : Ev (fun k => F.spec_AddRanks.l0 k 0 h u l h u' l' h (u + u') []) (if okB h (u + u') (sumL l l') = true then (h, u + u', sumL l l', 0) else (0, 0, [], 3)) := by
  have hL := same_len hc hd
  have hS := short_len hc hd
  have h1 := hc.h1
  have h2 := hc.h2
  have e := ev_down l.length (fun k i => F.spec_AddRanks.l0 k (i : Int) h u l h u' l' h (u + u') ((List.range i).map fun j => l.getD j 0 + l'.getD j 0)) (if okB h (u + u') (sumL l l') = true then (h, u + u', sumL l l', 0) else (0, 0, [], 3)) ?_ ?_ l.length 0 (by omega)
  · exact e
  · refine Ev.step (fun k => ?_) (Ev.bind (f := fun k (t : Bool) => if t = true then some (h, u + u', sumL l l', (0 : Int)) else some (0, 0, [], 3)) (okB_spec h (u + u') (sumL l l') (by rw [sumL_len]; omega) ⟨by omega, by omega⟩) ?_)
    · simp only [F.spec_AddRanks.l0]
      rw [if_neg (by omega)]
      rfl
    · by_cases c : okB h (u + u') (sumL l l') = true
      · simp only [if_pos c]; exact Ev.now _
      · simp only [if_neg c]; exact Ev.now _
  · intro i hi e
    refine Ev.step (fun k => ?_) e
    simp only [F.spec_AddRanks.l0, rd_nat]
    rw [sum_small hc hd i hi, if_pos (by omega), if_pos (by omega), if_pos (by omega), if_pos (by rw [List.length_map, List.length_range]; omega), w64 (n := (i : Int) + 1) (by omega) (by omega), List.range_succ, List.map_append]
    rfl
theorem max_ev (x : List Int) (hx : x.length ≤ 9223372036854775806) (hp : 0 < x.length) : ∃ v, Ev (fun k => F.slices_Max_int64_int64.f k x) v ∧ (v ≤ 100000 ↔ ∀ i, i < x.length → x.getD i 0 ≤ 100000) := by
  have key : ∀ d i m, i + d = x.length → ∃ v, Ev (fun k => F.slices_Max_int64_int64.l0 k x m (i : Int)) v ∧ (v ≤ 100000 ↔ m ≤ 100000 ∧ ∀ j, i ≤ j → j < x.length → x.getD j 0 ≤ 100000) := by
    intro d
    induction d with
    | zero =>
      intro i m hi
      refine ⟨m, ev_succ (fun k => ?_), ⟨fun hm => ⟨hm, fun j a b => by omega⟩, fun hm => hm.1⟩⟩
      simp only [F.slices_Max_int64_int64.l0]
      rw [if_neg (by omega)]
    | succ d ih =>
      intro i m hi
      obtain ⟨v, e, hv⟩ := ih (i + 1) (mx m (x.getD i 0)) (by omega)
      refine ⟨v, Ev.step (fun k => ?_) e, hv.trans ⟨fun ⟨p, q⟩ => ?_, fun ⟨p, q⟩ => ?_⟩⟩
      · simp only [F.slices_Max_int64_int64.l0, rd_nat]
        rw [if_pos (by omega), if_pos (by omega), w64 (by omega) (by omega)]
        rfl
      · unfold mx at p
        by_cases c : m < x.getD i 0
        · rw [if_pos c] at p
          refine ⟨by omega, fun j a b => ?_⟩
          rcases Nat.eq_or_lt_of_le a with rfl | hlt
          · exact p
          · exact q j hlt b
        · rw [if_neg c] at p
          refine ⟨p, fun j a b => ?_⟩
          rcases Nat.eq_or_lt_of_le a with rfl | hlt
          · omega
          · exact q j hlt b
      · refine ⟨?_, fun j a b => q j (by omega) b⟩
        have := q i (Nat.le_refl _) (by omega)
        unfold mx
        by_cases c : m < x.getD i 0
        · rw [if_pos c]; exact this
        · rw [if_neg c]; exact p
  obtain ⟨v, e, hv⟩ := key (x.length - 1) 1 (x.getD 0 0) (by omega)
  refine ⟨v, ?_, hv.trans ⟨fun ⟨p, q⟩ i hi => ?_, fun p => ⟨p 0 hp, fun j _ hj => p j hj⟩⟩⟩
  · unfold F.slices_Max_int64_int64.f
    have z : rd x 0 = x.getD 0 0 := rd_nat x 0
    simp only [if_neg (show ¬ (x.length : Int) < 1 by omega), if_pos (show (0 : Int) < (x.length : Int) by omega), z]
    exact e
  · by_cases z : i = 0
    · subst z; exact p
    · exact q i (by omega) hi
theorem impl_loop : Ev (fun k => F.impl_AddRanks.l0 k l (l.length : Int) 0 h u' l' h (u + u') []) (if okB h (u + u') (sumL l l') = true then (h, u + u', sumL l l', 0) else (0, 0, [], 3)) := by
  have hL := same_len hc hd
  have hS := short_len hc hd
  have hp : 0 < l.length := by rw [hc.len]; exact Nat.two_pow_pos _
  obtain ⟨v, hv, hvi⟩ := max_ev hc hd (sumL l l') (by rw [sumL_len]; omega) (by rw [sumL_len]; omega)
  have e := ev_down l.length (fun k i => F.impl_AddRanks.l0 k l (l.length : Int) (i : Int) h u' l' h (u + u') ((List.range i).map fun j => l.getD j 0 + l'.getD j 0)) (if okB h (u + u') (sumL l l') = true then (h, u + u', sumL l l', 0) else (0, 0, [], 3)) ?_ ?_ l.length 0 (by omega)
  · exact e
  · refine Ev.step (fun k => ?_) (Ev.bind (f := fun k (t : Int) => if (mx (u + u') t) > 100000 then some ((0 : Int), (0 : Int), ([] : List Int), (3 : Int)) else some (h, u + u', sumL l l', 0)) hv ?_)
    · simp only [F.impl_AddRanks.l0]
      rw [if_neg (by omega)]
      rfl
    · have so := sum_ok hc hd
      by_cases c : okB h (u + u') (sumL l l') = true
      · have s := so.1 (okB_iff.1 c)
        have hv2 := hvi.2 s.2
        have : ¬ mx (u + u') v > 100000 := by
          unfold mx
          by_cases q : u + u' < v
          · rw [if_pos q]; omega
          · rw [if_neg q]; have := s.1; omega
        simp only [if_pos c, if_neg this]; exact Ev.now _
      · have : mx (u + u') v > 100000 := by
          apply Classical.byContradiction
          intro hn
          refine c (okB_iff.2 (so.2 ?_))
          unfold mx at hn
          by_cases q : u + u' < v
          · rw [if_pos q] at hn
            exact ⟨by omega, hvi.1 (by omega)⟩
          · rw [if_neg q] at hn
            exact ⟨by omega, hvi.1 (by omega)⟩
        simp only [if_neg c, if_pos this]; exact Ev.now _
  · intro i hi e
    refine Ev.step (fun k => ?_) e
    simp only [F.impl_AddRanks.l0, rd_nat]
    rw [sum_small hc hd i hi, if_pos (by omega), if_pos (by omega), if_pos (by omega), if_pos (by omega), if_pos (by rw [List.length_map, List.length_range]; omega), w64 (n := (i : Int) + 1) (by omega) (by omega), List.range_succ, List.map_append]
    rfl
end
section
variable (h u : Int) (l : List Int) (h' u' : Int) (l' : List Int) (hh : -9223372036854775808 ≤ h ∧ h ≤ 9223372036854775807) (hh' : -9223372036854775808 ≤ h' ∧ h' ≤ 9223372036854775807) (hl : l.length ≤ 1048576) (hl' : l'.length ≤ 1048576)
include hh hh' hl hl'
theorem spec_add : Ev (fun k => F.spec_AddRanks.f k h u l h' u' l') (add h u l h' u' l') := by
  unfold F.spec_AddRanks.f add
  have bad : Ev (fun k => F.spec_AddRanks.j0 k true h u l h' u' l') ((0 : Int), (0 : Int), ([] : List Int), (1 : Int)) := ev_succ (fun k => by simp only [F.spec_AddRanks.j0, if_true])
  refine Ev.bind (okB_spec h u l hl hh) ?_
  by_cases c : okB h u l = true
  · simp only [if_pos c]
    refine Ev.bind (okB_spec h' u' l' hl' hh') ?_
    by_cases d : okB h' u' l' = true
    · rw [if_pos ⟨c, d⟩]
      simp only [d, Bool.not_true]
      have hc := okB_iff.1 c
      have hd := okB_iff.1 d
      by_cases e : h = h'
      · subst e
        simp only [if_true]
        refine Ev.step (fun k => by simp only [F.spec_AddRanks.j0, Bool.false_eq_true, if_false, if_true, u_small hc hd]) (spec_loop hc hd)
      · simp only [if_neg e]
        exact ev_succ (fun k => by simp only [F.spec_AddRanks.j0, Bool.false_eq_true, if_false, if_neg e])
    · rw [if_neg (fun hx => d hx.2), Bool.eq_false_iff.2 d]
      exact bad
  · simp only [if_neg c]
    rw [if_neg (fun hx => c hx.1)]
    exact bad
theorem impl_add : Ev (fun k => F.impl_AddRanks.f k h u l h' u' l') (add h u l h' u' l') := by
  unfold F.impl_AddRanks.f add
  have bad : Ev (fun k => F.impl_AddRanks.j0 k true h u l h' u' l') ((0 : Int), (0 : Int), ([] : List Int), (1 : Int)) := ev_succ (fun k => by simp only [F.impl_AddRanks.j0, if_true])
  refine Ev.bind (okB_impl h u l hl hh) ?_
  by_cases c : okB h u l = true
  · simp only [if_pos c]
    refine Ev.bind (okB_impl h' u' l' hl' hh') ?_
    by_cases d : okB h' u' l' = true
    · rw [if_pos ⟨c, d⟩]
      simp only [d, Bool.not_true]
      have hc := okB_iff.1 c
      have hd := okB_iff.1 d
      by_cases e : h = h'
      · subst e
        simp only [if_true]
        refine Ev.step (fun k => by simp only [F.impl_AddRanks.j0, Bool.false_eq_true, if_false, if_true, u_small hc hd]) (impl_loop hc hd)
      · simp only [if_neg e]
        exact ev_succ (fun k => by simp only [F.impl_AddRanks.j0, Bool.false_eq_true, if_false, if_neg e])
    · rw [if_neg (fun hx => d hx.2), Bool.eq_false_iff.2 d]
      exact bad
  · simp only [if_neg c]
    rw [if_neg (fun hx => c hx.1)]
    exact bad
end
theorem add_len (h u : Int) (l : List Int) (h' u' : Int) (l' : List Int) (hl : l.length ≤ 1048576) : (add h u l h' u' l').2.2.1.length ≤ 1048576 := by
  unfold add
  split
  · split
    · split
      · rw [sumL_len]; exact hl
      · simp
    · simp
  · simp
theorem sz_gen (h u : Int) (l : List Int) (a : Int) (ha : 0 ≤ a) (hb : a ≤ 1048576) (hl : l.length ≤ 9223372036854775807) : F.laws_szRanks.f h u l a = some (if (l.length : Int) ≤ a then a - (l.length : Int) else -1) := by
  unfold F.laws_szRanks.f F.laws_szInt64S.f
  rw [w64 (by omega) (by omega)]
  by_cases c : (l.length : Int) ≤ a
  · rw [if_neg (by omega), if_pos c]
    simp only [Option.bind_some]
    rw [if_neg (by omega)]
  · rw [if_pos (by omega), if_neg c]
    simp
theorem FnExactAddRanks (y0_0 : Int) (y0_1 : Int) (y0_2 : List Int) (y1_0 : Int) (y1_1 : Int) (y1_2 : List Int) (hw0 : (fun x => (fun a => (Lit.int .i64 a).wf = true) x.1 ∧ (fun x => (fun a => (Lit.int .i64 a).wf = true) x.1 ∧ (fun xs => xs.length ≤ maxLen ∧ xs.length * 8 ≤ 140737488351232 ∧ ∀ x ∈ xs, (fun a => (Lit.int .i64 a).wf = true) x) x.2) x.2) (y0_0, y0_1, y0_2)) (hw1 : (fun x => (fun a => (Lit.int .i64 a).wf = true) x.1 ∧ (fun x => (fun a => (Lit.int .i64 a).wf = true) x.1 ∧ (fun xs => xs.length ≤ maxLen ∧ xs.length * 8 ≤ 140737488351232 ∧ ∀ x ∈ xs, (fun a => (Lit.int .i64 a).wf = true) x) x.2) x.2) (y1_0, y1_1, y1_2)) : ∃ k, F.laws_FnExactAddRanks.f k y0_0 y0_1 y0_2 y1_0 y1_1 y1_2 = some true := by
  obtain ⟨h1, h2, h3, h4, h5⟩ := hw0
  obtain ⟨i1, i2, i3, i4, i5⟩ := hw1
  have g1 : -9223372036854775808 ≤ y0_0 ∧ y0_0 ≤ 9223372036854775807 := wf_i64 h1
  have g2 : -9223372036854775808 ≤ y1_0 ∧ y1_0 ≤ 9223372036854775807 := wf_i64 i1
  have hL : y0_2.length * 8 ≤ 140737488351232 := h4
  have hL' : y1_2.length * 8 ≤ 140737488351232 := i4
  refine Ev.rounds ?_
  unfold F.laws_FnExactAddRanks.f
  rw [szRanks_eq _ _ _ (by omega)]
  simp only [Option.bind_some]
  by_cases c : (y0_2.length : Int) ≤ 1048576
  · simp only [if_pos c, if_neg (show ¬ (1048576 - (y0_2.length : Int) < 0) by omega)]
    rw [sz_gen y1_0 y1_1 y1_2 _ (by omega) (by omega) (by omega)]
    simp only [Option.bind_some]
    by_cases d : (y1_2.length : Int) ≤ 1048576 - (y0_2.length : Int)
    · simp only [if_pos d, if_neg (show ¬ (1048576 - (y0_2.length : Int) - (y1_2.length : Int) < 0) by omega)]
      have hT := toRanks_ev y0_0 y0_1 y0_2 (by omega)
      have hE := eqRanks_ev y0_0 y0_1 y0_2 (by omega)
      have hT2 := toRanks_ev y1_0 y1_1 y1_2 (by omega)
      have hE2 := eqRanks_ev y1_0 y1_1 y1_2 (by omega)
      have hS := spec_add y0_0 y0_1 y0_2 y1_0 y1_1 y1_2 g1 g2 (by omega) (by omega)
      have hI := impl_add y0_0 y0_1 y0_2 y1_0 y1_1 y1_2 g1 g2 (by omega) (by omega)
      have hn := add_len y0_0 y0_1 y0_2 y1_0 y1_1 y1_2 (by omega)
      generalize add y0_0 y0_1 y0_2 y1_0 y1_1 y1_2 = v at *
      obtain ⟨h', u', l', code⟩ := v
      have hn' : l'.length ≤ 1048576 := hn
      have hE' := eqRanks_ev h' u' l' (by omega)
      have hM := markRanks_ev y0_0 y0_1 y0_2 1 (by omega) (by omega)
      have hM2 := markRanks_ev y1_0 y1_1 y1_2 (1 + y0_2.length) (by omega) (by omega)
      have hM' := markRanks_ev h' u' l' 1 (by omega) (by omega)
      have hH := heldRanks_ev h' u' l'.length 1 (by omega) (by omega)
      refine Ev.bind hT (Ev.bind hT2 (Ev.bind hS (Ev.bind hT (Ev.bind hT2 (Ev.bind hI (Ev.bind hE' ?_))))))
      simp only [if_true, bne_self_eq_false]
      refine Ev.step (fun k => by simp only [F.laws_FnExactAddRanks.j0, Bool.false_eq_true, if_false]; rfl) ?_
      refine Ev.bind hT (Ev.bind hE ?_)
      simp only [if_true]
      refine Ev.bind hT2 (Ev.bind hE2 ?_)
      simp only [if_true]
      refine Ev.bind hM (Ev.bind hM2 ?_)
      simp only [if_neg (show ¬ (1 + (y0_2.length : Int) + (y1_2.length : Int) < 0) by omega)]
      refine Ev.bind hE' ?_
      simp only [if_true, bne_self_eq_false]
      refine Ev.step (fun k => by simp only [F.laws_FnExactAddRanks.j1, Bool.false_eq_true, if_false]; rfl) ?_
      refine Ev.bind hM' (Ev.bind hH ?_)
      simp only [if_true, if_neg (show ¬ (1 + (l'.length : Int) < 0) by omega)]
      refine Ev.bind hT (Ev.bind hT2 (Ev.bind hI (Ev.bind hE' ?_)))
      simp only [if_true, bne_self_eq_false]
      refine Ev.step (fun k => by simp only [F.laws_FnExactAddRanks.j2, Bool.false_eq_true, if_false]; rfl) ?_
      refine Ev.bind hH ?_
      simp only [if_true, if_neg (show ¬ (1 + (l'.length : Int) < 0) by omega)]
      exact Ev.now _
    · simp only [if_neg d]
      exact Ev.now _
  · simp only [if_neg c]
    exact Ev.now _
end Go.Proofs.Ytmniekgnpppbhaa.Pure
end
section
namespace Go.Proofs.Ytmniekgnpppbhaa.Op
open Go.RowKit Go.ChangeShapes Go.WideShapes Go.Proofs.YtmniekgnpppbhaaW.PrintWords
theorem weightsAll_mem {H : Type} {P : Program} {e : TypeId} : ∀ {l : List (DataW H)} {d : DataW H}, d ∈ l → ∀ n ∈ d.weights P e, n ∈ DataW.weightsAll P e l
  | [], _, h, _, _ => by simp at h
  | x :: l, d, h, n, hn => by
    rw [DataW.weightsAll, List.mem_append]
    rcases List.mem_cons.1 h with rfl | h
    · exact .inl hn
    · exact .inr (weightsAll_mem h n hn)
theorem list_lt {α : Type} {p : Nat → α → Prop} : ∀ n : Nat, (∀ i, i < n → ∃ x, p i x) → ∃ xs : List α, xs.length = n ∧ ∀ i x, xs[i]? = some x → p i x
  | 0, _ => ⟨[], rfl, fun i x h => by simp at h⟩
  | n + 1, h => by
    obtain ⟨xs, hl, hp⟩ := list_lt n (fun i hi => h i (by omega))
    obtain ⟨x, hx⟩ := h n (by omega)
    refine ⟨xs ++ [x], by simp [hl], fun i y hy => ?_⟩
    rcases Nat.lt_or_ge i xs.length with hi | hi
    · rw [List.getElem?_append_left hi] at hy
      exact hp i y hy
    · have hi' : i = n := by
        have := (List.getElem?_eq_some_iff.1 hy).1
        rw [List.length_append, List.length_singleton] at this
        omega
      subst hi'
      rw [← hl] at hy
      rw [List.getElem?_append_right (Nat.le_refl _)] at hy
      simp at hy
      subst hy
      exact hx
def Opn {α : Type} (P : Program) (t : TypeId) (d : Kd α) (wf : α → Prop) : Prop :=
  ∀ (H : Type) (enc : TypeId × Value → H) (w : World) (base : Nat) (held : Bool) (fuel : Nat) (cs : List Value) (x : DataW H × List MemPlace),
    DataW.trod enc P w base (fun _ => true) held fuel t cs = some x → (∀ n ∈ x.1.weights P t, n ≤ reachBytes) → ∃ a : α, d.K w a cs ∧ wf a
theorem Opn.int {P : Program} {t : TypeId} {k : IntKind} (ht : P.underlying t = some (.int k)) : Opn P t (Kd.int k) (fun a => (Lit.int k a).wf = true) := by
  intro H enc w base held fuel cs x h _
  obtain ⟨n, rfl, rfl, hw⟩ := DataW.trod_int ht h
  exact ⟨n, rfl, hw⟩
theorem Opn.bool {P : Program} {t : TypeId} (ht : P.underlying t = some .bool) : Opn P t Kd.bool (fun _ => True) := by
  intro H enc w base held fuel cs x h _
  obtain ⟨b, rfl, rfl⟩ := DataW.trod_bool ht h
  exact ⟨b, rfl, trivial⟩
theorem Opn.slice {α : Type} {P : Program} {t e : TypeId} {d : Kd α} {wf : α → Prop} {B : Nat} (ht : P.underlying t = some (.slice e)) (hc : P.cellsOf e = d.sz) (hB : P.bytesOf e = B) (he : Opn P e d wf) :
    Opn P t (Kd.slice e d) (fun xs => xs.length ≤ maxLen ∧ xs.length * B ≤ 140737488351232 ∧ ∀ x ∈ xs, wf x) := by
  intro H enc w base held fuel cs x h hw
  rcases DataW.trod_slice ht h with ⟨rfl, rfl⟩ | ⟨a, len, cap, elems, rest, n, _, rfl, rfl, hb, hl, hm, hlen, hel, hsp, hns⟩
  · exact ⟨[], ⟨none, 0, rfl, Nat.le_refl _, ⟨rfl, by simp, fun h => absurd h (by simp)⟩⟩, by simp, by simp, by simp⟩
  · simp only [DataW.weights, ht] at hw
    have each : ∀ i, i < len → ∃ p : α, ∃ c, c.length = d.sz ∧ d.K w p c ∧ wf p ∧ ∀ j u, c[j]? = some u → w.cell? (a.add (i * d.sz + j)) = some u := by
      intro i hi
      have h1 := hel i hi
      obtain ⟨y, hy⟩ : ∃ y, elems[i]? = some y := ⟨elems[i]'(by omega), List.getElem?_eq_getElem (by omega)⟩
      rw [hy, Option.bind_eq_some_iff] at h1
      obtain ⟨c, hcs, hy'⟩ := h1
      have hmem : y.1 ∈ elems.map (·.1) := List.mem_map_of_mem (List.mem_of_getElem? hy)
      obtain ⟨p, hp, hwp⟩ := he H enc w base held n c y hy' (fun n hn => hw n (by
        refine List.mem_cons_of_mem _ (List.mem_append_left _ (weightsAll_mem hmem n hn))))
      obtain ⟨_, hcl, hcell⟩ := World.cells?_some hcs
      refine ⟨p, c, by rw [hcl, hc], hp, hwp, fun j u hu => ?_⟩
      have hj : j < P.cellsOf e := by rw [← hcl]; exact (List.getElem?_eq_some_iff.1 hu).1
      have := hcell j hj
      rw [hu, Go.Deep.add_add, hc] at this
      exact this
    obtain ⟨xs, hxl, hxs⟩ := list_lt len each
    have hwt := hw _ List.mem_cons_self
    have hml : maxLen = 9223372036854775807 := by first | rfl | simp [maxLen]
    refine ⟨xs, ⟨some a, cap, by rw [hxl], by omega, ⟨rfl, by rw [hxl]; omega, fun _ => ⟨a, rfl, fun j p hj => ?_⟩⟩⟩, by rw [hxl]; omega, ?_, fun x hx => ?_⟩
    · obtain ⟨c, h1, h2, _, h4⟩ := hxs j p hj
      exact ⟨c, h1, h2, h4⟩
    · rw [hxl, ← hB]
      have h1 : (elems.map (·.1)).length = len := by simp [hlen]
      rw [h1] at hwt
      have h2 : len * P.bytesOf e ≤ (len + (rest.map (·.1)).length) * P.bytesOf e := Nat.mul_le_mul_right _ (by omega)
      have h3 : reachBytes = 140737488351232 := by rfl
      omega
    · obtain ⟨i, hi⟩ := List.getElem?_of_mem hx
      obtain ⟨c, _, _, h3, _⟩ := hxs i x hi
      exact h3
def OpnF {α : Type} (P : Program) (fs : List Field) (off : Nat) (d : Kd α) (wf : α → Prop) : Prop :=
  ∀ (H : Type) (enc : TypeId × Value → H) (w : World) (base : Nat) (held : Bool) (fuel : Nat) (cs : List Value) (xs : List (DataW H × List MemPlace)),
    (∀ (i : Nat) (f : Field), fs[i]? = some f → DataW.trod enc P w base (fun _ => true) held fuel f.type ((cs.drop f.offset).take (P.cellsOf f.type)) = xs[i]?) → xs.length = fs.length →
    (∀ n ∈ DataW.weightsEach P (fs.map (·.type)) (xs.map (·.1)), n ≤ reachBytes) → ∃ a : α, d.K w a ((cs.drop off).take d.sz) ∧ wf a
theorem OpnF.one {α : Type} {P : Program} {f : Field} {d : Kd α} {wf : α → Prop} (hc : P.cellsOf f.type = d.sz) (h : Opn P f.type d wf) : OpnF P [f] f.offset d wf := by
  intro H enc w base held fuel cs xs hx hl hw
  match xs, hl with
  | [y], _ =>
    have h1 := hx 0 f rfl
    rw [hc] at h1
    exact h H enc w base held fuel _ y h1 (fun n hn => hw n (by simp [DataW.weightsEach]; exact hn))
theorem OpnF.cons {α β : Type} {P : Program} {f : Field} {fs : List Field} {d : Kd α} {d' : Kd β} {wf : α → Prop} {wf' : β → Prop} {off : Nat} (hc : P.cellsOf f.type = d.sz) (ho : f.offset + d.sz = off) (h : Opn P f.type d wf) (h' : OpnF P fs off d' wf') :
    OpnF P (f :: fs) f.offset (Kd.pair d d') (fun x => wf x.1 ∧ wf' x.2) := by
  intro H enc w base held fuel cs xs hx hl hw
  match xs, hl with
  | y :: ys, hl =>
    have h1 := hx 0 f rfl
    rw [hc] at h1
    obtain ⟨a, ha, hwa⟩ := h H enc w base held fuel _ y h1 (fun n hn => hw n (by simp only [List.map_cons, DataW.weightsEach, List.mem_append]; exact .inl hn))
    obtain ⟨b, hb, hwb⟩ := h' H enc w base held fuel cs ys (fun i g hg => hx (i + 1) g hg) (by simpa using hl) (fun n hn => hw n (by simp only [List.map_cons, DataW.weightsEach, List.mem_append]; exact .inr hn))
    refine ⟨(a, b), ⟨_, _, ?_, ha, hb⟩, hwa, hwb⟩
    show (cs.drop f.offset).take (d.sz + d'.sz) = _
    rw [List.take_add, List.drop_drop, ho]
theorem Opn.struct {α : Type} {P : Program} {t : TypeId} {fs : Array Field} {d : Kd α} {wf : α → Prop} (ht : P.underlying t = some (.struct fs)) (hc : P.cellsOf t = d.sz) (h : OpnF P fs.toList 0 d wf) : Opn P t d wf := by
  intro H enc w base held fuel cs x hx hw
  obtain ⟨xs, n, _, rfl, hl, hxl, hf⟩ := DataW.trod_struct ht hx
  simp only [DataW.weights, ht] at hw
  obtain ⟨a, ha, hwa⟩ := h H enc w base held n cs xs (fun i f hi => hf i f (by simpa using hi)) (by simpa using hxl) hw
  refine ⟨a, ?_, hwa⟩
  have e : ((cs.drop 0).take d.sz) = cs := by
    rw [List.drop_zero, List.take_of_length_le (by omega)]
  rw [e] at ha
  exact ha
theorem Opn.arg {α : Type} {P : Program} {t : TypeId} {d : Kd α} {wf : α → Prop} (h : Opn P t d wf) {H : Type} {enc : TypeId × Value → H} {W : World} {base : Nat} {held : Bool} {v : Value} {x : DataW H} {p : List MemPlace} {ts : List TypeId} {ds : List (DataW H)} {j : Nat}
    (hsz : (DataW.weightsEach P ts ds).all (· ≤ reachBytes) = true) (ht : ts[j]? = some t) (hd : ds[j]? = some x) (hx : DataW.Trod enc P W base (fun _ => true) held t v x p) : ∃ a : α, d.K W a v.cells.toList ∧ wf a := by
  obtain ⟨fuel, hf⟩ := hx
  refine h H enc W base held fuel _ _ hf (fun n hn => ?_)
  have := List.all_eq_true.1 hsz n (DataW.weights_mem_each ht hd n hn)
  simpa using this
end Go.Proofs.Ytmniekgnpppbhaa.Op
end
section
namespace Go.Proofs.Ytmniekgnpppbhaa.fnExactAddRanks
open Go.ChangeShapes Go.WideShapes Go.ChangeAt Go.RowKit Go.Proofs.YtmniekgnpppbhaaW.PrintWords Go.Proofs.Ytmniekgnpppbhaa.Op Go.Proofs.Ytmniekgnpppbhaa.F
open Go.ChangeMaps (open_string shut_string)
set_option linter.unusedVariables false
theorem own : ownKnob Try.prog.godebug = none := by kernel_rfl
theorem laidOut : laidOutB Try.prog = true := by kernel_rfl
set_option maxRecDepth 100000 in
theorem opn2 : Opn Try.prog 2 (Kd.int .i64) (fun a => (Lit.int .i64 a).wf = true) := Opn.int Try.underlying2
set_option maxRecDepth 100000 in
theorem opn28 : Opn Try.prog 28 (Kd.slice 2 (Kd.int .i64)) (fun xs => xs.length ≤ maxLen ∧ xs.length * 8 ≤ 140737488351232 ∧ ∀ x ∈ xs, (fun a => (Lit.int .i64 a).wf = true) x) := Opn.slice (B := 8) Try.underlying28 (by kernel_rfl) (by kernel_rfl) opn2
set_option maxRecDepth 100000 in
theorem opn30 : Opn Try.prog 30 (Kd.pair (Kd.int .i64) (Kd.pair (Kd.int .i64) (Kd.slice 2 (Kd.int .i64)))) (fun x => (fun a => (Lit.int .i64 a).wf = true) x.1 ∧ (fun x => (fun a => (Lit.int .i64 a).wf = true) x.1 ∧ (fun xs => xs.length ≤ maxLen ∧ xs.length * 8 ≤ 140737488351232 ∧ ∀ x ∈ xs, (fun a => (Lit.int .i64 a).wf = true) x) x.2) x.2) := by
  refine Opn.struct Try.underlying30 (by kernel_rfl) ?_
  refine OpnF.cons (off := 1) (d := (Kd.int .i64)) (d' := (Kd.pair (Kd.int .i64) (Kd.slice 2 (Kd.int .i64)))) (wf := (fun a => (Lit.int .i64 a).wf = true)) (wf' := (fun x => (fun a => (Lit.int .i64 a).wf = true) x.1 ∧ (fun xs => xs.length ≤ maxLen ∧ xs.length * 8 ≤ 140737488351232 ∧ ∀ x ∈ xs, (fun a => (Lit.int .i64 a).wf = true) x) x.2)) ?_ ?_ ?_ ?_
  · kernel_rfl
  · kernel_rfl
  · exact opn2
  refine OpnF.cons (off := 2) (d := (Kd.int .i64)) (d' := (Kd.slice 2 (Kd.int .i64))) (wf := (fun a => (Lit.int .i64 a).wf = true)) (wf' := (fun xs => xs.length ≤ maxLen ∧ xs.length * 8 ≤ 140737488351232 ∧ ∀ x ∈ xs, (fun a => (Lit.int .i64 a).wf = true) x)) ?_ ?_ ?_ ?_
  · kernel_rfl
  · kernel_rfl
  · exact opn2
  refine OpnF.one ?_ ?_
  · kernel_rfl
  · exact opn28
set_option maxRecDepth 100000 in
theorem lifted (os : Os) (started : os.Started) (H : Type) (enc : TypeId × Value → H) :
    ReturnsInHanded {} Try.checked os 8 .any (Rows.fnExactAddRanksSpec.pre6 enc Try.prog Try.f8 Rows.fnExactAddRanksRow.domain false) (Rows.fnExactAddRanksSpec.post enc Try.prog Try.f8 false true false false) := by
  refine returnsInHanded_of_change_sized (C := Try.checked) own started (by kernel_rfl) Try.func8
    (ChangeSpec.witness6 (enc := enc) (C := Try.checked) false ⟨#[], #[.agg #[.int .i64 0, .int .i64 0, .slice none 0 0], .agg #[.int .i64 0, .int .i64 0, .slice none 0 0]], []⟩ 8 (by kernel_rfl) (by kernel_rfl) (by kernel_rfl) (by kernel_rfl)) ?_
  intro W base args ds gs before hval0 hW hcnd hsz0 _
  have hsz : (DataW.weightsEach Try.prog (Try.f8.params.toList ++ Rows.fnExactAddRanksSpec.plain.varTypes Try.prog) (ds ++ gs)).all (· ≤ reachBytes) = true := hsz0
  have hval : ∀ (j : Nat) t v, Try.f8.params[j]? = some t → args[j]? = some v → Value.okWide Try.prog W .any base t v := hval0
  have hW' := hW
  obtain ⟨p, q, hA0, hV, rfl, hfz, hnd⟩ := hW
  have hA : DataW.TrodAll enc Try.prog W 0 (fun _ => true) true Try.f8.params.toList args.toList ds p := hA0
  rw [Try.params8] at hA hval hsz
  obtain ⟨v0, vs0, d0, ds0, p0, q0, hargs, rfl, rfl, h0, r0⟩ := trodAll_cons hA
  obtain ⟨v1, vs1, d1, ds1, p1, q1, rfl, rfl, rfl, h1, r1⟩ := trodAll_cons r0
  obtain ⟨rfl, rfl, rfl⟩ := trodAll_nil r1
  obtain rfl : args = #[v0, v1] := by cases args; simp_all
  obtain ⟨rfl, rfl⟩ := trodVars_none hV
  have k0 := h0
  have lt0 : ∀ x ∈ p0, x.block < W.heap.size := by obtain ⟨m, hm⟩ := k0; exact DataW.trod_lt m _ _ _ hm
  obtain ⟨y0, hK0, hw0⟩ := Opn.arg opn30 hsz (j := 0) (t := 30) rfl rfl h0
  obtain ⟨cs0, rfl, hcs0⟩ := okWide_struct Try.underlying30 (hval 0 30 v0 rfl rfl)
  obtain ⟨y0_0, y0_1, y0_2⟩ := y0
  obtain ⟨_, _, ge0_1, ga0_1, gb0_1⟩ := hK0
  obtain rfl := ga0_1
  obtain ⟨_, _, ge0_2, ga0_2, gb0_2⟩ := gb0_1
  obtain rfl := ga0_2
  obtain ⟨A0_2, cap0_2, rfl, hc0_2, hr0_2⟩ := gb0_2
  obtain rfl : cs0 = #[.int .i64 y0_0, .int .i64 y0_1, .slice A0_2 y0_2.length cap0_2] := by
    have e_ : cs0.toList = [.int .i64 y0_0, .int .i64 y0_1, .slice A0_2 y0_2.length cap0_2] := by
      refine Eq.trans ge0_1 ?_
      simp only [List.cons_append, List.nil_append, ge0_2]
    cases cs0; simp_all
  have k1 := h1
  have lt1 : ∀ x ∈ p1, x.block < W.heap.size := by obtain ⟨m, hm⟩ := k1; exact DataW.trod_lt m _ _ _ hm
  obtain ⟨y1, hK1, hw1⟩ := Opn.arg opn30 hsz (j := 1) (t := 30) rfl rfl h1
  obtain ⟨cs1, rfl, hcs1⟩ := okWide_struct Try.underlying30 (hval 1 30 v1 rfl rfl)
  obtain ⟨y1_0, y1_1, y1_2⟩ := y1
  obtain ⟨_, _, ge1_1, ga1_1, gb1_1⟩ := hK1
  obtain rfl := ga1_1
  obtain ⟨_, _, ge1_2, ga1_2, gb1_2⟩ := gb1_1
  obtain rfl := ga1_2
  obtain ⟨A1_2, cap1_2, rfl, hc1_2, hr1_2⟩ := gb1_2
  obtain rfl : cs1 = #[.int .i64 y1_0, .int .i64 y1_1, .slice A1_2 y1_2.length cap1_2] := by
    have e_ : cs1.toList = [.int .i64 y1_0, .int .i64 y1_1, .slice A1_2 y1_2.length cap1_2] := by
      refine Eq.trans ge1_1 ?_
      simp only [List.cons_append, List.nil_append, ge1_2]
    cases cs1; simp_all
  clear hA0 hval0 hsz0 hsz
  obtain ⟨k, hP⟩ := Go.Proofs.Ytmniekgnpppbhaa.Pure.FnExactAddRanks y0_0 y0_1 y0_2 y1_0 y1_1 y1_2 hw0 hw1
  refine (F.laws_FnExactAddRanks.calls k y0_0 y0_1 A0_2 cap0_2 y0_2 y1_0 y1_1 A1_2 cap1_2 y1_2 true W hr0_2 hc0_2 hr1_2 hc1_2 hP).mono fun e W' hq => ?_
  obtain ⟨he, bel0⟩ := hq
  have bel : Below W.heap.size W W' := bel0
  subst he
  exact ⟨_, rfl, _, _, _, [], _, [], hW', trodAll_mk1 (shut_bool Try.underlying4 _), (trodAll_cons_mk (Below.trod laidOut (by kernel_rfl) (of_decide_eq_true (by kernel_rfl)) k0 bel lt0) (trodAll_cons_mk (Below.trod laidOut (by kernel_rfl) (of_decide_eq_true (by kernel_rfl)) k1 bel lt1) trodAll_mk0)), rfl, bel.frame _, fun h => by cases h⟩
theorem over : Rows.fnExactAddRanksRow.holds Try.pinned (OpenSpec.ofChange Rows.fnExactAddRanksSpec) :=
  OpenClaim.holds_of_wide 8 Try.f8 rfl rfl rfl rfl rfl rfl rfl ⟨rfl, rfl, rfl, rfl, rfl⟩ rfl rfl rfl rfl rfl (by kernel_rfl) Try.func8 (by kernel_rfl)
    (of_decide_eq_true (by kernel_rfl)) (by unfold Func.isWrapper; first | (rw [if_pos (by decide +kernel)]; kernel_rfl) | (rw [if_neg (by decide +kernel)]; exact ⟨rfl, rfl⟩))
    (fun os started H enc _ => lifted os started H enc)
theorem proved : Rows.FnExactAddRanksSaid := over
#print axioms proved
end Go.Proofs.Ytmniekgnpppbhaa.fnExactAddRanks
namespace Go.Proofs.Ytmniekgnpppbhaa
theorem fnExactAddRanks_holds : Rows.FnExactAddRanksSaid := fnExactAddRanks.proved
end Go.Proofs.Ytmniekgnpppbhaa
end
