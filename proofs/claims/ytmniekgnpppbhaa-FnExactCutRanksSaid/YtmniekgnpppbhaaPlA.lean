/- Plain lemmas: rounds, whole numbers that fit, bits of small numbers, lists. No program. No condition. -/
import Derived.Test.YtmniekgnpppbhaaWMore
import Derived.Test.YtmniekgnpppbhaaWNEv
import Derived.Laws.BitsLemmas
import Derived.IntWalk
namespace Go.Proofs.Ytmniekgnpppbhaa.Pl
open Go.RowKit Go.Proofs.YtmniekgnpppbhaaW.PrintWords Go.Proofs.YtmniekgnpppbhaaW.PrintLast Go.Proofs.YtmniekgnpppbhaaW.PrintMore

theorem w64 {n : Int} (h0 : -9223372036854775808 ≤ n) (h1 : n ≤ 9223372036854775807) : wrap64 n = n := IntWalk.wrap64_in n ⟨h0, h1⟩
theorem wu64 {n : Int} (h0 : 0 ≤ n) (h1 : n < 18446744073709551616) : IntKind.u64.wrap n = n := by
  simp [IntKind.wrap, IntKind.bits, IntKind.signed]; omega
theorem ki64 {n : Int} (h0 : -9223372036854775808 ≤ n) (h1 : n ≤ 9223372036854775807) : IntKind.i64.wrap n = n := by
  rw [IntKind.wrap_i64]; omega

/-- Small numbers' bits. -/
theorem and_i64 {a b : Nat} (ha : a < 1024) (hb : b < 1024) : Go.bits .and .i64 (a : Int) (b : Int) = ((a &&& b : Nat) : Int) :=
  (bits_nat .i64 10 (by decide) (fun n h0 h1 => ki64 (by omega) (by have : (2 : Int) ^ 10 = 1024 := rfl; omega)) a b ha hb).1
theorem or_i64 {a b : Nat} (ha : a < 1024) (hb : b < 1024) : Go.bits .or .i64 (a : Int) (b : Int) = ((a ||| b : Nat) : Int) :=
  (bits_nat .i64 10 (by decide) (fun n h0 h1 => ki64 (by omega) (by have : (2 : Int) ^ 10 = 1024 := rfl; omega)) a b ha hb).2
theorem and_u64 {a b : Nat} (ha : a < 1024) (hb : b < 1024) : Go.bits .and .u64 (a : Int) (b : Int) = ((a &&& b : Nat) : Int) :=
  (bits_nat .u64 10 (by decide) (fun n h0 h1 => wu64 h0 (by have : (2 : Int) ^ 10 = 1024 := rfl; omega)) a b ha hb).1
theorem or_u64 {a b : Nat} (ha : a < 1024) (hb : b < 1024) : Go.bits .or .u64 (a : Int) (b : Int) = ((a ||| b : Nat) : Int) :=
  (bits_nat .u64 10 (by decide) (fun n h0 h1 => wu64 h0 (by have : (2 : Int) ^ 10 = 1024 := rfl; omega)) a b ha hb).2
theorem pow_small {h : Nat} (hh : h ≤ 20) : ∃ m : Nat, 2 ^ h = m ∧ m ≤ 1048576 ∧ (2 : Int) ^ h = (m : Int) :=
  ⟨2 ^ h, rfl, by
    have h1 : (2 : Nat) ^ h ≤ 2 ^ 20 := Nat.pow_le_pow_right (by decide) hh
    have h2 : (2 : Nat) ^ 20 = 1048576 := by decide
    omega, (Int.natCast_pow 2 h).symm⟩
theorem shl_i64 {h : Nat} (hh : h ≤ 20) : shl .i64 1 (h : Int) = ((2 ^ h : Nat) : Int) := by
  unfold shl
  have e : min (h : Int).toNat IntKind.i64.bits = h := by
    show min (h : Int).toNat 64 = h
    omega
  obtain ⟨m, h1, h2, h3⟩ := pow_small hh
  rw [e, Int.one_mul, h3, h1]
  exact ki64 (by omega) (by omega)
theorem shl_u64 {h : Nat} (hh : h ≤ 20) : shl .u64 1 (h : Int) = ((2 ^ h : Nat) : Int) := by
  unfold shl
  have e : min (h : Int).toNat IntKind.u64.bits = h := by
    show min (h : Int).toNat 64 = h
    omega
  obtain ⟨m, h1, h2, h3⟩ := pow_small hh
  rw [e, Int.one_mul, h3, h1]
  exact wu64 (by omega) (by omega)

/-! ### Rounds -/
theorem ev_of {α : Type} {g f : Nat → Option α} {r : α} (h : ∀ k, g k = f k) (k : Ev f r) : Ev g r := Ev.congr h k
theorem ev_some {α : Type} {g : Nat → Option α} {r : α} (h : ∀ k, g k = some r) : Ev g r := ⟨0, fun k _ => h k⟩
theorem ev_succ {α : Type} {g : Nat → Option α} {r : α} (h : ∀ k, g (k + 1) = some r) : Ev g r := Ev.step h (Ev.now r)
theorem ev_bind {α β : Type} {g : Nat → Option α} {f : Nat → α → Option β} {a : α} {r : β} (h : Ev g a) (k : Ev (fun n => f n a) r) : Ev (fun n => (g n).bind (f n)) r := Ev.bind h k
theorem ev_down {α : Type} (n : Nat) (F : Nat → Nat → Option α) (r : α) (he : Ev (fun k => F k n) r) (hs : ∀ i, i < n → Ev (fun k => F k (i + 1)) r → Ev (fun k => F k i) r) : ∀ d i, i + d = n → Ev (fun k => F k i) r
  | 0, i, h => by
    have : i = n := by omega
    subst this
    exact he
  | d + 1, i, h => hs i (by omega) (ev_down n F r he hs d (i + 1) (by omega))
/-- A loop that ends early where P fails: it does not fail. -/
theorem ev_yes {α : Type} (n : Nat) (F : Nat → Nat → Option α) (P : Nat → Prop) (c : α) (he : Ev (fun k => F k n) c) (hs : ∀ i, i < n → P i → ∀ r, Ev (fun k => F k (i + 1)) r → Ev (fun k => F k i) r) (hP : ∀ i, i < n → P i) : Ev (fun k => F k 0) c :=
  ev_down n F c he (fun i hi h => hs i hi (hP i hi) c h) n 0 (by omega)
/-- .. it fails somewhere. -/
theorem ev_no {α : Type} (n : Nat) (F : Nat → Nat → Option α) (P : Nat → Prop) (no : α) (hs : ∀ i, i < n → P i → ∀ r, Ev (fun k => F k (i + 1)) r → Ev (fun k => F k i) r) (hn : ∀ i, i < n → ¬ P i → Ev (fun k => F k i) no) (hP : ∃ i, i < n ∧ ¬ P i) : Ev (fun k => F k 0) no := by
  classical
  have key : ∀ d i, i + d = n → (∃ j, i ≤ j ∧ j < n ∧ ¬ P j) → Ev (fun k => F k i) no := by
    intro d
    induction d with
    | zero => rintro i h ⟨j, h1, h2, _⟩; omega
    | succ d ih =>
      rintro i h ⟨j, h1, h2, h3⟩
      by_cases hi : P i
      · refine hs i (by omega) hi no (ih (i + 1) (by omega) ⟨j, ?_, h2, h3⟩)
        rcases Nat.eq_or_lt_of_le h1 with rfl | h4
        · exact absurd hi h3
        · exact h4
      · exact hn i (by omega) hi
  obtain ⟨i, h1, h2⟩ := hP
  exact key n 0 (by omega) ⟨i, Nat.zero_le _, h1, h2⟩

/-! ### Lists -/
theorem rd_nat (l : List Int) (i : Nat) : rd l (i : Int) = l.getD i 0 := by simp [rd]
theorem take_replicate_set (l : List Int) (i : Nat) (h : i < l.length) : (l.take i ++ List.replicate (l.length - i) (0 : Int)).set i (l.getD i 0) = l.take (i + 1) ++ List.replicate (l.length - (i + 1)) 0 := by
  apply List.ext_getElem
  · simp; omega
  · intro j h1 h2
    simp only [List.length_set, List.length_append, List.length_take, List.length_replicate] at h1
    rw [List.getElem_set]
    by_cases e : i = j
    · subst e
      rw [if_pos rfl, List.getElem_append_left (by simp; omega)]
      simp [List.getD_eq_getElem?_getD, List.getElem?_eq_getElem h]
    · rw [if_neg e]
      by_cases hj : j < i
      · rw [List.getElem_append_left (by simp; omega), List.getElem_append_left (by simp; omega)]
        simp
      · rw [List.getElem_append_right (by simp; omega), List.getElem_append_right (by simp; omega)]
        simp
end Go.Proofs.Ytmniekgnpppbhaa.Pl
