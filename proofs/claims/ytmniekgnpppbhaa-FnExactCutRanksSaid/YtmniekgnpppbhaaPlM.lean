/- Marks that a law lays into a list and finds again; the ranks' own copies of that; greatest common divisors. Plain; no condition beyond each lemma's own. -/
import Derived.Test.YtmniekgnpppbhaaPlA
import Derived.Test.YtmniekgnpppbhaaFLawsMarkRanks
import Derived.Test.YtmniekgnpppbhaaFLawsHeldRanks
namespace Go.Proofs.Ytmniekgnpppbhaa.Pl
open Go.RowKit Go.Proofs.YtmniekgnpppbhaaW.PrintWords Go.Proofs.YtmniekgnpppbhaaW.PrintLast Go.Proofs.YtmniekgnpppbhaaW.PrintMore
set_option linter.unusedVariables false
/-- a, a + 1, .. -/
def marks (a : Int) : Nat → List Int
  | 0 => []
  | n + 1 => a :: marks (a + 1) n
theorem marks_length (a : Int) (n : Nat) : (marks a n).length = n := by
  induction n generalizing a with
  | zero => rfl
  | succ n ih => simp [marks, ih]
theorem marks_get (a : Int) (n i : Nat) (h : i < n) : (marks a n).getD i 0 = a + i := by
  induction n generalizing a i with
  | zero => omega
  | succ n ih =>
    cases i with
    | zero => simp [marks]
    | succ i =>
      rw [marks, List.getD_cons_succ, ih _ _ (by omega)]
      omega
theorem marks_snoc (a : Int) (n : Nat) : marks a (n + 1) = marks a n ++ [a + n] := by
  induction n generalizing a with
  | zero => simp [marks]
  | succ n ih =>
    rw [marks, ih (a + 1), marks, List.cons_append]
    congr 3
    omega
theorem set_mark (l : List Int) (a : Int) (i : Nat) (h : i < l.length) : (marks a i ++ l.drop i).set i (a + i) = marks a (i + 1) ++ l.drop (i + 1) := by
  rw [marks_snoc, List.set_append_right _ _ (by rw [marks_length]; exact Nat.le_refl _), marks_length, Nat.sub_self, List.drop_eq_getElem_cons h, List.set_cons_zero, List.append_assoc]
  rfl
theorem mark_ev (l : List Int) (a : Int) (ha : 0 ≤ a) (hl : a + l.length ≤ 9223372036854775806) : Ev (fun k => F.laws_markInt64S.f k l a) (a + l.length, marks a l.length) := by
  unfold F.laws_markInt64S.f
  have h := ev_down l.length (fun k i => F.laws_markInt64S.l0 k (marks a i ++ l.drop i) (a + i) (i : Int)) (a + l.length, marks a l.length) ?_ ?_ l.length 0 (by omega)
  · simpa [marks] using h
  · refine ev_succ (fun k => ?_)
    simp only [F.laws_markInt64S.l0]
    rw [if_neg (by simp [marks_length])]
    simp
  · intro i hi h
    refine Ev.step (fun k => ?_) h
    simp only [F.laws_markInt64S.l0]
    rw [if_pos (by simp [marks_length]; omega), if_pos (by omega), show ((i : Int)).toNat = i from by omega, set_mark l a i hi, w64 (by omega) (by omega), w64 (by omega) (by omega)]
    congr 1
    omega
theorem held_ev (n : Nat) (a : Int) (ha : 0 ≤ a) (hl : a + n ≤ 9223372036854775806) : Ev (fun k => F.laws_heldInt64S.f k (marks a n) a) (a + n) := by
  unfold F.laws_heldInt64S.f
  have h := ev_down n (fun k i => F.laws_heldInt64S.l0 k (marks a n) (a + i) (i : Int)) (a + n) ?_ ?_ n 0 (by omega)
  · simpa using h
  · refine ev_succ (fun k => ?_)
    simp only [F.laws_heldInt64S.l0]
    rw [if_neg (by simp [marks_length])]
  · intro i hi h
    refine Ev.step (fun k => ?_) h
    simp only [F.laws_heldInt64S.l0]
    rw [if_pos (by simp [marks_length]; omega), if_pos (by omega), rd_nat, marks_get a n i hi, if_pos rfl, w64 (by omega) (by omega), w64 (by omega) (by omega)]
    congr 1
    omega
theorem markRanks_ev (h u : Int) (l : List Int) (a : Int) (ha : 0 ≤ a) (hl : a + l.length ≤ 9223372036854775806) : Ev (fun k => F.laws_markRanks.f k h u l a) (a + l.length, marks a l.length) := by
  unfold F.laws_markRanks.f
  exact Ev.bind (mark_ev l a ha hl) (Ev.now _)
theorem heldRanks_ev (h u : Int) (n : Nat) (a : Int) (ha : 0 ≤ a) (hl : a + n ≤ 9223372036854775806) : Ev (fun k => F.laws_heldRanks.f k h u (marks a n) a) (a + n) := by
  unfold F.laws_heldRanks.f
  refine Ev.bind (held_ev n a ha hl) ?_
  simp only [if_neg (show ¬ (a + (n : Int) < 0) by omega)]
  exact Ev.now _
end Go.Proofs.Ytmniekgnpppbhaa.Pl
