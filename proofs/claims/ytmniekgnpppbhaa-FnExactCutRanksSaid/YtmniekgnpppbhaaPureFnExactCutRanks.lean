/- The pure statement of FnExactCutRanks: over numbers and lists alone. Condition: the arguments' numbers are int64s and the list no longer than a reading allows. -/
import Derived.Test.YtmniekgnpppbhaaPlR
import Derived.Test.YtmniekgnpppbhaaPlM
import Derived.Test.YtmniekgnpppbhaaFLawsFnExactCutRanks
namespace Go.Proofs.Ytmniekgnpppbhaa.Pure
open Go.RowKit Go.Proofs.YtmniekgnpppbhaaW.PrintWords Go.Proofs.YtmniekgnpppbhaaW.PrintLast Go.Proofs.YtmniekgnpppbhaaW.PrintMore Go.Proofs.Ytmniekgnpppbhaa.F Go.Proofs.Ytmniekgnpppbhaa.Pl
set_option linter.unusedVariables false
set_option linter.unusedSectionVars false
set_option linter.unusedSimpArgs false
/-- A set of the holders but one, as a set of all. -/
def wid (h c : Nat) : Nat := (c % 2 ^ h) + (c / 2 ^ h) * 2 ^ (h + 1)
def without (h x : Nat) : Bool := (x / 2 ^ h) % 2 == 0
theorem wid_list : ∀ H, H ≤ 5 → ∀ h, h < H → (List.range (2 ^ H)).filter (without h) = (List.range (2 ^ (H - 1))).map (wid h) := by decide +kernel
theorem wid_lt : ∀ H, H ≤ 5 → ∀ h, h < H → ∀ c, c < 2 ^ (H - 1) → wid h c < 2 ^ H := by decide +kernel
theorem widened_small : ∀ h, h < 5 → ∀ c, c < 16 → F.impl_crowd_widened.f ((c : Nat) : Int) ((h : Nat) : Int) = some ((wid h c : Nat) : Int) := by decide +kernel
theorem and_one (n : Nat) (hn : n < 1024) : Go.bits .and .i64 (n : Int) 1 = ((n % 2 : Nat) : Int) := by
  have := and_i64 hn (show 1 < 1024 by omega)
  rw [Nat.and_one_is_mod] at this
  exact this
/-- The list without a holder. -/
def cutL (H h : Nat) (l : List Int) : List Int := (List.range (2 ^ (H - 1))).map fun c => l.getD (wid h c) 0
noncomputable def cut (h u : Int) (l : List Int) (a : Int) : Int × Int × List Int × Int :=
  if okB h u l = true then (if (0 ≤ a ∧ a ≤ h - 1) ∧ h ≠ 1 then (h - 1, u, cutL h.toNat a.toNat l, 0) else (0, 0, [], 2)) else (0, 0, [], 1)
section
variable {h u : Int} {l : List Int} (hc : OkR h u l) {a : Int} (ha : 0 ≤ a ∧ a ≤ h - 1) (h1 : h ≠ 1)
include hc ha h1
theorem spec_cut_loop : Ev (fun k => F.spec_CutRanks.l0 k a 0 h u l (h - 1) u []) (h - 1, u, cutL h.toNat a.toNat l, 0) := by
  obtain ⟨g1, g2⟩ := And.intro hc.h1 hc.h2
  have hL : l.length ≤ 512 := len_le (m := h.toNat) hc.len (by omega)
  have hq := wid_list h.toNat (by omega) a.toNat (by omega)
  have e := ev_down l.length (fun k i => F.spec_CutRanks.l0 k a (i : Int) h u l (h - 1) u (((List.range i).filter (without a.toNat)).map fun x => l.getD x 0)) (h - 1, u, cutL h.toNat a.toNat l, 0) ?_ ?_ l.length 0 (by omega)
  · exact e
  · refine ev_succ (fun k => ?_)
    simp only [F.spec_CutRanks.l0]
    rw [if_neg (by omega), hc.len, hq, List.map_map]
    rfl
  · intro i hi e
    refine Ev.step (fun k => ?_) e
    have hlen : (((List.range i).filter (without a.toNat)).map fun x => l.getD x 0).length < 17592186044416 := by
      rw [List.length_map]
      have := List.length_filter_le (without a.toNat) (List.range i)
      rw [List.length_range] at this
      omega
    have hs : shr .i64 (i : Int) a = ((i / 2 ^ a.toNat : Nat) : Int) := by
      unfold shr
      rw [show min a.toNat IntKind.i64.bits = a.toNat from by show min a.toNat 64 = a.toNat; omega]
      simp
    have hd : i / 2 ^ a.toNat < 1024 := Nat.lt_of_le_of_lt (Nat.div_le_self _ _) (by omega)
    simp only [F.spec_CutRanks.l0]
    rw [if_pos (by omega), wu64 (by omega) (by omega), if_pos (by omega), hs, and_one _ hd, w64 (by omega) (by omega), rd_nat, List.range_succ, List.filter_append]
    by_cases c : without a.toNat i = true
    · have c' : ((i / 2 ^ a.toNat % 2 : Nat) : Int) = 0 := by
        have : i / 2 ^ a.toNat % 2 = 0 := by simpa [without] using c
        rw [this]; rfl
      rw [if_pos c', if_pos (by omega), if_pos hlen]
      simp [c]
    · have c' : ¬ ((i / 2 ^ a.toNat % 2 : Nat) : Int) = 0 := by
        intro h0
        exact c (by have : i / 2 ^ a.toNat % 2 = 0 := by exact_mod_cast h0
                    simp [without, this])
      rw [if_neg c']
      simp [c]
theorem impl_cut_loop : Ev (fun k => F.impl_CutRanks.l0 k a 0 h u l (h - 1) u []) (h - 1, u, cutL h.toNat a.toNat l, 0) := by
  obtain ⟨g1, g2⟩ := And.intro hc.h1 hc.h2
  obtain ⟨m, rfl⟩ : ∃ m : Nat, h = (m : Int) + 1 := ⟨(h - 1).toNat, by omega⟩
  obtain ⟨b, rfl⟩ : ∃ b : Nat, a = (b : Int) := ⟨a.toNat, by omega⟩
  have hE := everybody_eq (m := m) (by omega)
  have hp : (2 : Nat) ^ m ≤ 2 ^ 4 := Nat.pow_le_pow_right (by decide) (by omega)
  have hp0 : 0 < 2 ^ m := Nat.two_pow_pos m
  have hp4 : (2 : Nat) ^ 4 = 16 := by decide
  have ew : wrap64 ((m : Int) + 1 - 1) = (m : Int) := by rw [w64 (by omega) (by omega)]; omega
  have em : ((m : Int) + 1 - 1) = (m : Int) := by omega
  have et : ((m : Int) + 1).toNat = m + 1 := by omega
  have eb : ((b : Int)).toNat = b := by omega
  have hwl := wid_lt (m + 1) (by omega) b (by omega)
  have hws := widened_small b (by omega)
  have hlen := hc.len
  rw [et] at hlen
  rw [em, et, eb]
  have e := ev_down (2 ^ m) (fun k i => F.impl_CutRanks.l0 k (b : Int) (i : Int) ((m : Int) + 1) u l (m : Int) u ((List.range i).map fun c => l.getD (wid b c) 0)) ((m : Int), u, cutL (m + 1) b l, 0) ?_ ?_ (2 ^ m) 0 (by omega)
  · exact e
  · refine ev_succ (fun k => ?_)
    simp only [F.impl_CutRanks.l0, ew, hE, Option.bind_some]
    rw [if_neg (by omega)]
    rfl
  · intro i hi e
    refine Ev.step (fun k => ?_) e
    have hlt : wid b i < l.length := by rw [hlen]; exact hwl i hi
    simp only [F.impl_CutRanks.l0, ew, hE, hws i (by omega), rank_eq _ u l _ hlt, Option.bind_some]
    rw [if_pos (by omega), if_pos (by rw [List.length_map, List.length_range]; omega), wu64 (by omega) (by omega), List.range_succ, List.map_append]
    rfl
end
theorem spec_cut (h u : Int) (l : List Int) (a : Int) (hh : -9223372036854775808 ≤ h ∧ h ≤ 9223372036854775807) (hl : l.length ≤ 1048576) : Ev (fun k => F.spec_CutRanks.f k h u l a) (cut h u l a) := by
  unfold F.spec_CutRanks.f cut
  refine Ev.bind (okB_spec h u l hl hh) ?_
  by_cases c : okB h u l = true
  · have hc := okB_iff.1 c
    have h1 := hc.h1
    have h2 := hc.h2
    simp only [if_pos c, in_eq, Option.bind_some, decide_eq_true_eq]
    rw [w64 (by omega) (by omega)]
    by_cases r : 0 ≤ a ∧ a ≤ h - 1
    · simp only [if_pos r]
      by_cases e : h = 1
      · rw [if_neg (fun hn => hn.2 e)]
        refine ev_succ (fun k => ?_)
        simp only [F.spec_CutRanks.j0]
        rw [if_pos (by simpa using e)]
      · rw [if_pos ⟨r, e⟩]
        refine Ev.step (fun k => ?_) (spec_cut_loop hc r e)
        simp only [F.spec_CutRanks.j0]
        rw [if_neg (by simpa using e), w64 (by omega) (by omega)]
    · simp only [if_neg r]
      rw [if_neg (fun hn => r hn.1)]
      refine ev_succ (fun k => ?_)
      simp only [F.spec_CutRanks.j0, if_true]
  · simp only [if_neg c]
    exact Ev.now _
theorem impl_cut (h u : Int) (l : List Int) (a : Int) (hh : -9223372036854775808 ≤ h ∧ h ≤ 9223372036854775807) (hl : l.length ≤ 1048576) : Ev (fun k => F.impl_CutRanks.f k h u l a) (cut h u l a) := by
  unfold F.impl_CutRanks.f cut
  refine Ev.bind (okB_impl h u l hl hh) ?_
  by_cases c : okB h u l = true
  · have hc := okB_iff.1 c
    have h1 := hc.h1
    have h2 := hc.h2
    simp only [if_pos c, within_eq, Option.bind_some, decide_eq_true_eq]
    rw [w64 (by omega) (by omega)]
    by_cases r : 0 ≤ a ∧ a ≤ h - 1
    · simp only [if_pos r]
      by_cases e : h = 1
      · rw [if_neg (fun hn => hn.2 e)]
        refine ev_succ (fun k => ?_)
        simp only [F.impl_CutRanks.j0]
        rw [if_pos (by simpa using e)]
      · rw [if_pos ⟨r, e⟩]
        refine Ev.step (fun k => ?_) (impl_cut_loop hc r e)
        simp only [F.impl_CutRanks.j0]
        rw [if_neg (by simpa using e), w64 (by omega) (by omega)]
    · simp only [if_neg r]
      rw [if_neg (fun hn => r hn.1)]
      refine ev_succ (fun k => ?_)
      simp only [F.impl_CutRanks.j0, if_true]
  · simp only [if_neg c]
    exact Ev.now _
theorem cut_len (h u : Int) (l : List Int) (a : Int) : (cut h u l a).2.2.1.length ≤ 16 := by
  unfold cut
  split
  · rename_i c
    have hc := okB_iff.1 c
    have h1 := hc.h1
    have h2 := hc.h2
    split
    · unfold cutL
      rw [List.length_map, List.length_range]
      have hp : (2 : Nat) ^ (h.toNat - 1) ≤ 2 ^ 4 := Nat.pow_le_pow_right (by decide) (by omega)
      have hp4 : (2 : Nat) ^ 4 = 16 := by decide
      omega
    · simp
  · simp
theorem FnExactCutRanks (y0_0 : Int) (y0_1 : Int) (y0_2 : List Int) (a1 : Int) (hw0 : (fun x => (fun a => (Lit.int .i64 a).wf = true) x.1 ∧ (fun x => (fun a => (Lit.int .i64 a).wf = true) x.1 ∧ (fun xs => xs.length ≤ maxLen ∧ xs.length * 8 ≤ 140737488351232 ∧ ∀ x ∈ xs, (fun a => (Lit.int .i64 a).wf = true) x) x.2) x.2) (y0_0, y0_1, y0_2)) (w1 : (Lit.int .i64 a1).wf = true) : ∃ k, F.laws_FnExactCutRanks.f k y0_0 y0_1 y0_2 a1 = some true := by
  obtain ⟨h1, h2, h3, h4, h5⟩ := hw0
  have g1 : -9223372036854775808 ≤ y0_0 ∧ y0_0 ≤ 9223372036854775807 := wf_i64 h1
  have hL : y0_2.length * 8 ≤ 140737488351232 := h4
  refine Ev.rounds ?_
  unfold F.laws_FnExactCutRanks.f
  rw [szRanks_eq _ _ _ (by omega)]
  simp only [Option.bind_some]
  by_cases c : (y0_2.length : Int) ≤ 1048576
  · simp only [if_pos c, if_neg (show ¬ (1048576 - (y0_2.length : Int) < 0) by omega)]
    have hT := toRanks_ev y0_0 y0_1 y0_2 (by omega)
    have hE := eqRanks_ev y0_0 y0_1 y0_2 (by omega)
    have hS := spec_cut y0_0 y0_1 y0_2 a1 g1 (by omega)
    have hI := impl_cut y0_0 y0_1 y0_2 a1 g1 (by omega)
    have hn := cut_len y0_0 y0_1 y0_2 a1
    generalize cut y0_0 y0_1 y0_2 a1 = v at *
    obtain ⟨h', u', l', code⟩ := v
    have hn' : l'.length ≤ 16 := hn
    have hE' := eqRanks_ev h' u' l' (by omega)
    have hM := markRanks_ev y0_0 y0_1 y0_2 1 (by omega) (by omega)
    have hM' := markRanks_ev h' u' l' 1 (by omega) (by omega)
    have hH := heldRanks_ev h' u' l'.length 1 (by omega) (by omega)
    refine Ev.bind hT (Ev.bind hS (Ev.bind hT (Ev.bind hI (Ev.bind hE' ?_))))
    simp only [if_true, bne_self_eq_false]
    refine Ev.step (fun k => by simp only [F.laws_FnExactCutRanks.j0, Bool.false_eq_true, if_false]; rfl) ?_
    refine Ev.bind hT (Ev.bind hE ?_)
    simp only [if_true]
    refine Ev.bind hM ?_
    simp only [if_neg (show ¬ (1 + (y0_2.length : Int) < 0) by omega)]
    refine Ev.bind hE' ?_
    simp only [if_true, bne_self_eq_false]
    refine Ev.step (fun k => by simp only [F.laws_FnExactCutRanks.j1, Bool.false_eq_true, if_false]; rfl) ?_
    refine Ev.bind hM' (Ev.bind hH ?_)
    simp only [if_true, if_neg (show ¬ (1 + (l'.length : Int) < 0) by omega)]
    refine Ev.bind hT (Ev.bind hI (Ev.bind hE' ?_))
    simp only [if_true, bne_self_eq_false]
    refine Ev.step (fun k => by simp only [F.laws_FnExactCutRanks.j2, Bool.false_eq_true, if_false]; rfl) ?_
    refine Ev.bind hH ?_
    simp only [if_true, if_neg (show ¬ (1 + (l'.length : Int) < 0) by omega)]
    exact Ev.now _
  · simp only [if_neg c]
    exact Ev.now _
end Go.Proofs.Ytmniekgnpppbhaa.Pure
