/- FnExactRankAt, for every input: the call returns true and its arguments read behind it as before; out of its pure statement (PureFnExactRankAt) and the contracts of what it calls. No condition beyond the reading of the arguments. -/
import Derived.Test.YtmniekgnpppbhaaRows
import Derived.Test.YtmniekgnpppbhaaFLawsFnExactRankAt
import Derived.Test.YtmniekgnpppbhaaPureFnExactRankAt
import Derived.Test.YtmniekgnpppbhaaOpen
import Derived.WalkKit
import Derived.ProofKit
import Derived.OpenShut
import Derived.ShutString
import Derived.ChangeOld
import Derived.Below
import Derived.SizedLaws
namespace Go.Proofs.Ytmniekgnpppbhaa.fnExactRankAt
open Go.ChangeShapes Go.WideShapes Go.ChangeAt Go.RowKit Go.Proofs.YtmniekgnpppbhaaW.PrintWords Go.Proofs.Ytmniekgnpppbhaa.Op Go.Proofs.Ytmniekgnpppbhaa.F
open Go.ChangeMaps (open_string shut_string)
set_option linter.unusedVariables false
theorem own : ownKnob Try.prog.godebug = none := by kernel_rfl
theorem laidOut : laidOutB Try.prog = true := by kernel_rfl
set_option maxRecDepth 100000 in
theorem opn2 : Opn Try.prog 2 (Kd.int .i64) (fun a => (Lit.int .i64 a).wf = true) := Opn.int Try.underlying2
set_option maxRecDepth 100000 in
theorem opn28 : Opn Try.prog 28 (Kd.slice 2 (Kd.int .i64)) (fun xs => xs.length ≤ maxLen ∧ xs.length * 8 ≤ 140737488351232 ∧ ∀ x ∈ xs, (fun a => (Lit.int .i64 a).wf = true) x) := Opn.slice (B := 8) Try.underlying28 (by kernel_rfl) (by kernel_rfl) opn2
set_option maxRecDepth 100000 in
theorem opn30 : Opn Try.prog 30 (Kd.pair (Kd.int .i64) (Kd.pair (Kd.int .i64) (Kd.slice 2 (Kd.int .i64)))) (fun x => (fun a => (Lit.int .i64 a).wf = true) x.1 ∧ (fun x => (fun a => (Lit.int .i64 a).wf = true) x.1 ∧ (fun xs => xs.length ≤ maxLen ∧ xs.length * 8 ≤ 140737488351232 ∧ ∀ x ∈ xs, (fun a => (Lit.int .i64 a).wf = true) x) x.2) x.2) := by
  refine Opn.struct Try.underlying30 (by kernel_rfl) ?_
  refine OpnF.cons (off := 1) (d := (Kd.int .i64)) (d' := (Kd.pair (Kd.int .i64) (Kd.slice 2 (Kd.int .i64)))) (wf := (fun a => (Lit.int .i64 a).wf = true)) (wf' := (fun x => (fun a => (Lit.int .i64 a).wf = true) x.1 ∧ (fun xs => xs.length ≤ maxLen ∧ xs.length * 8 ≤ 140737488351232 ∧ ∀ x ∈ xs, (fun a => (Lit.int .i64 a).wf = true) x) x.2)) ?_ ?_ ?_ ?_
  · kernel_rfl
  · kernel_rfl
  · exact opn2
  refine OpnF.cons (off := 2) (d := (Kd.int .i64)) (d' := (Kd.slice 2 (Kd.int .i64))) (wf := (fun a => (Lit.int .i64 a).wf = true)) (wf' := (fun xs => xs.length ≤ maxLen ∧ xs.length * 8 ≤ 140737488351232 ∧ ∀ x ∈ xs, (fun a => (Lit.int .i64 a).wf = true) x)) ?_ ?_ ?_ ?_
  · kernel_rfl
  · kernel_rfl
  · exact opn2
  refine OpnF.one ?_ ?_
  · kernel_rfl
  · exact opn28
set_option maxRecDepth 100000 in
theorem lifted (os : Os) (started : os.Started) (H : Type) (enc : TypeId × Value → H) :
    ReturnsInHanded {} Try.checked os 6 .any (Rows.fnExactRankAtSpec.pre6 enc Try.prog Try.f6 Rows.fnExactRankAtRow.domain false) (Rows.fnExactRankAtSpec.post enc Try.prog Try.f6 false true false false) := by
  refine returnsInHanded_of_change_sized (C := Try.checked) own started (by kernel_rfl) Try.func6
    (ChangeSpec.witness6 (enc := enc) (C := Try.checked) false ⟨#[], #[.agg #[.int .i64 0, .int .i64 0, .slice none 0 0], .slice none 0 0], []⟩ 8 (by kernel_rfl) (by kernel_rfl) (by kernel_rfl) (by kernel_rfl)) ?_
  intro W base args ds gs before hval0 hW hcnd hsz0 _
  have hsz : (DataW.weightsEach Try.prog (Try.f6.params.toList ++ Rows.fnExactRankAtSpec.plain.varTypes Try.prog) (ds ++ gs)).all (· ≤ reachBytes) = true := hsz0
  have hval : ∀ (j : Nat) t v, Try.f6.params[j]? = some t → args[j]? = some v → Value.okWide Try.prog W .any base t v := hval0
  have hW' := hW
  obtain ⟨p, q, hA0, hV, rfl, hfz, hnd⟩ := hW
  have hA : DataW.TrodAll enc Try.prog W 0 (fun _ => true) true Try.f6.params.toList args.toList ds p := hA0
  rw [Try.params6] at hA hval hsz
  obtain ⟨v0, vs0, d0, ds0, p0, q0, hargs, rfl, rfl, h0, r0⟩ := trodAll_cons hA
  obtain ⟨v1, vs1, d1, ds1, p1, q1, rfl, rfl, rfl, h1, r1⟩ := trodAll_cons r0
  obtain ⟨rfl, rfl, rfl⟩ := trodAll_nil r1
  obtain rfl : args = #[v0, v1] := by cases args; simp_all
  obtain ⟨rfl, rfl⟩ := trodVars_none hV
  have k0 := h0
  have lt0 : ∀ x ∈ p0, x.block < W.heap.size := by obtain ⟨m, hm⟩ := k0; exact DataW.trod_lt m _ _ _ hm
  obtain ⟨y0, hK0, hw0⟩ := Opn.arg opn30 hsz (j := 0) (t := 30) rfl rfl h0
  obtain ⟨cs0, rfl, hcs0⟩ := okWide_struct Try.underlying30 (hval 0 30 v0 rfl rfl)
  obtain ⟨y0_0, y0_1, y0_2⟩ := y0
  obtain ⟨_, _, ge0_1, ga0_1, gb0_1⟩ := hK0
  obtain rfl := ga0_1
  obtain ⟨_, _, ge0_2, ga0_2, gb0_2⟩ := gb0_1
  obtain rfl := ga0_2
  obtain ⟨A0_2, cap0_2, rfl, hc0_2, hr0_2⟩ := gb0_2
  obtain rfl : cs0 = #[.int .i64 y0_0, .int .i64 y0_1, .slice A0_2 y0_2.length cap0_2] := by
    have e_ : cs0.toList = [.int .i64 y0_0, .int .i64 y0_1, .slice A0_2 y0_2.length cap0_2] := by
      refine Eq.trans ge0_1 ?_
      simp only [List.cons_append, List.nil_append, ge0_2]
    cases cs0; simp_all
  have k1 := h1
  have lt1 : ∀ x ∈ p1, x.block < W.heap.size := by obtain ⟨m, hm⟩ := k1; exact DataW.trod_lt m _ _ _ hm
  obtain ⟨y1, hK1, hw1⟩ := Opn.arg opn28 hsz (j := 1) (t := 28) rfl rfl h1
  obtain ⟨A1, len1, cap1, rfl⟩ := okWide_slice Try.underlying28 (hval 1 28 v1 rfl rfl)
  obtain ⟨B1, c1, e1, hc1, hr1⟩ := hK1
  simp only [Value.cells, List.cons.injEq, Value.slice.injEq, and_true] at e1
  obtain ⟨rfl, rfl, rfl⟩ := e1
  clear hA0 hval0 hsz0 hsz
  obtain ⟨k, hP⟩ := Go.Proofs.Ytmniekgnpppbhaa.Pure.FnExactRankAt y0_0 y0_1 y0_2 y1 hw0 hw1
  refine (F.laws_FnExactRankAt.calls k y0_0 y0_1 A0_2 cap0_2 y0_2 A1 cap1 y1 true W hr0_2 hc0_2 hr1 hc1 hP).mono fun e W' hq => ?_
  obtain ⟨he, bel0⟩ := hq
  have bel : Below W.heap.size W W' := bel0
  subst he
  exact ⟨_, rfl, _, _, _, [], _, [], hW', trodAll_mk1 (shut_bool Try.underlying4 _), (trodAll_cons_mk (Below.trod laidOut (by kernel_rfl) (of_decide_eq_true (by kernel_rfl)) k0 bel lt0) (trodAll_cons_mk (Below.trod laidOut (by kernel_rfl) (of_decide_eq_true (by kernel_rfl)) k1 bel lt1) trodAll_mk0)), rfl, bel.frame _, fun h => by cases h⟩
theorem over : Rows.fnExactRankAtRow.holds Try.pinned (OpenSpec.ofChange Rows.fnExactRankAtSpec) :=
  OpenClaim.holds_of_wide 6 Try.f6 rfl rfl rfl rfl rfl rfl rfl ⟨rfl, rfl, rfl, rfl, rfl⟩ rfl rfl rfl rfl rfl (by kernel_rfl) Try.func6 (by kernel_rfl)
    (of_decide_eq_true (by kernel_rfl)) (by unfold Func.isWrapper; first | (rw [if_pos (by decide +kernel)]; kernel_rfl) | (rw [if_neg (by decide +kernel)]; exact ⟨rfl, rfl⟩))
    (fun os started H enc _ => lifted os started H enc)
theorem proved : Rows.FnExactRankAtSaid := over
#print axioms proved
end Go.Proofs.Ytmniekgnpppbhaa.fnExactRankAt
namespace Go.Proofs.Ytmniekgnpppbhaa
/-- The row, under a short name, for the claim. -/
theorem fnExactRankAt_holds : Rows.FnExactRankAtSaid := fnExactRankAt.proved
end Go.Proofs.Ytmniekgnpppbhaa
