/- FnExactRankOf, for every input: the call returns true and its arguments read behind it as before; out of its contract on abstract memory. No condition beyond the reading of the arguments. -/
import Derived.Test.YtmkpfllbmdahkaaRows
import Derived.Test.YtmkpfllbmdahkaaPRankOf03
import Derived.WalkKit
import Derived.ProofKit
import Derived.OpenShut
import Derived.ShutString
import Derived.ChangeOld
import Derived.Below
import Derived.SizedLaws
namespace Go.Proofs.Ytmkpfllbmdahkaa.fnExactRankOf
open Go.ChangeShapes Go.WideShapes Go.ChangeAt Go.RowKit Go.Proofs.Ytmkpfllbmdahkaa.Am
set_option linter.unusedVariables false
set_option maxRecDepth 100000
theorem own : ownKnob Try.prog.godebug = none := by kernel_rfl
theorem laidOut : laidOutB Try.prog = true := by kernel_rfl
theorem mixed : Try.prog.follows .mixedOrders = true := by kernel_rfl
theorem opn0 : Opn Try.prog 24 K_Matrix (W_Matrix) := (Opn.struct (wf := W_Matrix) rfl rfl (OpnF.cons (wf := I64) (wf' := fun (x : (Int) × (List (List Int))) => I64 x.1 ∧ W_Int64SS x.2) rfl rfl (OpnI rfl) (OpnF.cons (wf := I64) (wf' := fun (x : (List (List Int))) => W_Int64SS x) rfl rfl (OpnI rfl) (OpnF.one rfl ((OpnSS rfl rfl rfl rfl rfl).weak (wf' := W_Int64SS) fun a h => ⟨h.1, fun y hy => (h.2 y hy).1⟩)))))
theorem lifted (os : Os) (started : os.Started) (H : Type) (enc : TypeId × Value → H) :
    ReturnsInHanded {} Try.checked os 3 .any (Rows.fnExactRankOfSpec.pre6 enc Try.prog Try.f3 Rows.fnExactRankOfRow.domain false) (Rows.fnExactRankOfSpec.post enc Try.prog Try.f3 false true false false) := by
  refine returnsInHanded_of_change_sized (C := Try.checked) own started (by kernel_rfl) Try.func3
    (ChangeSpec.witness6 (enc := enc) (C := Try.checked) false ⟨#[], #[.agg #[.int .i64 0, .int .i64 0, .slice none 0 0]], []⟩ 12 (by kernel_rfl) (by kernel_rfl) (by kernel_rfl) (by kernel_rfl)) ?_
  intro W base args ds gs before hval0 hW hcnd hsz0 _
  have hsz : (DataW.weightsEach Try.prog (Try.f3.params.toList ++ Rows.fnExactRankOfSpec.plain.varTypes Try.prog) (ds ++ gs)).all (· ≤ reachBytes) = true := hsz0
  have hval : ∀ (j : Nat) t v, Try.f3.params[j]? = some t → args[j]? = some v → Value.okWide Try.prog W .any base t v := hval0
  have hW' := hW
  obtain ⟨p, q, hA0, hV, rfl, hfz, hnd⟩ := hW
  have hA : DataW.TrodAll enc Try.prog W 0 (fun _ => true) true Try.f3.params.toList args.toList ds p := hA0
  rw [Try.params3] at hA hval hsz
  obtain ⟨v0, vs0, d0, ds0, p0, q0, hargs, rfl, rfl, h0, r0⟩ := trodAll_cons hA
  obtain ⟨rfl, rfl, rfl⟩ := trodAll_nil r0
  obtain rfl : args = #[v0] := by cases args; simp_all
  obtain ⟨rfl, rfl⟩ := trodVars_none hV
  have k0 := h0
  have lt0 : ∀ x ∈ p0, x.block < W.heap.size := by obtain ⟨m, hm⟩ := k0; exact DataW.trod_lt m _ _ _ hm
  have P0 := Pre.start W
  obtain ⟨cs0, rfl, -⟩ := okWide_struct (fs := _) rfl (hval 0 _ v0 rfl rfl)
  obtain ⟨y0, ρ0, A0, acs0, u0, Q0, w0, R0, wf0⟩ := opn0.argS hsz (j := 0) rfl rfl h0 P0
  have S := lawRankOf  wf0 R0
  refine (Spec.calls mixed Q0 rfl (CR.vrs (c := [_]) (VRs.cons w0 CR.nil)) S).mono fun e W' hq => ?_
  obtain ⟨he, bel⟩ := hq
  subst he
  exact ⟨_, rfl, _, _, _, [], _, [], hW', trodAll_mk1 (shut_bool rfl _), (trodAll_cons_mk (Below.trod laidOut (by kernel_rfl) (of_decide_eq_true (by kernel_rfl)) k0 bel lt0) trodAll_mk0), rfl, bel.frame _, fun h => by cases h⟩
theorem over : Rows.fnExactRankOfRow.holds Try.pinned (OpenSpec.ofChange Rows.fnExactRankOfSpec) :=
  OpenClaim.holds_of_wide 3 Try.f3 rfl rfl rfl rfl rfl rfl rfl ⟨rfl, rfl, rfl, rfl, rfl⟩ rfl rfl rfl rfl rfl (by kernel_rfl) Try.func3 (by kernel_rfl)
    (of_decide_eq_true (by kernel_rfl)) (by unfold Func.isWrapper; first | (rw [if_pos (by decide +kernel)]; kernel_rfl) | (rw [if_neg (by decide +kernel)]; exact ⟨rfl, rfl⟩))
    (fun os started H enc _ => lifted os started H enc)
theorem proved : Rows.FnExactRankOfSaid := over
#print axioms proved
end Go.Proofs.Ytmkpfllbmdahkaa.fnExactRankOf
