/- FnExactBestSequence, for every input: the call returns true and its arguments read behind it as before; out of its contract on abstract memory. No condition beyond the reading of the arguments. -/
import Derived.Test.YtmkpfllbmdahkaaRows
import Derived.Test.YtmkpfllbmdahkaaPBestSequence03
import Derived.WalkKit
import Derived.ProofKit
import Derived.OpenShut
import Derived.ShutString
import Derived.ChangeOld
import Derived.Below
import Derived.SizedLaws
namespace Go.Proofs.Ytmkpfllbmdahkaa.fnExactBestSequence
open Go.ChangeShapes Go.WideShapes Go.ChangeAt Go.RowKit Go.Proofs.Ytmkpfllbmdahkaa.Am
set_option linter.unusedVariables false
set_option maxRecDepth 100000
theorem own : ownKnob Try.prog.godebug = none := by kernel_rfl
theorem laidOut : laidOutB Try.prog = true := by kernel_rfl
theorem mixed : Try.prog.follows .mixedOrders = true := by kernel_rfl
theorem opn0 : Opn Try.prog 87 K_Family (W_Family) := (Opn.struct (wf := W_Family) rfl rfl (OpnF.cons (wf := I64) (wf' := fun (x : (List (List Int))) => W_Int64SS x) rfl rfl (OpnI rfl) (OpnF.one rfl ((OpnSS rfl rfl rfl rfl rfl).weak (wf' := W_Int64SS) fun a h => ⟨h.1, fun y hy => (h.2 y hy).1⟩))))
theorem lifted (os : Os) (started : os.Started) (H : Type) (enc : TypeId × Value → H) :
    ReturnsInHanded {} Try.checked os 11 .any (Rows.fnExactBestSequenceSpec.pre6 enc Try.prog Try.f11 Rows.fnExactBestSequenceRow.domain false) (Rows.fnExactBestSequenceSpec.post enc Try.prog Try.f11 false true false false) := by
  refine returnsInHanded_of_change_sized (C := Try.checked) own started (by kernel_rfl) Try.func11
    (ChangeSpec.witness6 (enc := enc) (C := Try.checked) false ⟨#[], #[.agg #[.int .i64 0, .slice none 0 0]], []⟩ 12 (by kernel_rfl) (by kernel_rfl) (by kernel_rfl) (by kernel_rfl)) ?_
  intro W base args ds gs before hval0 hW hcnd hsz0 _
  have hsz : (DataW.weightsEach Try.prog (Try.f11.params.toList ++ Rows.fnExactBestSequenceSpec.plain.varTypes Try.prog) (ds ++ gs)).all (· ≤ reachBytes) = true := hsz0
  have hval : ∀ (j : Nat) t v, Try.f11.params[j]? = some t → args[j]? = some v → Value.okWide Try.prog W .any base t v := hval0
  have hW' := hW
  obtain ⟨p, q, hA0, hV, rfl, hfz, hnd⟩ := hW
  have hA : DataW.TrodAll enc Try.prog W 0 (fun _ => true) true Try.f11.params.toList args.toList ds p := hA0
  rw [Try.params11] at hA hval hsz
  obtain ⟨v0, vs0, d0, ds0, p0, q0, hargs, rfl, rfl, h0, r0⟩ := trodAll_cons hA
  obtain ⟨rfl, rfl, rfl⟩ := trodAll_nil r0
  obtain rfl : args = #[v0] := by cases args; simp_all
  obtain ⟨rfl, rfl⟩ := trodVars_none hV
  have k0 := h0
  have lt0 : ∀ x ∈ p0, x.block < W.heap.size := by obtain ⟨m, hm⟩ := k0; exact DataW.trod_lt m _ _ _ hm
  have P0 := Pre.start W
  obtain ⟨cs0, rfl, -⟩ := okWide_struct (fs := _) rfl (hval 0 _ v0 rfl rfl)
  obtain ⟨y0, ρ0, A0, acs0, u0, Q0, w0, R0, wf0⟩ := opn0.argS hsz (j := 0) rfl rfl h0 P0
  have S := lawBestSequence  wf0 R0
  refine (Spec.calls mixed Q0 rfl (CR.vrs (c := [_]) (VRs.cons w0 CR.nil)) S).mono fun e W' hq => ?_
  obtain ⟨he, bel⟩ := hq
  subst he
  exact ⟨_, rfl, _, _, _, [], _, [], hW', trodAll_mk1 (shut_bool rfl _), (trodAll_cons_mk (Below.trod laidOut (by kernel_rfl) (of_decide_eq_true (by kernel_rfl)) k0 bel lt0) trodAll_mk0), rfl, bel.frame _, fun h => by cases h⟩
theorem j0 : (Rows.fnExactBestSequenceRow.wf (OpenSpec.ofChange Rows.fnExactBestSequenceSpec)) = true := by kernel_rfl
theorem j1 : (laidOutB Try.prog) = true := by kernel_rfl
theorem j2 : (mapsRowed Try.prog) = true := by kernel_rfl
theorem j3 : (Try.f11.params.all (Try.prog.readableRec ·)) = true := by kernel_rfl
theorem j4 : (namedTie Try.prog Rows.fnExactBestSequenceRow.named Rows.fnExactBestSequenceSpec.vars) = true := by kernel_rfl
theorem j5 : ((Rows.fnExactBestSequenceRow.stops == [])) = true := by kernel_rfl
theorem j6 : ((Try.prog.stops == [])) = true := by kernel_rfl
theorem j7 : ((Rows.fnExactBestSequenceRow.knobs == [])) = true := by kernel_rfl
theorem j8 : ((Try.prog.stopKnobs == [])) = true := by kernel_rfl
theorem j9 : ((Rows.fnExactBestSequenceRow.inPlace == Try.prog.inPlace 11)) = true := by kernel_rfl
theorem j10 : ((Rows.fnExactBestSequenceRow.unfollowed == Try.prog.unfollowed 11)) = true := by kernel_rfl
theorem j11 : ((Rows.fnExactBestSequenceRow.recurses == Try.prog.recurses 11)) = true := by kernel_rfl
theorem j12 : ((Rows.fnExactBestSequenceRow.named == Try.prog.varsNamed 11)) = true := by kernel_rfl
theorem j13 : ((Rows.fnExactBestSequenceRow.maps == (Try.f11.params.toList ++ Rows.fnExactBestSequenceSpec.plain.varTypes Try.prog).any (Try.prog.mapsRec ·))) = true := by kernel_rfl
theorem j14 : ((Rows.fnExactBestSequenceRow.ifaces == (Try.f11.params.toList ++ Rows.fnExactBestSequenceSpec.plain.varTypes Try.prog).any (Try.prog.ifacesRec ·))) = true := by kernel_rfl
theorem j15 : ((Rows.fnExactBestSequenceRow.mapsOut == Try.prog.mapsAmong Try.f11.resultTypes.toList)) = true := by kernel_rfl
theorem j16 : ((Rows.fnExactBestSequenceRow.loops == (Try.f11.params.toList ++ Rows.fnExactBestSequenceSpec.plain.varTypes Try.prog).any (Try.prog.loopsFrom ·))) = true := by kernel_rfl
theorem j17 : ((Rows.fnExactBestSequenceRow.wideKeys == (Try.f11.params.toList ++ Rows.fnExactBestSequenceSpec.plain.varTypes Try.prog ++ Try.f11.resultTypes.toList).any (Try.prog.wideKeysFrom ·))) = true := by kernel_rfl
theorem j18 : (Rows.fnExactBestSequenceSpec.vars.all (Try.prog.varReadable ·)) = true := by kernel_rfl
theorem j19 : (Try.f11.resultTypes.all (fun t => Try.prog.readableRec t && decide (t < Try.prog.types.size))) = true := by kernel_rfl
theorem j20 : ((Rows.fnExactBestSequenceRow.ifacesOut == Try.f11.resultTypes.toList.any (Try.prog.ifacesRec ·))) = true := by kernel_rfl
theorem j21 : ((Rows.fnExactBestSequenceRow.loopsOut == Try.f11.resultTypes.toList.any (Try.prog.loopsFrom ·))) = true := by kernel_rfl
theorem j22 : ((Rows.fnExactBestSequenceRow.plainKeys == Try.prog.plainKeys)) = true := by kernel_rfl
theorem j23 : (Rows.fnExactBestSequenceRow.shortTexts.isNone) = true := by kernel_rfl
theorem j24 : (Try.prog.stopsHeard) = true := by kernel_rfl
theorem j25 : (Try.prog.mayEnter) = true := by kernel_rfl
theorem j26 : ((Rows.fnExactBestSequenceRow.lifted == Try.prog.liftsFinal)) = true := by kernel_rfl
theorem j27 : ((Try.prog.make == some Rows.fnExactBestSequenceRow.make)) = true := by kernel_rfl
theorem j28 : ((Rows.fnExactBestSequenceRow.kinds == (if Rows.fnExactBestSequenceRow.domain.isEmpty then [] else Try.f11.params.toList.map fun t => match Try.prog.underlying t with | some (.int k) => some k | _ => none))) = true := by kernel_rfl
theorem j29 : ((Rows.fnExactBestSequenceRow.pinned == Rows.fnExactBestSequenceRow.pinnedBy)) = true := by kernel_rfl
theorem j30 : ((Rows.fnExactBestSequenceRow.veiled == (Try.f11.params.toList ++ Rows.fnExactBestSequenceSpec.plain.varTypes Try.prog ++ Try.f11.resultTypes.toList).any (Try.prog.veiledRec ·))) = true := by kernel_rfl
theorem j31 : (Rows.fnExactBestSequenceRow.veiledFits Try.prog Try.f11.params.toList (Try.f11.params.toList ++ Rows.fnExactBestSequenceSpec.plain.varTypes Try.prog ++ Try.f11.resultTypes.toList)) = true := by kernel_rfl
theorem jn : Try.pinned.checked.prog.funcNamed Rows.fnExactBestSequenceRow.func = some 11 := by kernel_rfl
theorem ji : Try.f11.isInstance Try.prog Rows.fnExactBestSequenceRow.origin Rows.fnExactBestSequenceRow.targs := of_decide_eq_true (by kernel_rfl)
theorem jw : Try.f11.isWrapper Try.prog Rows.fnExactBestSequenceRow.wrapper Rows.fnExactBestSequenceRow.mainSum := by unfold Func.isWrapper; first | (rw [if_pos (by decide +kernel)]; kernel_rfl) | (rw [if_neg (by decide +kernel)]; exact ⟨rfl, rfl⟩)
theorem over : Rows.fnExactBestSequenceRow.holds Try.pinned (OpenSpec.ofChange Rows.fnExactBestSequenceSpec) :=
  OpenClaim.holds_of_wide 11 Try.f11 rfl rfl rfl rfl rfl rfl rfl ⟨rfl, rfl, rfl, rfl, rfl⟩ rfl rfl rfl rfl rfl jn Try.func11
    (joined_of j0 j1 j2 j3 j4 j5 j6 j7 j8 j9 j10 j11 j12 j13 j14 j15 j16 j17 j18 j19 j20 j21 j22 j23 j24 j25 j26 j27 j28 j29 j30 j31) ji jw
    (fun os started H enc _ => lifted os started H enc)
theorem proved : Rows.FnExactBestSequenceSaid := over
#print axioms proved
end Go.Proofs.Ytmkpfllbmdahkaa.fnExactBestSequence
