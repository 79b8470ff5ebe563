/- FnExactRankOf, for every input: the call returns true and its arguments read behind it as before; out of its contract on abstract memory. No condition beyond the reading of the arguments. -/
import Derived.Test.YtmkpfllbmdahkaaRows
import Derived.Test.YtmkpfllbmdahkaaPRankOf03
import Derived.WalkKit
import Derived.ProofKit
import Derived.OpenShut
import Derived.ShutString
import Derived.ChangeOld
import Derived.Below
import Derived.SizedLaws
namespace Go.Proofs.Ytmkpfllbmdahkaa.fnExactRankOf
open Go.ChangeShapes Go.WideShapes Go.ChangeAt Go.RowKit Go.Proofs.Ytmkpfllbmdahkaa.Am
set_option linter.unusedVariables false
set_option maxRecDepth 100000
theorem own : ownKnob Try.prog.godebug = none := by kernel_rfl
theorem laidOut : laidOutB Try.prog = true := by kernel_rfl
theorem mixed : Try.prog.follows .mixedOrders = true := by kernel_rfl
theorem opn0 : Opn Try.prog 24 K_Matrix (W_Matrix) := (Opn.struct (wf := W_Matrix) rfl rfl (OpnF.cons (wf := I64) (wf' := fun (x : (Int) × (List (List Int))) => I64 x.1 ∧ W_Int64SS x.2) rfl rfl (OpnI rfl) (OpnF.cons (wf := I64) (wf' := fun (x : (List (List Int))) => W_Int64SS x) rfl rfl (OpnI rfl) (OpnF.one rfl ((OpnSS rfl rfl rfl rfl rfl).weak (wf' := W_Int64SS) fun a h => ⟨h.1, fun y hy => (h.2 y hy).1⟩)))))
theorem lifted (os : Os) (started : os.Started) (H : Type) (enc : TypeId × Value → H) :
    ReturnsInHanded {} Try.checked os 3 .any (Rows.fnExactRankOfSpec.pre6 enc Try.prog Try.f3 Rows.fnExactRankOfRow.domain false) (Rows.fnExactRankOfSpec.post enc Try.prog Try.f3 false true false false) := by
  refine returnsInHanded_of_change_sized (C := Try.checked) own started (by kernel_rfl) Try.func3
    (ChangeSpec.witness6 (enc := enc) (C := Try.checked) false ⟨#[], #[.agg #[.int .i64 0, .int .i64 0, .slice none 0 0]], []⟩ 12 (by kernel_rfl) (by kernel_rfl) (by kernel_rfl) (by kernel_rfl)) ?_
  intro W base args ds gs before hval0 hW hcnd hsz0 _
  have hsz : (DataW.weightsEach Try.prog (Try.f3.params.toList ++ Rows.fnExactRankOfSpec.plain.varTypes Try.prog) (ds ++ gs)).all (· ≤ reachBytes) = true := hsz0
  have hval : ∀ (j : Nat) t v, Try.f3.params[j]? = some t → args[j]? = some v → Value.okWide Try.prog W .any base t v := hval0
  have hW' := hW
  obtain ⟨p, q, hA0, hV, rfl, hfz, hnd⟩ := hW
  have hA : DataW.TrodAll enc Try.prog W 0 (fun _ => true) true Try.f3.params.toList args.toList ds p := hA0
  rw [Try.params3] at hA hval hsz
  obtain ⟨v0, vs0, d0, ds0, p0, q0, hargs, rfl, rfl, h0, r0⟩ := trodAll_cons hA
  obtain ⟨rfl, rfl, rfl⟩ := trodAll_nil r0
  obtain rfl : args = #[v0] := by cases args; simp_all
  obtain ⟨rfl, rfl⟩ := trodVars_none hV
  have k0 := h0
  have lt0 : ∀ x ∈ p0, x.block < W.heap.size := by obtain ⟨m, hm⟩ := k0; exact DataW.trod_lt m _ _ _ hm
  have P0 := Pre.start W
  obtain ⟨cs0, rfl, -⟩ := okWide_struct (fs := _) rfl (hval 0 _ v0 rfl rfl)
  obtain ⟨y0, ρ0, A0, acs0, u0, Q0, w0, R0, wf0⟩ := opn0.argS hsz (j := 0) rfl rfl h0 P0
  have S := lawRankOf  wf0 R0
  refine (Spec.calls mixed Q0 rfl (CR.vrs (c := [_]) (VRs.cons w0 CR.nil)) S).mono fun e W' hq => ?_
  obtain ⟨he, bel⟩ := hq
  subst he
  exact ⟨_, rfl, _, _, _, [], _, [], hW', trodAll_mk1 (shut_bool rfl _), (trodAll_cons_mk (Below.trod laidOut (by kernel_rfl) (of_decide_eq_true (by kernel_rfl)) k0 bel lt0) trodAll_mk0), rfl, bel.frame _, fun h => by cases h⟩
theorem j0 : (Rows.fnExactRankOfRow.wf (OpenSpec.ofChange Rows.fnExactRankOfSpec)) = true := by kernel_rfl
theorem j1 : (laidOutB Try.prog) = true := by kernel_rfl
theorem j2 : (mapsRowed Try.prog) = true := by kernel_rfl
theorem j3 : (Try.f3.params.all (Try.prog.readableRec ·)) = true := by kernel_rfl
theorem j4 : (namedTie Try.prog Rows.fnExactRankOfRow.named Rows.fnExactRankOfSpec.vars) = true := by kernel_rfl
theorem j5 : ((Rows.fnExactRankOfRow.stops == [])) = true := by kernel_rfl
theorem j6 : ((Try.prog.stops == [])) = true := by kernel_rfl
theorem j7 : ((Rows.fnExactRankOfRow.knobs == [])) = true := by kernel_rfl
theorem j8 : ((Try.prog.stopKnobs == [])) = true := by kernel_rfl
theorem j9 : ((Rows.fnExactRankOfRow.inPlace == Try.prog.inPlace 3)) = true := by kernel_rfl
theorem j10 : ((Rows.fnExactRankOfRow.unfollowed == Try.prog.unfollowed 3)) = true := by kernel_rfl
theorem j11 : ((Rows.fnExactRankOfRow.recurses == Try.prog.recurses 3)) = true := by kernel_rfl
theorem j12 : ((Rows.fnExactRankOfRow.named == Try.prog.varsNamed 3)) = true := by kernel_rfl
theorem j13 : ((Rows.fnExactRankOfRow.maps == (Try.f3.params.toList ++ Rows.fnExactRankOfSpec.plain.varTypes Try.prog).any (Try.prog.mapsRec ·))) = true := by kernel_rfl
theorem j14 : ((Rows.fnExactRankOfRow.ifaces == (Try.f3.params.toList ++ Rows.fnExactRankOfSpec.plain.varTypes Try.prog).any (Try.prog.ifacesRec ·))) = true := by kernel_rfl
theorem j15 : ((Rows.fnExactRankOfRow.mapsOut == Try.prog.mapsAmong Try.f3.resultTypes.toList)) = true := by kernel_rfl
theorem j16 : ((Rows.fnExactRankOfRow.loops == (Try.f3.params.toList ++ Rows.fnExactRankOfSpec.plain.varTypes Try.prog).any (Try.prog.loopsFrom ·))) = true := by kernel_rfl
theorem j17 : ((Rows.fnExactRankOfRow.wideKeys == (Try.f3.params.toList ++ Rows.fnExactRankOfSpec.plain.varTypes Try.prog ++ Try.f3.resultTypes.toList).any (Try.prog.wideKeysFrom ·))) = true := by kernel_rfl
theorem j18 : (Rows.fnExactRankOfSpec.vars.all (Try.prog.varReadable ·)) = true := by kernel_rfl
theorem j19 : (Try.f3.resultTypes.all (fun t => Try.prog.readableRec t && decide (t < Try.prog.types.size))) = true := by kernel_rfl
theorem j20 : ((Rows.fnExactRankOfRow.ifacesOut == Try.f3.resultTypes.toList.any (Try.prog.ifacesRec ·))) = true := by kernel_rfl
theorem j21 : ((Rows.fnExactRankOfRow.loopsOut == Try.f3.resultTypes.toList.any (Try.prog.loopsFrom ·))) = true := by kernel_rfl
theorem j22 : ((Rows.fnExactRankOfRow.plainKeys == Try.prog.plainKeys)) = true := by kernel_rfl
theorem j23 : (Rows.fnExactRankOfRow.shortTexts.isNone) = true := by kernel_rfl
theorem j24 : (Try.prog.stopsHeard) = true := by kernel_rfl
theorem j25 : (Try.prog.mayEnter) = true := by kernel_rfl
theorem j26 : ((Rows.fnExactRankOfRow.lifted == Try.prog.liftsFinal)) = true := by kernel_rfl
theorem j27 : ((Try.prog.make == some Rows.fnExactRankOfRow.make)) = true := by kernel_rfl
theorem j28 : ((Rows.fnExactRankOfRow.kinds == (if Rows.fnExactRankOfRow.domain.isEmpty then [] else Try.f3.params.toList.map fun t => match Try.prog.underlying t with | some (.int k) => some k | _ => none))) = true := by kernel_rfl
theorem j29 : ((Rows.fnExactRankOfRow.pinned == Rows.fnExactRankOfRow.pinnedBy)) = true := by kernel_rfl
theorem j30 : ((Rows.fnExactRankOfRow.veiled == (Try.f3.params.toList ++ Rows.fnExactRankOfSpec.plain.varTypes Try.prog ++ Try.f3.resultTypes.toList).any (Try.prog.veiledRec ·))) = true := by kernel_rfl
theorem j31 : (Rows.fnExactRankOfRow.veiledFits Try.prog Try.f3.params.toList (Try.f3.params.toList ++ Rows.fnExactRankOfSpec.plain.varTypes Try.prog ++ Try.f3.resultTypes.toList)) = true := by kernel_rfl
theorem jn : Try.pinned.checked.prog.funcNamed Rows.fnExactRankOfRow.func = some 3 := by kernel_rfl
theorem ji : Try.f3.isInstance Try.prog Rows.fnExactRankOfRow.origin Rows.fnExactRankOfRow.targs := of_decide_eq_true (by kernel_rfl)
theorem jw : Try.f3.isWrapper Try.prog Rows.fnExactRankOfRow.wrapper Rows.fnExactRankOfRow.mainSum := by unfold Func.isWrapper; first | (rw [if_pos (by decide +kernel)]; kernel_rfl) | (rw [if_neg (by decide +kernel)]; exact ⟨rfl, rfl⟩)
theorem over : Rows.fnExactRankOfRow.holds Try.pinned (OpenSpec.ofChange Rows.fnExactRankOfSpec) :=
  OpenClaim.holds_of_wide 3 Try.f3 rfl rfl rfl rfl rfl rfl rfl ⟨rfl, rfl, rfl, rfl, rfl⟩ rfl rfl rfl rfl rfl jn Try.func3
    (joined_of j0 j1 j2 j3 j4 j5 j6 j7 j8 j9 j10 j11 j12 j13 j14 j15 j16 j17 j18 j19 j20 j21 j22 j23 j24 j25 j26 j27 j28 j29 j30 j31) ji jw
    (fun os started H enc _ => lifted os started H enc)
theorem proved : Rows.FnExactRankOfSaid := over
#print axioms proved
end Go.Proofs.Ytmkpfllbmdahkaa.fnExactRankOf
