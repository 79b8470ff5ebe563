/- FnExactRefusedDeed, for every input: the call returns true and its arguments read behind it as before; out of its contract on abstract memory. No condition beyond the reading of the arguments. -/
import Derived.Test.YtijmkfnmdhpakaaRows
import Derived.Test.YtijmkfnmdhpakaaPRefusedDeed04
import Derived.WalkKit
import Derived.ProofKit
import Derived.OpenShut
import Derived.ShutString
import Derived.ChangeOld
import Derived.Below
import Derived.SizedLaws
namespace Go.Proofs.Ytijmkfnmdhpakaa.fnExactRefusedDeed
open Go.ChangeShapes Go.WideShapes Go.ChangeAt Go.RowKit Go.Proofs.Ytijmkfnmdhpakaa.Am
set_option linter.unusedVariables false
set_option maxRecDepth 100000
theorem own : ownKnob Try.prog.godebug = none := by kernel_rfl
theorem laidOut : laidOutB Try.prog = true := by kernel_rfl
theorem mixed : Try.prog.follows .mixedOrders = true := by kernel_rfl
theorem opn0 : Opn Try.prog 61 K_Deal (W_Deal) := (Opn.struct (wf := W_Deal) rfl rfl (OpnF.cons (wf := W_Scheme) (wf' := fun (x : (Int) × (List (List Int)) × (List (List (List Int)))) => I64 x.1 ∧ W_Int64SS x.2.1 ∧ W_Int64SSS x.2.2) rfl rfl (Opn.struct (wf := W_Scheme) rfl rfl (OpnF.cons (wf := I64) (wf' := fun (x : (List Int) × (T_Matrix)) => W_Int64S x.1 ∧ W_Matrix x.2) rfl rfl (OpnI rfl) (OpnF.cons (wf := W_Int64S) (wf' := fun (x : (T_Matrix)) => W_Matrix x) rfl rfl ((OpnS rfl rfl rfl).weak (wf' := W_Int64S) fun a h => h.1) (OpnF.one rfl (Opn.struct (wf := W_Matrix) rfl rfl (OpnF.cons (wf := I64) (wf' := fun (x : (Int) × (List (List Int))) => I64 x.1 ∧ W_Int64SS x.2) rfl rfl (OpnI rfl) (OpnF.cons (wf := I64) (wf' := fun (x : (List (List Int))) => W_Int64SS x) rfl rfl (OpnI rfl) (OpnF.one rfl ((OpnSS rfl rfl rfl rfl rfl).weak (wf' := W_Int64SS) fun a h => ⟨h.1, fun y hy => (h.2 y hy).1⟩))))))))) (OpnF.cons (wf := I64) (wf' := fun (x : (List (List Int)) × (List (List (List Int)))) => W_Int64SS x.1 ∧ W_Int64SSS x.2) rfl rfl (OpnI rfl) (OpnF.cons (wf := W_Int64SS) (wf' := fun (x : (List (List (List Int)))) => W_Int64SSS x) rfl rfl ((OpnSS rfl rfl rfl rfl rfl).weak (wf' := W_Int64SS) fun a h => ⟨h.1, fun y hy => (h.2 y hy).1⟩) (OpnF.one rfl ((OpnRow rfl rfl (by decide) (OpnSS rfl rfl rfl rfl rfl)).weak (wf' := W_Int64SSS) fun a h => ⟨h.1, fun y hy => ⟨(h.2 y hy).1, fun z hz => ((h.2 y hy).2 z hz).1⟩⟩))))))
theorem opn1 : Opn Try.prog 62 K_DeedS (W_DeedS) := ((OpnRow rfl rfl (by decide) (Opn.struct (wf := W_Deed) rfl rfl (OpnF.cons (wf := I64) (wf' := fun (x : (Int) × (Int)) => I64 x.1 ∧ I64 x.2) rfl rfl (OpnI rfl) (OpnF.cons (wf := I64) (wf' := fun (x : (Int)) => I64 x) rfl rfl (OpnI rfl) (OpnF.one rfl (OpnI rfl)))))).weak (wf' := W_DeedS) fun a h => ⟨h.1, h.2⟩)
theorem lifted (os : Os) (started : os.Started) (H : Type) (enc : TypeId × Value → H) :
    ReturnsInHanded {} Try.checked os 7 .any (Rows.fnExactRefusedDeedSpec.pre6 enc Try.prog Try.f7 Rows.fnExactRefusedDeedRow.domain false) (Rows.fnExactRefusedDeedSpec.post enc Try.prog Try.f7 false true false false) := by
  refine returnsInHanded_of_change_sized (C := Try.checked) own started (by kernel_rfl) Try.func7
    (ChangeSpec.witness6 (enc := enc) (C := Try.checked) false ⟨#[], #[.agg #[.int .i64 0, .slice none 0 0, .int .i64 0, .int .i64 0, .slice none 0 0, .int .i64 0, .slice none 0 0, .slice none 0 0], .slice none 0 0], []⟩ 12 (by kernel_rfl) (by kernel_rfl) (by kernel_rfl) (by kernel_rfl)) ?_
  intro W base args ds gs before hval0 hW hcnd hsz0 _
  have hsz : (DataW.weightsEach Try.prog (Try.f7.params.toList ++ Rows.fnExactRefusedDeedSpec.plain.varTypes Try.prog) (ds ++ gs)).all (· ≤ reachBytes) = true := hsz0
  have hval : ∀ (j : Nat) t v, Try.f7.params[j]? = some t → args[j]? = some v → Value.okWide Try.prog W .any base t v := hval0
  have hW' := hW
  obtain ⟨p, q, hA0, hV, rfl, hfz, hnd⟩ := hW
  have hA : DataW.TrodAll enc Try.prog W 0 (fun _ => true) true Try.f7.params.toList args.toList ds p := hA0
  rw [Try.params7] at hA hval hsz
  obtain ⟨v0, vs0, d0, ds0, p0, q0, hargs, rfl, rfl, h0, r0⟩ := trodAll_cons hA
  obtain ⟨v1, vs1, d1, ds1, p1, q1, rfl, rfl, rfl, h1, r1⟩ := trodAll_cons r0
  obtain ⟨rfl, rfl, rfl⟩ := trodAll_nil r1
  obtain rfl : args = #[v0, v1] := by cases args; simp_all
  obtain ⟨rfl, rfl⟩ := trodVars_none hV
  have k0 := h0
  have lt0 : ∀ x ∈ p0, x.block < W.heap.size := by obtain ⟨m, hm⟩ := k0; exact DataW.trod_lt m _ _ _ hm
  have k1 := h1
  have lt1 : ∀ x ∈ p1, x.block < W.heap.size := by obtain ⟨m, hm⟩ := k1; exact DataW.trod_lt m _ _ _ hm
  have P0 := Pre.start W
  obtain ⟨cs0, rfl, -⟩ := okWide_struct (fs := _) rfl (hval 0 _ v0 rfl rfl)
  obtain ⟨y0, ρ0, A0, acs0, u0, Q0, w0, R0, wf0⟩ := opn0.argS hsz (j := 0) rfl rfl h0 P0
  obtain ⟨z1, zl1, zc1, rfl⟩ := okWide_slice (e := _) rfl (hval 1 _ v1 rfl rfl)
  obtain ⟨y1, ρ1, A1, g1, u1, Q1, w1, R1, wf1⟩ := opn1.arg1 hsz (j := 1) rfl rfl h1 rfl Q0
  have R0 := Kn.up u1 R0
  have w0 := VR.up u1 Q0 w0
  obtain ⟨ga1, gc1, hg1⟩ := slform R1
  obtain rfl : g1 = .slice ga1 y1.length gc1 := by simpa using hg1
  have S := lawRefusedDeed  wf0 R0 wf1 R1
  refine (Spec.calls mixed Q1 rfl (CR.vrs (c := [_, _]) (VRs.cons w0 (VRs.cons w1 CR.nil))) S).mono fun e W' hq => ?_
  obtain ⟨he, bel⟩ := hq
  subst he
  exact ⟨_, rfl, _, _, _, [], _, [], hW', trodAll_mk1 (shut_bool rfl _), (trodAll_cons_mk (Below.trod laidOut (by kernel_rfl) (of_decide_eq_true (by kernel_rfl)) k0 bel lt0) (trodAll_cons_mk (Below.trod laidOut (by kernel_rfl) (of_decide_eq_true (by kernel_rfl)) k1 bel lt1) trodAll_mk0)), rfl, bel.frame _, fun h => by cases h⟩
theorem j0 : (Rows.fnExactRefusedDeedRow.wf (OpenSpec.ofChange Rows.fnExactRefusedDeedSpec)) = true := by kernel_rfl
theorem j1 : (laidOutB Try.prog) = true := by kernel_rfl
theorem j2 : (mapsRowed Try.prog) = true := by kernel_rfl
theorem j3 : (Try.f7.params.all (Try.prog.readableRec ·)) = true := by kernel_rfl
theorem j4 : (namedTie Try.prog Rows.fnExactRefusedDeedRow.named Rows.fnExactRefusedDeedSpec.vars) = true := by kernel_rfl
theorem j5 : ((Rows.fnExactRefusedDeedRow.stops == [])) = true := by kernel_rfl
theorem j6 : ((Try.prog.stops == [])) = true := by kernel_rfl
theorem j7 : ((Rows.fnExactRefusedDeedRow.knobs == [])) = true := by kernel_rfl
theorem j8 : ((Try.prog.stopKnobs == [])) = true := by kernel_rfl
theorem j9 : ((Rows.fnExactRefusedDeedRow.inPlace == Try.prog.inPlace 7)) = true := by kernel_rfl
theorem j10 : ((Rows.fnExactRefusedDeedRow.unfollowed == Try.prog.unfollowed 7)) = true := by kernel_rfl
theorem j11 : ((Rows.fnExactRefusedDeedRow.recurses == Try.prog.recurses 7)) = true := by kernel_rfl
theorem j12 : ((Rows.fnExactRefusedDeedRow.named == Try.prog.varsNamed 7)) = true := by kernel_rfl
theorem j13 : ((Rows.fnExactRefusedDeedRow.maps == (Try.f7.params.toList ++ Rows.fnExactRefusedDeedSpec.plain.varTypes Try.prog).any (Try.prog.mapsRec ·))) = true := by kernel_rfl
theorem j14 : ((Rows.fnExactRefusedDeedRow.ifaces == (Try.f7.params.toList ++ Rows.fnExactRefusedDeedSpec.plain.varTypes Try.prog).any (Try.prog.ifacesRec ·))) = true := by kernel_rfl
theorem j15 : ((Rows.fnExactRefusedDeedRow.mapsOut == Try.prog.mapsAmong Try.f7.resultTypes.toList)) = true := by kernel_rfl
theorem j16 : ((Rows.fnExactRefusedDeedRow.loops == (Try.f7.params.toList ++ Rows.fnExactRefusedDeedSpec.plain.varTypes Try.prog).any (Try.prog.loopsFrom ·))) = true := by kernel_rfl
theorem j17 : ((Rows.fnExactRefusedDeedRow.wideKeys == (Try.f7.params.toList ++ Rows.fnExactRefusedDeedSpec.plain.varTypes Try.prog ++ Try.f7.resultTypes.toList).any (Try.prog.wideKeysFrom ·))) = true := by kernel_rfl
theorem j18 : (Rows.fnExactRefusedDeedSpec.vars.all (Try.prog.varReadable ·)) = true := by kernel_rfl
theorem j19 : (Try.f7.resultTypes.all (fun t => Try.prog.readableRec t && decide (t < Try.prog.types.size))) = true := by kernel_rfl
theorem j20 : ((Rows.fnExactRefusedDeedRow.ifacesOut == Try.f7.resultTypes.toList.any (Try.prog.ifacesRec ·))) = true := by kernel_rfl
theorem j21 : ((Rows.fnExactRefusedDeedRow.loopsOut == Try.f7.resultTypes.toList.any (Try.prog.loopsFrom ·))) = true := by kernel_rfl
theorem j22 : ((Rows.fnExactRefusedDeedRow.plainKeys == Try.prog.plainKeys)) = true := by kernel_rfl
theorem j23 : (Rows.fnExactRefusedDeedRow.shortTexts.isNone) = true := by kernel_rfl
theorem j24 : (Try.prog.stopsHeard) = true := by kernel_rfl
theorem j25 : (Try.prog.mayEnter) = true := by kernel_rfl
theorem j26 : ((Rows.fnExactRefusedDeedRow.lifted == Try.prog.liftsFinal)) = true := by kernel_rfl
theorem j27 : ((Try.prog.make == some Rows.fnExactRefusedDeedRow.make)) = true := by kernel_rfl
theorem j28 : ((Rows.fnExactRefusedDeedRow.kinds == (if Rows.fnExactRefusedDeedRow.domain.isEmpty then [] else Try.f7.params.toList.map fun t => match Try.prog.underlying t with | some (.int k) => some k | _ => none))) = true := by kernel_rfl
theorem j29 : ((Rows.fnExactRefusedDeedRow.pinned == Rows.fnExactRefusedDeedRow.pinnedBy)) = true := by kernel_rfl
theorem j30 : ((Rows.fnExactRefusedDeedRow.veiled == (Try.f7.params.toList ++ Rows.fnExactRefusedDeedSpec.plain.varTypes Try.prog ++ Try.f7.resultTypes.toList).any (Try.prog.veiledRec ·))) = true := by kernel_rfl
theorem j31 : (Rows.fnExactRefusedDeedRow.veiledFits Try.prog Try.f7.params.toList (Try.f7.params.toList ++ Rows.fnExactRefusedDeedSpec.plain.varTypes Try.prog ++ Try.f7.resultTypes.toList)) = true := by kernel_rfl
theorem jn : Try.pinned.checked.prog.funcNamed Rows.fnExactRefusedDeedRow.func = some 7 := by kernel_rfl
theorem ji : Try.f7.isInstance Try.prog Rows.fnExactRefusedDeedRow.origin Rows.fnExactRefusedDeedRow.targs := of_decide_eq_true (by kernel_rfl)
theorem jw : Try.f7.isWrapper Try.prog Rows.fnExactRefusedDeedRow.wrapper Rows.fnExactRefusedDeedRow.mainSum := by unfold Func.isWrapper; first | (rw [if_pos (by decide +kernel)]; kernel_rfl) | (rw [if_neg (by decide +kernel)]; exact ⟨rfl, rfl⟩)
theorem over : Rows.fnExactRefusedDeedRow.holds Try.pinned (OpenSpec.ofChange Rows.fnExactRefusedDeedSpec) :=
  OpenClaim.holds_of_wide 7 Try.f7 rfl rfl rfl rfl rfl rfl rfl ⟨rfl, rfl, rfl, rfl, rfl⟩ rfl rfl rfl rfl rfl jn Try.func7
    (joined_of j0 j1 j2 j3 j4 j5 j6 j7 j8 j9 j10 j11 j12 j13 j14 j15 j16 j17 j18 j19 j20 j21 j22 j23 j24 j25 j26 j27 j28 j29 j30 j31) ji jw
    (fun os started H enc _ => lifted os started H enc)
theorem proved : Rows.FnExactRefusedDeedSaid := over
#print axioms proved
end Go.Proofs.Ytijmkfnmdhpakaa.fnExactRefusedDeed
