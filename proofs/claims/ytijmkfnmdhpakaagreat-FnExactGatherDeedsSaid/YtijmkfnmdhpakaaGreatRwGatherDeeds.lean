/- FnExactGatherDeeds, for every input: the call returns true and its arguments read behind it as before; out of its contract on abstract memory. No condition beyond the reading of the arguments. -/
import Derived.Test.YtijmkfnmdhpakaaGreatRows
import Derived.Test.YtijmkfnmdhpakaaGreatPGatherDeeds04
import Derived.WalkKit
import Derived.ProofKit
import Derived.OpenShut
import Derived.ShutString
import Derived.ChangeOld
import Derived.Below
import Derived.SizedLaws
namespace Go.Proofs.YtijmkfnmdhpakaaGreat.fnExactGatherDeeds
open Go.ChangeShapes Go.WideShapes Go.ChangeAt Go.RowKit Go.Proofs.YtijmkfnmdhpakaaGreat.Am
set_option linter.unusedVariables false
set_option maxRecDepth 100000
theorem own : ownKnob Tryz.prog.godebug = none := by kernel_rfl
theorem laidOut : laidOutB Tryz.prog = true := by kernel_rfl
theorem mixed : Tryz.prog.follows .mixedOrders = true := by kernel_rfl
theorem opn0 : Opn Tryz.prog 30 K_Deal (W_Deal) := (Opn.struct (wf := W_Deal) rfl rfl (OpnF.cons (wf := W_Scheme) (wf' := fun (x : (Int) × (List (List Int)) × (List (List (List Int)))) => I64 x.1 ∧ W_Int64SS x.2.1 ∧ W_Int64SSS x.2.2) rfl rfl (Opn.struct (wf := W_Scheme) rfl rfl (OpnF.cons (wf := I64) (wf' := fun (x : (List Int) × (T_Matrix)) => W_Int64S x.1 ∧ W_Matrix x.2) rfl rfl (OpnI rfl) (OpnF.cons (wf := W_Int64S) (wf' := fun (x : (T_Matrix)) => W_Matrix x) rfl rfl ((OpnS rfl rfl rfl).weak (wf' := W_Int64S) fun a h => h.1) (OpnF.one rfl (Opn.struct (wf := W_Matrix) rfl rfl (OpnF.cons (wf := I64) (wf' := fun (x : (Int) × (List (List Int))) => I64 x.1 ∧ W_Int64SS x.2) rfl rfl (OpnI rfl) (OpnF.cons (wf := I64) (wf' := fun (x : (List (List Int))) => W_Int64SS x) rfl rfl (OpnI rfl) (OpnF.one rfl ((OpnSS rfl rfl rfl rfl rfl).weak (wf' := W_Int64SS) fun a h => ⟨h.1, fun y hy => (h.2 y hy).1⟩))))))))) (OpnF.cons (wf := I64) (wf' := fun (x : (List (List Int)) × (List (List (List Int)))) => W_Int64SS x.1 ∧ W_Int64SSS x.2) rfl rfl (OpnI rfl) (OpnF.cons (wf := W_Int64SS) (wf' := fun (x : (List (List (List Int)))) => W_Int64SSS x) rfl rfl ((OpnSS rfl rfl rfl rfl rfl).weak (wf' := W_Int64SS) fun a h => ⟨h.1, fun y hy => (h.2 y hy).1⟩) (OpnF.one rfl ((OpnRow rfl rfl (by decide) (OpnSS rfl rfl rfl rfl rfl)).weak (wf' := W_Int64SSS) fun a h => ⟨h.1, fun y hy => ⟨(h.2 y hy).1, fun z hz => ((h.2 y hy).2 z hz).1⟩⟩))))))
theorem opn1 : Opn Tryz.prog 31 K_DeedS (W_DeedS) := ((OpnRow rfl rfl (by decide) (Opn.struct (wf := W_Deed) rfl rfl (OpnF.cons (wf := I64) (wf' := fun (x : (Int) × (Int)) => I64 x.1 ∧ I64 x.2) rfl rfl (OpnI rfl) (OpnF.cons (wf := I64) (wf' := fun (x : (Int)) => I64 x) rfl rfl (OpnI rfl) (OpnF.one rfl (OpnI rfl)))))).weak (wf' := W_DeedS) fun a h => ⟨h.1, h.2⟩)
theorem opn2 : Opn Tryz.prog 22 K_Int64S (W_Int64S) := ((OpnS rfl rfl rfl).weak (wf' := W_Int64S) fun a h => h.1)
theorem lifted (os : Os) (started : os.Started) (H : Type) (enc : TypeId × Value → H) :
    ReturnsInHanded {} Tryz.checked os 4 .any (Rows.fnExactGatherDeedsSpec.pre6 enc Tryz.prog Tryz.f4 Rows.fnExactGatherDeedsRow.domain false) (Rows.fnExactGatherDeedsSpec.post enc Tryz.prog Tryz.f4 false true false false) := by
  refine returnsInHanded_of_change_sized (C := Tryz.checked) own started (by kernel_rfl) Tryz.func4
    (ChangeSpec.witness6 (enc := enc) (C := Tryz.checked) false ⟨#[], #[.agg #[.int .i64 0, .slice none 0 0, .int .i64 0, .int .i64 0, .slice none 0 0, .int .i64 0, .slice none 0 0, .slice none 0 0], .slice none 0 0, .slice none 0 0], []⟩ 12 (by kernel_rfl) (by kernel_rfl) (by kernel_rfl) (by kernel_rfl)) ?_
  intro W base args ds gs before hval0 hW hcnd hsz0 _
  have hsz : (DataW.weightsEach Tryz.prog (Tryz.f4.params.toList ++ Rows.fnExactGatherDeedsSpec.plain.varTypes Tryz.prog) (ds ++ gs)).all (· ≤ reachBytes) = true := hsz0
  have hval : ∀ (j : Nat) t v, Tryz.f4.params[j]? = some t → args[j]? = some v → Value.okWide Tryz.prog W .any base t v := hval0
  have hW' := hW
  obtain ⟨p, q, hA0, hV, rfl, hfz, hnd⟩ := hW
  have hA : DataW.TrodAll enc Tryz.prog W 0 (fun _ => true) true Tryz.f4.params.toList args.toList ds p := hA0
  rw [Tryz.params4] at hA hval hsz
  obtain ⟨v0, vs0, d0, ds0, p0, q0, hargs, rfl, rfl, h0, r0⟩ := trodAll_cons hA
  obtain ⟨v1, vs1, d1, ds1, p1, q1, rfl, rfl, rfl, h1, r1⟩ := trodAll_cons r0
  obtain ⟨v2, vs2, d2, ds2, p2, q2, rfl, rfl, rfl, h2, r2⟩ := trodAll_cons r1
  obtain ⟨rfl, rfl, rfl⟩ := trodAll_nil r2
  obtain rfl : args = #[v0, v1, v2] := by cases args; simp_all
  obtain ⟨rfl, rfl⟩ := trodVars_none hV
  have k0 := h0
  have lt0 : ∀ x ∈ p0, x.block < W.heap.size := by obtain ⟨m, hm⟩ := k0; exact DataW.trod_lt m _ _ _ hm
  have k1 := h1
  have lt1 : ∀ x ∈ p1, x.block < W.heap.size := by obtain ⟨m, hm⟩ := k1; exact DataW.trod_lt m _ _ _ hm
  have k2 := h2
  have lt2 : ∀ x ∈ p2, x.block < W.heap.size := by obtain ⟨m, hm⟩ := k2; exact DataW.trod_lt m _ _ _ hm
  have P0 := Pre.start W
  obtain ⟨cs0, rfl, -⟩ := okWide_struct (fs := _) rfl (hval 0 _ v0 rfl rfl)
  obtain ⟨y0, ρ0, A0, acs0, u0, Q0, w0, R0, wf0⟩ := opn0.argS hsz (j := 0) rfl rfl h0 P0
  obtain ⟨z1, zl1, zc1, rfl⟩ := okWide_slice (e := _) rfl (hval 1 _ v1 rfl rfl)
  obtain ⟨y1, ρ1, A1, g1, u1, Q1, w1, R1, wf1⟩ := opn1.arg1 hsz (j := 1) rfl rfl h1 rfl Q0
  have R0 := Kn.up u1 R0
  have w0 := VR.up u1 Q0 w0
  obtain ⟨z2, zl2, zc2, rfl⟩ := okWide_slice (e := _) rfl (hval 2 _ v2 rfl rfl)
  obtain ⟨y2, ρ2, A2, g2, u2, Q2, w2, R2, wf2⟩ := opn2.arg1 hsz (j := 2) rfl rfl h2 rfl Q1
  have R0 := Kn.up u2 R0
  have w0 := VR.up u2 Q1 w0
  have R1 := Kn.up u2 R1
  have w1 := VR.up u2 Q1 w1
  obtain ⟨ga1, gc1, hg1⟩ := slform R1
  obtain rfl : g1 = .slice ga1 y1.length gc1 := by simpa using hg1
  obtain ⟨ga2, gc2, hg2⟩ := slform R2
  obtain rfl : g2 = .slice ga2 y2.length gc2 := by simpa using hg2
  have S := lawGatherDeeds  wf0 R0 wf1 R1 wf2 R2
  refine (Spec.calls mixed Q2 rfl (CR.vrs (c := [_, _, _]) (VRs.cons w0 (VRs.cons w1 (VRs.cons w2 CR.nil)))) S).mono fun e W' hq => ?_
  obtain ⟨he, bel⟩ := hq
  subst he
  exact ⟨_, rfl, _, _, _, [], _, [], hW', trodAll_mk1 (shut_bool rfl _), (trodAll_cons_mk (Below.trod laidOut (by kernel_rfl) (of_decide_eq_true (by kernel_rfl)) k0 bel lt0) (trodAll_cons_mk (Below.trod laidOut (by kernel_rfl) (of_decide_eq_true (by kernel_rfl)) k1 bel lt1) (trodAll_cons_mk (Below.trod laidOut (by kernel_rfl) (of_decide_eq_true (by kernel_rfl)) k2 bel lt2) trodAll_mk0))), rfl, bel.frame _, fun h => by cases h⟩
theorem j0 : (Rows.fnExactGatherDeedsRow.wf (OpenSpec.ofChange Rows.fnExactGatherDeedsSpec)) = true := by kernel_rfl
theorem j1 : (laidOutB Tryz.prog) = true := by kernel_rfl
theorem j2 : (mapsRowed Tryz.prog) = true := by kernel_rfl
theorem j3 : (Tryz.f4.params.all (Tryz.prog.readableRec ·)) = true := by kernel_rfl
theorem j4 : (namedTie Tryz.prog Rows.fnExactGatherDeedsRow.named Rows.fnExactGatherDeedsSpec.vars) = true := by kernel_rfl
theorem j5 : ((Rows.fnExactGatherDeedsRow.stops == [])) = true := by kernel_rfl
theorem j6 : ((Tryz.prog.stops == [])) = true := by kernel_rfl
theorem j7 : ((Rows.fnExactGatherDeedsRow.knobs == [])) = true := by kernel_rfl
theorem j8 : ((Tryz.prog.stopKnobs == [])) = true := by kernel_rfl
theorem j9 : ((Rows.fnExactGatherDeedsRow.inPlace == Tryz.prog.inPlace 4)) = true := by kernel_rfl
theorem j10 : ((Rows.fnExactGatherDeedsRow.unfollowed == Tryz.prog.unfollowed 4)) = true := by kernel_rfl
theorem j11 : ((Rows.fnExactGatherDeedsRow.recurses == Tryz.prog.recurses 4)) = true := by kernel_rfl
theorem j12 : ((Rows.fnExactGatherDeedsRow.named == Tryz.prog.varsNamed 4)) = true := by kernel_rfl
theorem j13 : ((Rows.fnExactGatherDeedsRow.maps == (Tryz.f4.params.toList ++ Rows.fnExactGatherDeedsSpec.plain.varTypes Tryz.prog).any (Tryz.prog.mapsRec ·))) = true := by kernel_rfl
theorem j14 : ((Rows.fnExactGatherDeedsRow.ifaces == (Tryz.f4.params.toList ++ Rows.fnExactGatherDeedsSpec.plain.varTypes Tryz.prog).any (Tryz.prog.ifacesRec ·))) = true := by kernel_rfl
theorem j15 : ((Rows.fnExactGatherDeedsRow.mapsOut == Tryz.prog.mapsAmong Tryz.f4.resultTypes.toList)) = true := by kernel_rfl
theorem j16 : ((Rows.fnExactGatherDeedsRow.loops == (Tryz.f4.params.toList ++ Rows.fnExactGatherDeedsSpec.plain.varTypes Tryz.prog).any (Tryz.prog.loopsFrom ·))) = true := by kernel_rfl
theorem j17 : ((Rows.fnExactGatherDeedsRow.wideKeys == (Tryz.f4.params.toList ++ Rows.fnExactGatherDeedsSpec.plain.varTypes Tryz.prog ++ Tryz.f4.resultTypes.toList).any (Tryz.prog.wideKeysFrom ·))) = true := by kernel_rfl
theorem j18 : (Rows.fnExactGatherDeedsSpec.vars.all (Tryz.prog.varReadable ·)) = true := by kernel_rfl
theorem j19 : (Tryz.f4.resultTypes.all (fun t => Tryz.prog.readableRec t && decide (t < Tryz.prog.types.size))) = true := by kernel_rfl
theorem j20 : ((Rows.fnExactGatherDeedsRow.ifacesOut == Tryz.f4.resultTypes.toList.any (Tryz.prog.ifacesRec ·))) = true := by kernel_rfl
theorem j21 : ((Rows.fnExactGatherDeedsRow.loopsOut == Tryz.f4.resultTypes.toList.any (Tryz.prog.loopsFrom ·))) = true := by kernel_rfl
theorem j22 : ((Rows.fnExactGatherDeedsRow.plainKeys == Tryz.prog.plainKeys)) = true := by kernel_rfl
theorem j23 : (Rows.fnExactGatherDeedsRow.shortTexts.isNone) = true := by kernel_rfl
theorem j24 : (Tryz.prog.stopsHeard) = true := by kernel_rfl
theorem j25 : (Tryz.prog.mayEnter) = true := by kernel_rfl
theorem j26 : ((Rows.fnExactGatherDeedsRow.lifted == Tryz.prog.liftsFinal)) = true := by kernel_rfl
theorem j27 : ((Tryz.prog.make == some Rows.fnExactGatherDeedsRow.make)) = true := by kernel_rfl
theorem j28 : ((Rows.fnExactGatherDeedsRow.kinds == (if Rows.fnExactGatherDeedsRow.domain.isEmpty then [] else Tryz.f4.params.toList.map fun t => match Tryz.prog.underlying t with | some (.int k) => some k | _ => none))) = true := by kernel_rfl
theorem j29 : ((Rows.fnExactGatherDeedsRow.pinned == Rows.fnExactGatherDeedsRow.pinnedBy)) = true := by kernel_rfl
theorem j30 : ((Rows.fnExactGatherDeedsRow.veiled == (Tryz.f4.params.toList ++ Rows.fnExactGatherDeedsSpec.plain.varTypes Tryz.prog ++ Tryz.f4.resultTypes.toList).any (Tryz.prog.veiledRec ·))) = true := by kernel_rfl
theorem j31 : (Rows.fnExactGatherDeedsRow.veiledFits Tryz.prog Tryz.f4.params.toList (Tryz.f4.params.toList ++ Rows.fnExactGatherDeedsSpec.plain.varTypes Tryz.prog ++ Tryz.f4.resultTypes.toList)) = true := by kernel_rfl
theorem jn : Tryz.pinned.checked.prog.funcNamed Rows.fnExactGatherDeedsRow.func = some 4 := by kernel_rfl
theorem ji : Tryz.f4.isInstance Tryz.prog Rows.fnExactGatherDeedsRow.origin Rows.fnExactGatherDeedsRow.targs := of_decide_eq_true (by kernel_rfl)
theorem jw : Tryz.f4.isWrapper Tryz.prog Rows.fnExactGatherDeedsRow.wrapper Rows.fnExactGatherDeedsRow.mainSum := by unfold Func.isWrapper; first | (rw [if_pos (by decide +kernel)]; kernel_rfl) | (rw [if_neg (by decide +kernel)]; exact ⟨rfl, rfl⟩)
theorem over : Rows.fnExactGatherDeedsRow.holds Tryz.pinned (OpenSpec.ofChange Rows.fnExactGatherDeedsSpec) :=
  OpenClaim.holds_of_wide 4 Tryz.f4 rfl rfl rfl rfl rfl rfl rfl ⟨rfl, rfl, rfl, rfl, rfl⟩ rfl rfl rfl rfl rfl jn Tryz.func4
    (joined_of j0 j1 j2 j3 j4 j5 j6 j7 j8 j9 j10 j11 j12 j13 j14 j15 j16 j17 j18 j19 j20 j21 j22 j23 j24 j25 j26 j27 j28 j29 j30 j31) ji jw
    (fun os started H enc _ => lifted os started H enc)
theorem proved : Rows.FnExactGatherDeedsSaid := over
#print axioms proved
end Go.Proofs.YtijmkfnmdhpakaaGreat.fnExactGatherDeeds
