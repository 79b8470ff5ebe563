/- FnExactOpenAfter, for every input: the call returns true and its arguments read behind it as before; out of its contract on abstract memory. No condition beyond the reading of the arguments. -/
import Derived.Test.YtijmkfnmdhpakaaGreatRows
import Derived.Test.YtijmkfnmdhpakaaGreatPOpenAfter05
import Derived.WalkKit
import Derived.ProofKit
import Derived.OpenShut
import Derived.ShutString
import Derived.ChangeOld
import Derived.Below
import Derived.SizedLaws
namespace Go.Proofs.YtijmkfnmdhpakaaGreat.fnExactOpenAfter
open Go.ChangeShapes Go.WideShapes Go.ChangeAt Go.RowKit Go.Proofs.YtijmkfnmdhpakaaGreat.Am
set_option linter.unusedVariables false
set_option maxRecDepth 100000
theorem own : ownKnob Tryz.prog.godebug = none := by kernel_rfl
theorem laidOut : laidOutB Tryz.prog = true := by kernel_rfl
theorem mixed : Tryz.prog.follows .mixedOrders = true := by kernel_rfl
theorem opn0 : Opn Tryz.prog 30 K_Deal (W_Deal) := (Opn.struct (wf := W_Deal) rfl rfl (OpnF.cons (wf := W_Scheme) (wf' := fun (x : (Int) × (List (List Int)) × (List (List (List Int)))) => I64 x.1 ∧ W_Int64SS x.2.1 ∧ W_Int64SSS x.2.2) rfl rfl (Opn.struct (wf := W_Scheme) rfl rfl (OpnF.cons (wf := I64) (wf' := fun (x : (List Int) × (T_Matrix)) => W_Int64S x.1 ∧ W_Matrix x.2) rfl rfl (OpnI rfl) (OpnF.cons (wf := W_Int64S) (wf' := fun (x : (T_Matrix)) => W_Matrix x) rfl rfl ((OpnS rfl rfl rfl).weak (wf' := W_Int64S) fun a h => h.1) (OpnF.one rfl (Opn.struct (wf := W_Matrix) rfl rfl (OpnF.cons (wf := I64) (wf' := fun (x : (Int) × (List (List Int))) => I64 x.1 ∧ W_Int64SS x.2) rfl rfl (OpnI rfl) (OpnF.cons (wf := I64) (wf' := fun (x : (List (List Int))) => W_Int64SS x) rfl rfl (OpnI rfl) (OpnF.one rfl ((OpnSS rfl rfl rfl rfl rfl).weak (wf' := W_Int64SS) fun a h => ⟨h.1, fun y hy => (h.2 y hy).1⟩))))))))) (OpnF.cons (wf := I64) (wf' := fun (x : (List (List Int)) × (List (List (List Int)))) => W_Int64SS x.1 ∧ W_Int64SSS x.2) rfl rfl (OpnI rfl) (OpnF.cons (wf := W_Int64SS) (wf' := fun (x : (List (List (List Int)))) => W_Int64SSS x) rfl rfl ((OpnSS rfl rfl rfl rfl rfl).weak (wf' := W_Int64SS) fun a h => ⟨h.1, fun y hy => (h.2 y hy).1⟩) (OpnF.one rfl ((OpnRow rfl rfl (by decide) (OpnSS rfl rfl rfl rfl rfl)).weak (wf' := W_Int64SSS) fun a h => ⟨h.1, fun y hy => ⟨(h.2 y hy).1, fun z hz => ((h.2 y hy).2 z hz).1⟩⟩))))))
theorem opn1 : Opn Tryz.prog 31 K_DeedS (W_DeedS) := ((OpnRow rfl rfl (by decide) (Opn.struct (wf := W_Deed) rfl rfl (OpnF.cons (wf := I64) (wf' := fun (x : (Int) × (Int)) => I64 x.1 ∧ I64 x.2) rfl rfl (OpnI rfl) (OpnF.cons (wf := I64) (wf' := fun (x : (Int)) => I64 x) rfl rfl (OpnI rfl) (OpnF.one rfl (OpnI rfl)))))).weak (wf' := W_DeedS) fun a h => ⟨h.1, h.2⟩)
theorem lifted (os : Os) (started : os.Started) (H : Type) (enc : TypeId × Value → H) :
    ReturnsInHanded {} Tryz.checked os 6 .any (Rows.fnExactOpenAfterSpec.pre6 enc Tryz.prog Tryz.f6 Rows.fnExactOpenAfterRow.domain false) (Rows.fnExactOpenAfterSpec.post enc Tryz.prog Tryz.f6 false true false false) := by
  refine returnsInHanded_of_change_sized (C := Tryz.checked) own started (by kernel_rfl) Tryz.func6
    (ChangeSpec.witness6 (enc := enc) (C := Tryz.checked) false ⟨#[], #[.agg #[.int .i64 0, .slice none 0 0, .int .i64 0, .int .i64 0, .slice none 0 0, .int .i64 0, .slice none 0 0, .slice none 0 0], .slice none 0 0], []⟩ 12 (by kernel_rfl) (by kernel_rfl) (by kernel_rfl) (by kernel_rfl)) ?_
  intro W base args ds gs before hval0 hW hcnd hsz0 _
  have hsz : (DataW.weightsEach Tryz.prog (Tryz.f6.params.toList ++ Rows.fnExactOpenAfterSpec.plain.varTypes Tryz.prog) (ds ++ gs)).all (· ≤ reachBytes) = true := hsz0
  have hval : ∀ (j : Nat) t v, Tryz.f6.params[j]? = some t → args[j]? = some v → Value.okWide Tryz.prog W .any base t v := hval0
  have hW' := hW
  obtain ⟨p, q, hA0, hV, rfl, hfz, hnd⟩ := hW
  have hA : DataW.TrodAll enc Tryz.prog W 0 (fun _ => true) true Tryz.f6.params.toList args.toList ds p := hA0
  rw [Tryz.params6] at hA hval hsz
  obtain ⟨v0, vs0, d0, ds0, p0, q0, hargs, rfl, rfl, h0, r0⟩ := trodAll_cons hA
  obtain ⟨v1, vs1, d1, ds1, p1, q1, rfl, rfl, rfl, h1, r1⟩ := trodAll_cons r0
  obtain ⟨rfl, rfl, rfl⟩ := trodAll_nil r1
  obtain rfl : args = #[v0, v1] := by cases args; simp_all
  obtain ⟨rfl, rfl⟩ := trodVars_none hV
  have k0 := h0
  have lt0 : ∀ x ∈ p0, x.block < W.heap.size := by obtain ⟨m, hm⟩ := k0; exact DataW.trod_lt m _ _ _ hm
  have k1 := h1
  have lt1 : ∀ x ∈ p1, x.block < W.heap.size := by obtain ⟨m, hm⟩ := k1; exact DataW.trod_lt m _ _ _ hm
  have P0 := Pre.start W
  obtain ⟨cs0, rfl, -⟩ := okWide_struct (fs := _) rfl (hval 0 _ v0 rfl rfl)
  obtain ⟨y0, ρ0, A0, acs0, u0, Q0, w0, R0, wf0⟩ := opn0.argS hsz (j := 0) rfl rfl h0 P0
  obtain ⟨z1, zl1, zc1, rfl⟩ := okWide_slice (e := _) rfl (hval 1 _ v1 rfl rfl)
  obtain ⟨y1, ρ1, A1, g1, u1, Q1, w1, R1, wf1⟩ := opn1.arg1 hsz (j := 1) rfl rfl h1 rfl Q0
  have R0 := Kn.up u1 R0
  have w0 := VR.up u1 Q0 w0
  obtain ⟨ga1, gc1, hg1⟩ := slform R1
  obtain rfl : g1 = .slice ga1 y1.length gc1 := by simpa using hg1
  have S := lawOpenAfter  wf0 R0 wf1 R1
  refine (Spec.calls mixed Q1 rfl (CR.vrs (c := [_, _]) (VRs.cons w0 (VRs.cons w1 CR.nil))) S).mono fun e W' hq => ?_
  obtain ⟨he, bel⟩ := hq
  subst he
  exact ⟨_, rfl, _, _, _, [], _, [], hW', trodAll_mk1 (shut_bool rfl _), (trodAll_cons_mk (Below.trod laidOut (by kernel_rfl) (of_decide_eq_true (by kernel_rfl)) k0 bel lt0) (trodAll_cons_mk (Below.trod laidOut (by kernel_rfl) (of_decide_eq_true (by kernel_rfl)) k1 bel lt1) trodAll_mk0)), rfl, bel.frame _, fun h => by cases h⟩
theorem j0 : (Rows.fnExactOpenAfterRow.wf (OpenSpec.ofChange Rows.fnExactOpenAfterSpec)) = true := by kernel_rfl
theorem j1 : (laidOutB Tryz.prog) = true := by kernel_rfl
theorem j2 : (mapsRowed Tryz.prog) = true := by kernel_rfl
theorem j3 : (Tryz.f6.params.all (Tryz.prog.readableRec ·)) = true := by kernel_rfl
theorem j4 : (namedTie Tryz.prog Rows.fnExactOpenAfterRow.named Rows.fnExactOpenAfterSpec.vars) = true := by kernel_rfl
theorem j5 : ((Rows.fnExactOpenAfterRow.stops == [])) = true := by kernel_rfl
theorem j6 : ((Tryz.prog.stops == [])) = true := by kernel_rfl
theorem j7 : ((Rows.fnExactOpenAfterRow.knobs == [])) = true := by kernel_rfl
theorem j8 : ((Tryz.prog.stopKnobs == [])) = true := by kernel_rfl
theorem j9 : ((Rows.fnExactOpenAfterRow.inPlace == Tryz.prog.inPlace 6)) = true := by kernel_rfl
theorem j10 : ((Rows.fnExactOpenAfterRow.unfollowed == Tryz.prog.unfollowed 6)) = true := by kernel_rfl
theorem j11 : ((Rows.fnExactOpenAfterRow.recurses == Tryz.prog.recurses 6)) = true := by kernel_rfl
theorem j12 : ((Rows.fnExactOpenAfterRow.named == Tryz.prog.varsNamed 6)) = true := by kernel_rfl
theorem j13 : ((Rows.fnExactOpenAfterRow.maps == (Tryz.f6.params.toList ++ Rows.fnExactOpenAfterSpec.plain.varTypes Tryz.prog).any (Tryz.prog.mapsRec ·))) = true := by kernel_rfl
theorem j14 : ((Rows.fnExactOpenAfterRow.ifaces == (Tryz.f6.params.toList ++ Rows.fnExactOpenAfterSpec.plain.varTypes Tryz.prog).any (Tryz.prog.ifacesRec ·))) = true := by kernel_rfl
theorem j15 : ((Rows.fnExactOpenAfterRow.mapsOut == Tryz.prog.mapsAmong Tryz.f6.resultTypes.toList)) = true := by kernel_rfl
theorem j16 : ((Rows.fnExactOpenAfterRow.loops == (Tryz.f6.params.toList ++ Rows.fnExactOpenAfterSpec.plain.varTypes Tryz.prog).any (Tryz.prog.loopsFrom ·))) = true := by kernel_rfl
theorem j17 : ((Rows.fnExactOpenAfterRow.wideKeys == (Tryz.f6.params.toList ++ Rows.fnExactOpenAfterSpec.plain.varTypes Tryz.prog ++ Tryz.f6.resultTypes.toList).any (Tryz.prog.wideKeysFrom ·))) = true := by kernel_rfl
theorem j18 : (Rows.fnExactOpenAfterSpec.vars.all (Tryz.prog.varReadable ·)) = true := by kernel_rfl
theorem j19 : (Tryz.f6.resultTypes.all (fun t => Tryz.prog.readableRec t && decide (t < Tryz.prog.types.size))) = true := by kernel_rfl
theorem j20 : ((Rows.fnExactOpenAfterRow.ifacesOut == Tryz.f6.resultTypes.toList.any (Tryz.prog.ifacesRec ·))) = true := by kernel_rfl
theorem j21 : ((Rows.fnExactOpenAfterRow.loopsOut == Tryz.f6.resultTypes.toList.any (Tryz.prog.loopsFrom ·))) = true := by kernel_rfl
theorem j22 : ((Rows.fnExactOpenAfterRow.plainKeys == Tryz.prog.plainKeys)) = true := by kernel_rfl
theorem j23 : (Rows.fnExactOpenAfterRow.shortTexts.isNone) = true := by kernel_rfl
theorem j24 : (Tryz.prog.stopsHeard) = true := by kernel_rfl
theorem j25 : (Tryz.prog.mayEnter) = true := by kernel_rfl
theorem j26 : ((Rows.fnExactOpenAfterRow.lifted == Tryz.prog.liftsFinal)) = true := by kernel_rfl
theorem j27 : ((Tryz.prog.make == some Rows.fnExactOpenAfterRow.make)) = true := by kernel_rfl
theorem j28 : ((Rows.fnExactOpenAfterRow.kinds == (if Rows.fnExactOpenAfterRow.domain.isEmpty then [] else Tryz.f6.params.toList.map fun t => match Tryz.prog.underlying t with | some (.int k) => some k | _ => none))) = true := by kernel_rfl
theorem j29 : ((Rows.fnExactOpenAfterRow.pinned == Rows.fnExactOpenAfterRow.pinnedBy)) = true := by kernel_rfl
theorem j30 : ((Rows.fnExactOpenAfterRow.veiled == (Tryz.f6.params.toList ++ Rows.fnExactOpenAfterSpec.plain.varTypes Tryz.prog ++ Tryz.f6.resultTypes.toList).any (Tryz.prog.veiledRec ·))) = true := by kernel_rfl
theorem j31 : (Rows.fnExactOpenAfterRow.veiledFits Tryz.prog Tryz.f6.params.toList (Tryz.f6.params.toList ++ Rows.fnExactOpenAfterSpec.plain.varTypes Tryz.prog ++ Tryz.f6.resultTypes.toList)) = true := by kernel_rfl
theorem jn : Tryz.pinned.checked.prog.funcNamed Rows.fnExactOpenAfterRow.func = some 6 := by kernel_rfl
theorem ji : Tryz.f6.isInstance Tryz.prog Rows.fnExactOpenAfterRow.origin Rows.fnExactOpenAfterRow.targs := of_decide_eq_true (by kernel_rfl)
theorem jw : Tryz.f6.isWrapper Tryz.prog Rows.fnExactOpenAfterRow.wrapper Rows.fnExactOpenAfterRow.mainSum := by unfold Func.isWrapper; first | (rw [if_pos (by decide +kernel)]; kernel_rfl) | (rw [if_neg (by decide +kernel)]; exact ⟨rfl, rfl⟩)
theorem over : Rows.fnExactOpenAfterRow.holds Tryz.pinned (OpenSpec.ofChange Rows.fnExactOpenAfterSpec) :=
  OpenClaim.holds_of_wide 6 Tryz.f6 rfl rfl rfl rfl rfl rfl rfl ⟨rfl, rfl, rfl, rfl, rfl⟩ rfl rfl rfl rfl rfl jn Tryz.func6
    (joined_of j0 j1 j2 j3 j4 j5 j6 j7 j8 j9 j10 j11 j12 j13 j14 j15 j16 j17 j18 j19 j20 j21 j22 j23 j24 j25 j26 j27 j28 j29 j30 j31) ji jw
    (fun os started H enc _ => lifted os started H enc)
theorem proved : Rows.FnExactOpenAfterSaid := over
#print axioms proved
end Go.Proofs.YtijmkfnmdhpakaaGreat.fnExactOpenAfter
