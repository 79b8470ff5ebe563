/- FnCutRanks, for every input: the call returns true and its arguments read behind it as before; out of its contract on abstract memory. No condition beyond the reading of the arguments. -/
import Derived.Test.YtlapbbffoapleaaRows
import Derived.Test.YtlapbbffoapleaaPCutRanks03
import Derived.WalkKit
import Derived.ProofKit
import Derived.OpenShut
import Derived.ShutString
import Derived.ChangeOld
import Derived.Below
import Derived.SizedLaws
namespace Go.Proofs.Ytlapbbffoapleaa.fnCutRanks
open Go.ChangeShapes Go.WideShapes Go.ChangeAt Go.RowKit Go.Proofs.Ytlapbbffoapleaa.Am
set_option linter.unusedVariables false
set_option maxRecDepth 100000
theorem own : ownKnob Try.prog.godebug = none := by kernel_rfl
theorem laidOut : laidOutB Try.prog = true := by kernel_rfl
theorem mixed : Try.prog.follows .mixedOrders = true := by kernel_rfl
theorem opnB {P : Program} {t : TypeId} (ht : P.underlying t = some (.int .u8)) : Opn P t (Kn.int .u8) (fun a => 0 ≤ a ∧ a < 256) := (Opn.int ht).weak fun a h => by
  simp [Lit.wf, IntKind.min, IntKind.max, IntKind.signed, IntKind.bits, Bool.and_eq_true, decide_eq_true_eq] at h
  omega
theorem opn0 : Opn Try.prog 22 K_B (W_B) := OpnRow rfl rfl (by decide) (opnB rfl)
theorem lifted (os : Os) (started : os.Started) (H : Type) (enc : TypeId × Value → H) :
    ReturnsInHanded {} Try.checked os 8 .any (Rows.fnCutRanksSpec.pre6 enc Try.prog Try.f8 Rows.fnCutRanksRow.domain false) (Rows.fnCutRanksSpec.post enc Try.prog Try.f8 false true false false) := by
  refine returnsInHanded_of_change_sized (C := Try.checked) own started (by kernel_rfl) Try.func8
    (ChangeSpec.witness6 (enc := enc) (C := Try.checked) false ⟨#[], #[.slice none 0 0, .slice none 0 0], []⟩ 8 (by kernel_rfl) (by kernel_rfl) (by kernel_rfl) (by kernel_rfl)) ?_
  intro W base args ds gs before hval0 hW hcnd hsz0 _
  have hsz : (DataW.weightsEach Try.prog (Try.f8.params.toList ++ Rows.fnCutRanksSpec.plain.varTypes Try.prog) (ds ++ gs)).all (· ≤ reachBytes) = true := hsz0
  have hval : ∀ (j : Nat) t v, Try.f8.params[j]? = some t → args[j]? = some v → Value.okWide Try.prog W .any base t v := hval0
  have hW' := hW
  obtain ⟨p, q, hA0, hV, rfl, hfz, hnd⟩ := hW
  have hA : DataW.TrodAll enc Try.prog W 0 (fun _ => true) true Try.f8.params.toList args.toList ds p := hA0
  rw [Try.params8] at hA hval hsz
  obtain ⟨v0, vs0, d0, ds0, p0, q0, hargs, rfl, rfl, h0, r0⟩ := trodAll_cons hA
  obtain ⟨v1, vs1, d1, ds1, p1, q1, rfl, rfl, rfl, h1, r1⟩ := trodAll_cons r0
  obtain ⟨rfl, rfl, rfl⟩ := trodAll_nil r1
  obtain rfl : args = #[v0, v1] := by cases args; simp_all
  obtain ⟨rfl, rfl⟩ := trodVars_none hV
  have k0 := h0
  have lt0 : ∀ x ∈ p0, x.block < W.heap.size := by obtain ⟨m, hm⟩ := k0; exact DataW.trod_lt m _ _ _ hm
  have k1 := h1
  have lt1 : ∀ x ∈ p1, x.block < W.heap.size := by obtain ⟨m, hm⟩ := k1; exact DataW.trod_lt m _ _ _ hm
  have P0 := Pre.start W
  obtain ⟨z0, zl0, zc0, rfl⟩ := okWide_slice (e := _) rfl (hval 0 _ v0 rfl rfl)
  obtain ⟨y0, ρ0, A0, g0, u0, Q0, w0, R0, wf0⟩ := opn0.arg1 hsz (j := 0) rfl rfl h0 rfl P0
  obtain ⟨z1, zl1, zc1, rfl⟩ := okWide_slice (e := _) rfl (hval 1 _ v1 rfl rfl)
  obtain ⟨y1, ρ1, A1, g1, u1, Q1, w1, R1, wf1⟩ := opn0.arg1 hsz (j := 1) rfl rfl h1 rfl Q0
  have R0 := Kn.up u1 R0
  have w0 := VR.up u1 Q0 w0
  obtain ⟨ga0, gc0, hg0⟩ := slform R0
  obtain rfl : g0 = .slice ga0 y0.length gc0 := by simpa using hg0
  obtain ⟨ga1, gc1, hg1⟩ := slform R1
  obtain rfl : g1 = .slice ga1 y1.length gc1 := by simpa using hg1
  have S := lawCutRanks  wf0 R0 wf1 R1
  refine (Spec.calls mixed Q1 rfl (CR.vrs (c := [_, _]) (VRs.cons w0 (VRs.cons w1 CR.nil))) S).mono fun e W' hq => ?_
  obtain ⟨he, bel⟩ := hq
  subst he
  exact ⟨_, rfl, _, _, _, [], _, [], hW', trodAll_mk1 (shut_bool rfl _), (trodAll_cons_mk (Below.trod laidOut (by kernel_rfl) (of_decide_eq_true (by kernel_rfl)) k0 bel lt0) (trodAll_cons_mk (Below.trod laidOut (by kernel_rfl) (of_decide_eq_true (by kernel_rfl)) k1 bel lt1) trodAll_mk0)), rfl, bel.frame _, fun h => by cases h⟩
theorem j0 : (Rows.fnCutRanksRow.wf (OpenSpec.ofChange Rows.fnCutRanksSpec)) = true := by kernel_rfl
theorem j1 : (laidOutB Try.prog) = true := by kernel_rfl
theorem j2 : (mapsRowed Try.prog) = true := by kernel_rfl
theorem j3 : (Try.f8.params.all (Try.prog.readableRec ·)) = true := by kernel_rfl
theorem j4 : (namedTie Try.prog Rows.fnCutRanksRow.named Rows.fnCutRanksSpec.vars) = true := by kernel_rfl
theorem j5 : ((Rows.fnCutRanksRow.stops == [])) = true := by kernel_rfl
theorem j6 : ((Try.prog.stops == [])) = true := by kernel_rfl
theorem j7 : ((Rows.fnCutRanksRow.knobs == [])) = true := by kernel_rfl
theorem j8 : ((Try.prog.stopKnobs == [])) = true := by kernel_rfl
theorem j9 : ((Rows.fnCutRanksRow.inPlace == Try.prog.inPlace 8)) = true := by kernel_rfl
theorem j10 : ((Rows.fnCutRanksRow.unfollowed == Try.prog.unfollowed 8)) = true := by kernel_rfl
theorem j11 : ((Rows.fnCutRanksRow.recurses == Try.prog.recurses 8)) = true := by kernel_rfl
theorem j12 : ((Rows.fnCutRanksRow.named == Try.prog.varsNamed 8)) = true := by kernel_rfl
theorem j13 : ((Rows.fnCutRanksRow.maps == (Try.f8.params.toList ++ Rows.fnCutRanksSpec.plain.varTypes Try.prog).any (Try.prog.mapsRec ·))) = true := by kernel_rfl
theorem j14 : ((Rows.fnCutRanksRow.ifaces == (Try.f8.params.toList ++ Rows.fnCutRanksSpec.plain.varTypes Try.prog).any (Try.prog.ifacesRec ·))) = true := by kernel_rfl
theorem j15 : ((Rows.fnCutRanksRow.mapsOut == Try.prog.mapsAmong Try.f8.resultTypes.toList)) = true := by kernel_rfl
theorem j16 : ((Rows.fnCutRanksRow.loops == (Try.f8.params.toList ++ Rows.fnCutRanksSpec.plain.varTypes Try.prog).any (Try.prog.loopsFrom ·))) = true := by kernel_rfl
theorem j17 : ((Rows.fnCutRanksRow.wideKeys == (Try.f8.params.toList ++ Rows.fnCutRanksSpec.plain.varTypes Try.prog ++ Try.f8.resultTypes.toList).any (Try.prog.wideKeysFrom ·))) = true := by kernel_rfl
theorem j18 : (Rows.fnCutRanksSpec.vars.all (Try.prog.varReadable ·)) = true := by kernel_rfl
theorem j19 : (Try.f8.resultTypes.all (fun t => Try.prog.readableRec t && decide (t < Try.prog.types.size))) = true := by kernel_rfl
theorem j20 : ((Rows.fnCutRanksRow.ifacesOut == Try.f8.resultTypes.toList.any (Try.prog.ifacesRec ·))) = true := by kernel_rfl
theorem j21 : ((Rows.fnCutRanksRow.loopsOut == Try.f8.resultTypes.toList.any (Try.prog.loopsFrom ·))) = true := by kernel_rfl
theorem j22 : ((Rows.fnCutRanksRow.plainKeys == Try.prog.plainKeys)) = true := by kernel_rfl
theorem j23 : (Rows.fnCutRanksRow.shortTexts.isNone) = true := by kernel_rfl
theorem j24 : (Try.prog.stopsHeard) = true := by kernel_rfl
theorem j25 : (Try.prog.mayEnter) = true := by kernel_rfl
theorem j26 : ((Rows.fnCutRanksRow.lifted == Try.prog.liftsFinal)) = true := by kernel_rfl
theorem j27 : ((Try.prog.make == some Rows.fnCutRanksRow.make)) = true := by kernel_rfl
theorem j28 : ((Rows.fnCutRanksRow.kinds == (if Rows.fnCutRanksRow.domain.isEmpty then [] else Try.f8.params.toList.map fun t => match Try.prog.underlying t with | some (.int k) => some k | _ => none))) = true := by kernel_rfl
theorem j29 : ((Rows.fnCutRanksRow.pinned == Rows.fnCutRanksRow.pinnedBy)) = true := by kernel_rfl
theorem j30 : ((Rows.fnCutRanksRow.veiled == (Try.f8.params.toList ++ Rows.fnCutRanksSpec.plain.varTypes Try.prog ++ Try.f8.resultTypes.toList).any (Try.prog.veiledRec ·))) = true := by kernel_rfl
theorem j31 : (Rows.fnCutRanksRow.veiledFits Try.prog Try.f8.params.toList (Try.f8.params.toList ++ Rows.fnCutRanksSpec.plain.varTypes Try.prog ++ Try.f8.resultTypes.toList)) = true := by kernel_rfl
theorem jn : Try.pinned.checked.prog.funcNamed Rows.fnCutRanksRow.func = some 8 := by kernel_rfl
theorem ji : Try.f8.isInstance Try.prog Rows.fnCutRanksRow.origin Rows.fnCutRanksRow.targs := of_decide_eq_true (by kernel_rfl)
theorem jw : Try.f8.isWrapper Try.prog Rows.fnCutRanksRow.wrapper Rows.fnCutRanksRow.mainSum := by unfold Func.isWrapper; first | (rw [if_pos (by decide +kernel)]; kernel_rfl) | (rw [if_neg (by decide +kernel)]; exact ⟨rfl, rfl⟩)
theorem over : Rows.fnCutRanksRow.holds Try.pinned (OpenSpec.ofChange Rows.fnCutRanksSpec) :=
  OpenClaim.holds_of_wide 8 Try.f8 rfl rfl rfl rfl rfl rfl rfl ⟨rfl, rfl, rfl, rfl, rfl⟩ rfl rfl rfl rfl rfl jn Try.func8
    (joined_of j0 j1 j2 j3 j4 j5 j6 j7 j8 j9 j10 j11 j12 j13 j14 j15 j16 j17 j18 j19 j20 j21 j22 j23 j24 j25 j26 j27 j28 j29 j30 j31) ji jw
    (fun os started H enc _ => lifted os started H enc)
theorem proved : Rows.FnCutRanksSaid := over
#print axioms proved
end Go.Proofs.Ytlapbbffoapleaa.fnCutRanks
