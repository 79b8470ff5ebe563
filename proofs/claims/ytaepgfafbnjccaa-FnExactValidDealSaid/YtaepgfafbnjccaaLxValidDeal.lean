/- The law FnExactValidDeal returns true. No condition beyond the reading of the arguments. -/
import Derived.Test.YtaepgfafbnjccaaDl1
set_option linter.unusedVariables false
set_option maxRecDepth 20000
set_option maxHeartbeats 4000000
namespace Go.Proofs.Ytaepgfafbnjccaa.Am
open Go Go.RowKit Go.Proofs
section
variable {S : Ids} {H0 : AH}
theorem lawValidDeal {x0 : T_Deal} {cs0 : List Value} (hW0 : W_Deal x0) (h0 : K_Deal.R S H0 x0 cs0) : Spec Try.prog S H0 3 [.agg cs0.toArray] (fun v => v = .bool true) := by
  obtain ⟨p0_0, q0_0, p0_1, q0_1, p0_2, q0_2, p0_3, q0_3, rfl⟩ := form_Deal h0
  refine Spec.of1 Try.func3 rfl (by kernel_rfl) rfl (fun H _ => ?_)
  have A0 : Fk K_Deal (Low H.n) (Low H.n) H x0 _ := ⟨On.R h0, fun _ p => p⟩
  refine KW.call rfl rfl rfl rfl rfl (sz_Deal' (left := 1048576) (by decide) (by decide) hW0 A0.all) (fun v n0 _ hv => ?_)
  obtain ⟨r0, rfl, k0⟩ := hv
  refine KW.cnd rfl rfl (fun h => KW.ret rfl rfl rfl rfl rfl) (fun h => ?_)
  have k0 := k0.resolve_left (by omega)
  have hB0 := k0.2.2
  refine KW.callN1 rfl rfl rfl rfl rfl (to_Deal hB0 A0.all) (fun v Hb0 Sb0 mb0 _ _ hv => ?_)
  obtain ⟨wb0, rfl, b0⟩ := hv
  obtain ⟨b0_0, b0c_0, b0_1, b0c_1, b0_2, b0c_2, b0_3, b0c_3, rfl⟩ := formM_Deal b0
  refine KW.callE rfl rfl rfl rfl rfl (spec_ValidDeal hB0 ((le_Deal).2 _ _ _ _ (On.R b0))) (fun nw mw => ?_)
  refine KW.callN1 rfl rfl rfl rfl rfl (to_Deal hB0 A0.all) (fun v Hx0 Sx0 mx0 _ _ hv => ?_)
  obtain ⟨wx0, rfl, x0⟩ := hv
  obtain ⟨x0_0, x0c_0, x0_1, x0c_1, x0_2, x0c_2, x0_3, x0c_3, rfl⟩ := formM_Deal x0
  refine KW.callE rfl rfl rfl rfl rfl (impl_ValidDeal hB0 ((le_Deal).2 _ _ _ _ (On.R x0))) (fun ng mg => ?_)
  refine KW.cndB rfl rfl (fun h => absurd h (by first | decide | simp)) (fun _ => ?_)
  refine KW.callN1 rfl rfl rfl rfl rfl (to_Deal hB0 A0.all) (fun v Hy0 Sy0 my0 _ _ hv => ?_)
  obtain ⟨wy0, rfl, y0⟩ := hv
  obtain ⟨y0_0, y0c_0, y0_1, y0c_1, y0_2, y0c_2, y0_3, y0c_3, rfl⟩ := formM_Deal y0
  refine KW.callE rfl rfl rfl rfl rfl (eq_Deal hB0 ((le_Deal).2 _ _ _ _ (On.R x0)) ((le_Deal).2 _ _ _ _ (On.R y0))) (fun _ _ => ?_)
  refine KW.cndB rfl rfl (fun h => absurd h (by first | decide | simp)) (fun _ => ?_)
  refine KW.retM1 rfl rfl rfl rfl (fun H1 g => rfl)
end
end Go.Proofs.Ytaepgfafbnjccaa.Am
