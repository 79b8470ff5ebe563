/- Contracts: ValidDeal, as the law asks them. Each holds under its own conditions. -/
import Derived.Test.YtaepgfafbnjccaaFd2
set_option linter.unusedVariables false
set_option maxRecDepth 20000
namespace Go.Proofs.Ytaepgfafbnjccaa.Am
open Go Go.RowKit Go.Proofs
/-- A deal that is valid. -/
def DealOk (x : T_Deal) : Prop := OkDeal x.1.1 x.1.2.1 x.1.2.2.1 x.1.2.2.2.1 x.1.2.2.2.2 x.2.1 x.2.2.1 x.2.2.2
section
variable {S : Ids} {H0 : AH}
theorem split2_Deal {x : T_Deal} {cs : List Value} (h : K_Deal.R S H0 x cs) : ∃ a1 c1 a2 c2 a3 c3 a4 c4, cs = [.int .i64 x.1.1, .slice a1 x.1.2.1.length c1, .int .i64 x.1.2.2.1, .int .i64 x.1.2.2.2.1, .slice a2 x.1.2.2.2.2.length c2, .int .i64 x.2.1, .slice a3 x.2.2.1.length c3, .slice a4 x.2.2.2.length c4] ∧
    KI.Sl S H0 (.slice a1 x.1.2.1.length c1) x.1.2.1 ∧ KI.sl.Sl S H0 (.slice a2 x.1.2.2.2.2.length c2) x.1.2.2.2.2 ∧ KI.sl.Sl S H0 (.slice a3 x.2.2.1.length c3) x.2.2.1 ∧ KI.sl.sl.Sl S H0 (.slice a4 x.2.2.2.length c4) x.2.2.2 := by
  obtain ⟨a1, c1, a2, c2, a3, c3, a4, c4, rfl, h0, h2, h3⟩ := split_Deal h
  obtain ⟨b1, d1, b2, d2, e0, k1, k2⟩ := split_Scheme h0
  cases e0
  obtain ⟨b3, d3, e1, k3⟩ := split_Matrix k2
  cases e1
  exact ⟨a1, c1, a2, c2, a3, c3, a4, c4, rfl, sl1 k1, sl1 k3, sl1 h2, sl1 h3⟩
abbrev r0_ValidDeal (x : T_Deal) : Prop := DealOk x
theorem impl_ValidDeal {x : T_Deal} {cs : List Value} (hB : B_Deal x) (h : K_Deal.R S H0 x cs) : Spec Try.prog S H0 16 [.agg cs.toArray] (fun v => v = .bool (tv (DealOk x))) := by
  obtain ⟨a1, c1, a2, c2, a3, c3, a4, c4, rfl, h1, h2, h3, h4⟩ := split2_Deal h
  exact validDeal _ _ _ _ hB.1.2.2.1 hB.1.2.1 hB.1.2.2.2.2 hB.2.2.1 hB.2.2.2 h1 h2 h3 h4
theorem spec_ValidDeal {x : T_Deal} {cs : List Value} (hB : B_Deal x) (h : K_Deal.R S H0 x cs) : Spec Try.prog S H0 14 [.agg cs.toArray] (fun v => v = .bool (tv (DealOk x))) := by
  obtain ⟨a1, c1, a2, c2, a3, c3, a4, c4, rfl, h1, h2, h3, h4⟩ := split2_Deal h
  exact specValidDeal _ _ _ _ hB.1.2.2.1 hB.1.2.1 hB.1.2.2.2.2 hB.2.2.1 hB.2.2.2 h1 h2 h3 h4
end
end Go.Proofs.Ytaepgfafbnjccaa.Am
