/- The law FnExactFitsFamily returns true. -/
import Derived.Test.YtaepgfafbnjccaaSp11
set_option linter.unusedVariables false
set_option maxRecDepth 20000
namespace Go.Proofs.Ytaepgfafbnjccaa.Am
open Go Go.RowKit Go.Proofs
section
variable {S : Ids} {H0 : AH}
theorem lawFitsFamily (m u h : Int) {a c a' c'} {l : List Int} {gs : List (List Int)} (hl : l.length ≤ 9223372036854775807) (hg : gs.length ≤ 9223372036854775807) (hg' : ∀ x ∈ gs, x.length ≤ 9223372036854775807) (hs : (Kn.int .i64).Sl S H0 (.slice a l.length c) l) (hs' : (Kn.int .i64).sl.Sl S H0 (.slice a' gs.length c') gs) :
    Spec Try.prog S H0 4 [ranksV m u (.slice a l.length c), familyV h (.slice a' gs.length c')] (fun v => v = .bool true) := by
  refine Spec.of Try.func4 rfl (by kernel_rfl) rfl (fun H hfin hfz => ?_)
  have hs := hs.to hfz
  have hs' := hs'.to hfz
  refine KW.call rfl rfl rfl rfl rfl (szRanks (by decide) (by decide) hl) (fun v n' _ hv => ?_)
  obtain ⟨r, rfl, hr⟩ := hv
  refine KW.cnd rfl rfl (fun h1 => KW.ret rfl rfl rfl rfl rfl) (fun h1 => ?_)
  have hr : 0 ≤ r ∧ r ≤ 1048576 ∧ l.length ≤ 1048576 := by omega
  refine KW.call rfl rfl rfl rfl rfl (szFamily hr.1 hr.2.1 hg hg' hs') (fun v n' _ hv => ?_)
  obtain ⟨r2, rfl, hr2⟩ := hv
  refine KW.cnd rfl rfl (fun h1 => KW.ret rfl rfl rfl rfl rfl) (fun h2 => ?_)
  have hsm : Sml gs := by
    rcases hr2 with hr2 | hr2
    · omega
    · exact ⟨hr2.2.2.1, hr2.2.2.2⟩
  have hll := hr.2.2
  refine KW.callN rfl rfl rfl rfl rfl (toRanks hll hs) (fun v H1 S1 _ t1 w1 hv => ?_)
  obtain ⟨a1, c1, rfl, hv1⟩ := hv
  refine KW.callN rfl rfl rfl rfl rfl (toFamily hsm.len hsm.each (hs'.st t1)) (fun v H2 S2 _ t2 w2 hv => ?_)
  obtain ⟨a2, c2, rfl, hv2⟩ := hv
  refine KW.callE rfl rfl rfl rfl rfl (specFitsFamily m u h hll hsm ((hv1.more w1).st t2) (hv2.more w2)) (fun _ _ => ?_)
  have t2 := t1.trans t2
  refine KW.callN rfl rfl rfl rfl rfl (toRanks hll (hs.st t2)) (fun v H3 S3 _ t3 w3 hv => ?_)
  obtain ⟨a3, c3, rfl, hx0⟩ := hv
  refine KW.callN rfl rfl rfl rfl rfl (toFamily hsm.len hsm.each (hs'.st (t2.trans t3))) (fun v H4 S4 _ t4 w4 hv => ?_)
  obtain ⟨a4, c4, rfl, hx1⟩ := hv
  have hx0 := (hx0.more w3).st t4
  have hx1 := hx1.more w4
  have t4 := (t2.trans t3).trans t4
  refine KW.callE rfl rfl rfl rfl rfl (fitsFamily m u h hll hsm hx0 hx1) (fun _ _ => ?_)
  refine KW.tstB rfl rfl (fun h => absurd h (by simp)) (fun _ => ?_)
  refine KW.cndB rfl rfl (fun h => absurd h (by simp)) (fun _ => ?_)
  refine KW.callN rfl rfl rfl rfl rfl (toRanks hll (hs.st t4)) (fun v H5 S5 _ t5 w5 hv => ?_)
  obtain ⟨a5, c5, rfl, hy0⟩ := hv
  refine KW.callE rfl rfl rfl rfl rfl (eqRanks hll (hx0.st t5) (hy0.more w5)) (fun _ _ => ?_)
  refine KW.cndB rfl rfl (fun h => absurd h (by decide)) (fun _ => ?_)
  refine KW.callN rfl rfl rfl rfl rfl (toFamily hsm.len hsm.each (hs'.st (t4.trans t5))) (fun v H6 S6 _ t6 w6 hv => ?_)
  obtain ⟨a6, c6, rfl, hy1⟩ := hv
  refine KW.callE rfl rfl rfl rfl rfl (eqFamily hsm.len hsm.each ((hx1.st t5).st t6) (hy1.more w6)) (fun _ _ => ?_)
  refine KW.cndB rfl rfl (fun h => absurd h (by decide)) (fun _ => ?_)
  exact KW.retM rfl rfl rfl rfl (fun id hid => ((t4.trans t5).trans t6) id hid) (fun H1 g => rfl)
end
end Go.Proofs.Ytaepgfafbnjccaa.Am
