/- Contracts: the laws' own functions on ranks and families (sizes, copies, equality). Each holds under its own conditions. -/
import Derived.Test.YtaepgfafbnjccaaSp3
set_option linter.unusedVariables false
set_option maxRecDepth 20000
namespace Go.Proofs.Ytaepgfafbnjccaa.Am
open Go Go.RowKit Go.Proofs
section
variable {S : Ids} {H0 : AH}
abbrev familyV (m : Int) (s : Value) : Value := .agg #[.int .i64 m, s]
theorem szRanks {m u : Int} {a c} {xs : List Int} {left : Int} (h0 : 0 ≤ left) (h1 : left ≤ 1048576) (hx : xs.length ≤ 9223372036854775807) : Spec Try.prog S H0 18 [ranksV m u (.slice a xs.length c), .int .i64 left] (SzPost left (xs.length ≤ 1048576)) := by
  refine Spec.of Try.func18 rfl (by kernel_rfl) rfl (fun H hfin hfz => ?_)
  refine KW.call rfl rfl rfl rfl rfl (szInt64S h0 h1 hx) (fun v n' _ hv => ?_)
  obtain ⟨q, rfl, hq⟩ := hv
  exact KW.cnd rfl rfl (fun h => KW.ret rfl rfl rfl rfl ⟨-1, rfl, .inl rfl⟩) (fun h => KW.ret rfl rfl rfl rfl ⟨q, rfl, hq⟩)
theorem szFamily {m : Int} {a c} {xs : List (List Int)} {left : Int} (h0 : 0 ≤ left) (h1 : left ≤ 1048576) (hx : xs.length ≤ 9223372036854775807) (hx' : ∀ x ∈ xs, x.length ≤ 9223372036854775807) (hs : (Kn.int .i64).sl.Sl S H0 (.slice a xs.length c) xs) :
    Spec Try.prog S H0 19 [familyV m (.slice a xs.length c), .int .i64 left] (SzPost left (xs.length ≤ 1048576 ∧ sum (lens xs) ≤ 1048576)) := by
  refine Spec.of Try.func19 rfl (by kernel_rfl) rfl (fun H hfin hfz => ?_)
  refine KW.call rfl rfl rfl rfl rfl (szInt64SS h0 h1 hx hx' (hs.to hfz)) (fun v n' _ hv => ?_)
  obtain ⟨q, rfl, hq⟩ := hv
  exact KW.cnd rfl rfl (fun h => KW.ret rfl rfl rfl rfl ⟨-1, rfl, .inl rfl⟩) (fun h => KW.ret rfl rfl rfl rfl ⟨q, rfl, hq⟩)
theorem toRanks {m u : Int} {a c} {xs : List Int} (hl : xs.length ≤ 1048576) (hs : (Kn.int .i64).Sl S H0 (.slice a xs.length c) xs) : SpecM Try.prog S H0 21 [ranksV m u (.slice a xs.length c)] (fun n v H1 => ∃ a c, v = ranksV m u (.slice a xs.length c) ∧ KI.Ml (New n H1.n) H1 (.slice a xs.length c) xs) := by
  refine SpecM.of Try.func21 rfl (by kernel_rfl) rfl (fun H hfin hfz => ?_)
  refine KW.callM rfl rfl rfl rfl rfl (toInt64S hl (hs.to hfz)) (fun v H1 hn hsame hv => ?_)
  obtain ⟨a2, c2, rfl, hv⟩ := hv
  refine KW.retM rfl rfl rfl rfl (fun id hid => ⟨.inl hid, hsame id hid⟩) (fun H2 g => ⟨a2, c2, rfl, ?_⟩)
  exact g.ml hv (fun id hid => ⟨.inr hid, by have := hid.1; omega⟩)
theorem toFamily {m : Int} {a c} {xs : List (List Int)} (hl : xs.length ≤ 1048576) (hx : ∀ x ∈ xs, x.length ≤ 1048576) (hs : (Kn.int .i64).sl.Sl S H0 (.slice a xs.length c) xs) : SpecM Try.prog S H0 22 [familyV m (.slice a xs.length c)] (fun n v H1 => ∃ a c, v = familyV m (.slice a xs.length c) ∧ KI.ml.Ml (New n H1.n) H1 (.slice a xs.length c) xs) := by
  refine SpecM.of Try.func22 rfl (by kernel_rfl) rfl (fun H hfin hfz => ?_)
  refine KW.callM rfl rfl rfl rfl rfl (toInt64SS hl hx (hs.to hfz)) (fun v H1 hn hsame hv => ?_)
  obtain ⟨a2, c2, rfl, hv⟩ := hv
  refine KW.retM rfl rfl rfl rfl (fun id hid => ⟨.inl hid, hsame id hid⟩) (fun H2 g => ⟨a2, c2, rfl, ?_⟩)
  exact g.ml hv (fun id hid => ⟨.inr hid, by have := hid.1; omega⟩)
theorem eqRanks {m u : Int} {a c a' c'} {xs : List Int} (hl : xs.length ≤ 1048576) (hs : (Kn.int .i64).Sl S H0 (.slice a xs.length c) xs) (hs' : (Kn.int .i64).Sl S H0 (.slice a' xs.length c') xs) :
    Spec Try.prog S H0 24 [ranksV m u (.slice a xs.length c), ranksV m u (.slice a' xs.length c')] (fun v => v = .bool true) := by
  refine Spec.of Try.func24 rfl (by kernel_rfl) rfl (fun H hfin hfz => ?_)
  refine KW.cndB rfl rfl (fun h => absurd h (by simp)) (fun h => ?_)
  refine KW.cndB rfl rfl (fun h => absurd h (by simp)) (fun h => ?_)
  refine KW.callE rfl rfl rfl rfl rfl (eqInt64S hl (hs.to hfz) (hs'.to hfz)) (fun n' _ => ?_)
  rw [tv_true rfl]
  refine KW.cndB rfl rfl (fun h => absurd h (by decide)) (fun h => ?_)
  exact KW.ret rfl rfl rfl rfl rfl
theorem eqFamily {m : Int} {a c a' c'} {xs : List (List Int)} (hl : xs.length ≤ 1048576) (hx : ∀ x ∈ xs, x.length ≤ 1048576) (hs : (Kn.int .i64).sl.Sl S H0 (.slice a xs.length c) xs) (hs' : (Kn.int .i64).sl.Sl S H0 (.slice a' xs.length c') xs) :
    Spec Try.prog S H0 25 [familyV m (.slice a xs.length c), familyV m (.slice a' xs.length c')] (fun v => v = .bool true) := by
  refine Spec.of Try.func25 rfl (by kernel_rfl) rfl (fun H hfin hfz => ?_)
  refine KW.cndB rfl rfl (fun h => absurd h (by simp)) (fun h => ?_)
  refine KW.callE rfl rfl rfl rfl rfl (eqInt64SS hl hx (hs.to hfz) (hs'.to hfz)) (fun n' _ => ?_)
  rw [tv_true rfl]
  refine KW.cndB rfl rfl (fun h => absurd h (by decide)) (fun h => ?_)
  exact KW.ret rfl rfl rfl rfl rfl
end
end Go.Proofs.Ytaepgfafbnjccaa.Am
