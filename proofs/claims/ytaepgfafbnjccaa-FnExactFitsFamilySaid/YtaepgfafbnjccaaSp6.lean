/- Contracts: valid families. Each holds under its own conditions. -/
import Derived.Test.YtaepgfafbnjccaaSp5
set_option linter.unusedVariables false
set_option maxRecDepth 20000
namespace Go.Proofs.Ytaepgfafbnjccaa.Am
open Go Go.RowKit Go.Proofs
section
variable {S : Ids} {H0 : AH}
theorem Sml.at_ {gs : List (List Int)} (h : Sml gs) {i : Nat} {g : List Int} (hg : gs[i]? = some g) : g.length ≤ 1048576 := h.each g (List.mem_of_getElem? hg)
theorem l01Ok (m : Int) {id : Nat} {ty : TypeId} {rw : Bool} {s c} {gs : List (List Int)} (hsm : Sml gs) (hS : S id) (hm : H0.m id = some ⟨ty, rw, [.int .i64 m, .slice s gs.length c]⟩) (hs : (Kn.int .i64).sl.Sl S H0 (.slice s gs.length c) gs) :
    Spec Try.prog S H0 161 [.pointer (some ⟨id, 0, none⟩)] (fun v => v = .bool (tv (FamOk m gs))) := by
  refine Spec.of Try.func161 rfl (by kernel_rfl) rfl (fun H hfin hfz => ?_)
  have hs := hs.to hfz
  have hm := ((hfz id hS).2).trans hm
  have hS : Low H.n id := (hfz id hS).1
  have hgl := hsm.len
  have bad : ¬ FamOk m gs → aout [Value.bool false] = .bool (tv (FamOk m gs)) := fun hx => by rw [tv_false hx]; rfl
  refine KW.ldP hS hm rfl rfl rfl rfl rfl rfl ?_
  refine KW.callE rfl rfl rfl rfl rfl (l00In _ _ _) (fun _ _ => ?_)
  refine KW.cndB rfl rfl (fun h1 => KW.ret rfl rfl rfl rfl (bad (fun hc => ?_))) (fun h1 => ?_)
  · have := hc.h1; have := hc.h2; simp at h1; omega
  have h1 : 1 ≤ m ∧ m ≤ 7 := by simpa using h1
  refine KW.lp rfl rfl (fun i : Nat => [(0, .pointer (some ⟨id, 0, none⟩)), (3, .int .i64 i)]) (fun i => i ≤ gs.length ∧ ∀ j, j < i → GrpAt m gs j) (fun i => gs.length - i) 0 ⟨by omega, fun j h => absurd h (by omega)⟩ ⟨rfl, rfl, trivial⟩ (fun i hi b n => ?_)
  obtain ⟨hi, hr⟩ := hi
  refine KW.ldP hS hm rfl rfl rfl rfl rfl rfl ?_
  refine KW.cnd rfl rfl (fun h => ?_) (fun h => ?_)
  · have hil : i < gs.length := by omega
    have bad' : ¬ GrpAt m gs i → aout [Value.bool false] = .bool (tv (FamOk m gs)) := fun hx => bad (fun hc => hx (hc.grp i hil))
    refine KW.ldP hS hm rfl rfl rfl rfl rfl rfl ?_
    refine KW.ldP hS hm rfl rfl rfl rfl rfl rfl ?_
    refine KW.getL hs rfl rfl rfl rfl rfl rfl rfl rfl rfl rfl rfl rfl rfl rfl rfl rfl (by omega) h (fun g ag cg hg hsg => ?_)
    have hg : gs[i]? = some g := hg
    have hgd := getDL_of hg
    refine KW.callE rfl rfl rfl rfl rfl (l01Group _ (hsm.at_ hg) (by omega) hsg) (fun _ _ => ?_)
    refine KW.tstB rfl rfl (fun h2 => ?_) (fun h2 => ?_)
    · refine KW.cndB rfl rfl (fun _ => KW.ret rfl rfl rfl rfl (bad' (fun hx => ?_))) (fun h => absurd h (by decide))
      have := hx.1; rw [hgd] at this; rw [tv_true this] at h2; cases h2
    have h2 : Rises 0 (m - 1) g := tv_iff.1 (by simpa using h2)
    refine KW.tst rfl rfl (fun h3 => ?_) (fun h3 => ?_)
    · have e2 : IntKind.i64.wrap ((i : Int) - 1) = ((i - 1 : Nat) : Int) := by rw [wr (by omega) (by omega)]; omega
      refine KW.ldP hS hm rfl rfl rfl rfl rfl rfl ?_
      refine KW.getL hs rfl rfl rfl rfl rfl rfl rfl rfl rfl rfl rfl rfl rfl rfl rfl rfl (by rw [e2]; omega) (by rw [e2]; omega) (fun p ap cp hp hsp => ?_)
      rw [e2] at hp
      have hp : gs[i - 1]? = some p := hp
      have hpd := getDL_of hp
      refine KW.ldP hS hm rfl rfl rfl rfl rfl rfl ?_
      refine KW.getL hs rfl rfl rfl rfl rfl rfl rfl rfl rfl rfl rfl rfl rfl rfl rfl rfl (by omega) h (fun g1 ag1 cg1 hg1 hsg1 => ?_)
      obtain rfl : g = g1 := by have : gs[i]? = some g1 := hg1; rw [hg] at this; cases this; rfl
      refine KW.callE rfl rfl rfl rfl rfl (l01Before (hsm.at_ hp) hsp hsg1) (fun _ _ => ?_)
      refine KW.cndB rfl rfl (fun h4 => KW.ret rfl rfl rfl rfl (bad' (fun hx => ?_))) (fun h4 => ?_)
      · have := hx.2 (by omega); rw [hgd, hpd] at this; rw [this] at h4; cases h4
      · exact KW.nxt rfl rfl (fun H g' => ⟨i + 1, ⟨by omega, upto hr ⟨by rw [hgd]; exact h2, fun _ => by rw [hgd, hpd]; simpa using h4⟩⟩, by omega, ⟨rfl, congrArg (Value.int .i64) (inc64 (by omega)), trivial⟩, g'⟩)
    · refine KW.cndB rfl rfl (fun h => absurd h (by decide)) (fun _ => ?_)
      exact KW.nxt rfl rfl (fun H g' => ⟨i + 1, ⟨by omega, upto hr ⟨by rw [hgd]; exact h2, fun h => absurd h (by omega)⟩⟩, by omega, ⟨rfl, congrArg (Value.int .i64) (inc64 (by omega)), trivial⟩, g'⟩)
  have hG : ∀ j, j < gs.length → GrpAt m gs j := fun j hj => hr j (by omega)
  have hB : ∀ {j : Nat} {g : List Int}, gs[j]? = some g → ∀ x ∈ g, 0 ≤ x ∧ x < (m.toNat : Nat) := fun {j g} hj => by
    have := (hG j (List.getElem?_eq_some_iff.1 hj).1).1
    rw [getDL_of hj] at this
    exact rises_bound h1.1 this
  refine KW.lp rfl rfl (fun i : Nat => [(0, .pointer (some ⟨id, 0, none⟩)), (4, .int .i64 i)]) (fun i => i ≤ gs.length ∧ ∀ i', i' < i → ∀ j, j < gs.length → i' ≠ j → ¬ Sub gs i' j) (fun i => gs.length - i) 0 ⟨by omega, fun j h => absurd h (by omega)⟩ ⟨rfl, rfl, trivial⟩ (fun i hi b n => ?_)
  obtain ⟨hi, hf⟩ := hi
  refine KW.ldP hS hm rfl rfl rfl rfl rfl rfl ?_
  refine KW.cnd rfl rfl (fun h => ?_) (fun h => KW.ret rfl rfl rfl rfl ?_)
  · have hil : i < gs.length := by omega
    refine KW.lp rfl rfl (fun j : Nat => [(0, .pointer (some ⟨id, 0, none⟩)), (4, .int .i64 i), (5, .int .i64 j)]) (fun j => j ≤ gs.length ∧ ∀ j', j' < j → i ≠ j' → ¬ Sub gs i j') (fun j => gs.length - j) 0 ⟨by omega, fun j h => absurd h (by omega)⟩ ⟨rfl, rfl, rfl, trivial⟩ (fun j hj b n => ?_)
    obtain ⟨hj, hf2⟩ := hj
    refine KW.ldP hS hm rfl rfl rfl rfl rfl rfl ?_
    refine KW.cnd rfl rfl (fun h => ?_) (fun h => ?_)
    · have hjl : j < gs.length := by omega
      refine KW.tstB rfl rfl (fun h2 => ?_) (fun h2 => ?_)
      · have hne : i ≠ j := by intro e; subst e; simp at h2
        refine KW.ldP hS hm rfl rfl rfl rfl rfl rfl ?_
        refine KW.getL hs rfl rfl rfl rfl rfl rfl rfl rfl rfl rfl rfl rfl rfl rfl rfl rfl (by omega) (by omega) (fun g ag cg hg hsg => ?_)
        have hg : gs[i]? = some g := hg
        refine KW.ldP hS hm rfl rfl rfl rfl rfl rfl ?_
        refine KW.getL hs rfl rfl rfl rfl rfl rfl rfl rfl rfl rfl rfl rfl rfl rfl rfl rfl (by omega) (by omega) (fun q aq cq hq hsq => ?_)
        have hq : gs[j]? = some q := hq
        have hsub : Sub gs i j ↔ bitsOf g &&& bitsOf q = bitsOf g := by unfold Sub; rw [getDL_of hg, getDL_of hq]
        refine KW.callE rfl rfl rfl rfl rfl (l01Within (m := m.toNat) (by omega) (hsm.at_ hg) (hsm.at_ hq) (hB hg) (hB hq) hsg hsq) (fun _ _ => ?_)
        refine KW.cndB rfl rfl (fun h4 => KW.ret rfl rfl rfl rfl (bad (fun hx => hx.free i hil j hjl hne (hsub.2 (tv_iff.1 h4))))) (fun h4 => ?_)
        exact KW.nxt rfl rfl (fun H g' => ⟨j + 1, ⟨by omega, upto hf2 (fun _ hc => by rw [tv_true (hsub.1 hc)] at h4; cases h4)⟩, by omega, ⟨rfl, rfl, congrArg (Value.int .i64) (inc64 (by omega)), trivial⟩, g'⟩)
      · refine KW.cndB rfl rfl (fun h => absurd h (by decide)) (fun _ => ?_)
        exact KW.nxt rfl rfl (fun H g' => ⟨j + 1, ⟨by omega, upto hf2 (fun hne => absurd (by simp at h2; omega) hne)⟩, by omega, ⟨rfl, rfl, congrArg (Value.int .i64) (inc64 (by omega)), trivial⟩, g'⟩)
    · exact KW.nxt rfl rfl (fun H g' => ⟨i + 1, ⟨by omega, upto hf (fun j' hj' => hf2 j' (by omega))⟩, by omega, ⟨rfl, congrArg (Value.int .i64) (inc64 (by omega)), trivial⟩, g'⟩)
  · rw [tv_true (p := FamOk m gs) ⟨h1.1, h1.2, hG, fun i' hi' => hf i' (by omega)⟩]; rfl
theorem specValidFamily (m : Int) {s c} {gs : List (List Int)} (hsm : Sml gs) (hs : (Kn.int .i64).sl.Sl S H0 (.slice s gs.length c) gs) :
    Spec Try.prog S H0 143 [familyV m (.slice s gs.length c)] (fun v => v = .bool (tv (FamOk m gs))) := by
  refine Spec.of Try.func143 rfl (by kernel_rfl) rfl (fun H hfin hfz => ?_)
  refine KW.callV rfl rfl rfl rfl rfl (fun H1 g => l01Ok m hsm (g.blk (j := 0) rfl).2 (g.blk (j := 0) rfl).1 ((hs.to hfz).on (fun id hid => (g.froz id hid).2) (fun id hid => by have := (g.froz id hid).1; have := g.n_; show id < H1.n; omega))) (fun _ _ => ?_)
  exact KW.ret rfl rfl rfl rfl rfl
end
end Go.Proofs.Ytaepgfafbnjccaa.Am
