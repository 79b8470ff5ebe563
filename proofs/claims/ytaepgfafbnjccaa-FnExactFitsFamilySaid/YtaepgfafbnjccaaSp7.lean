/- Contracts: the program's check of families, and the codes. Each holds under its own conditions. -/
import Derived.Test.YtaepgfafbnjccaaSp6
set_option linter.unusedVariables false
set_option maxRecDepth 20000
namespace Go.Proofs.Ytaepgfafbnjccaa.Am
open Go Go.RowKit Go.Proofs
section
variable {S : Ids} {H0 : AH}
def ImpAt (m : Int) (gs : List (List Int)) (i : Nat) : Prop := GrpAt m gs i ∧ ∀ j, j < i → ¬ Sub gs i j ∧ ¬ Sub gs j i
theorem fam_of_imp {m : Int} {gs : List (List Int)} (h1 : 1 ≤ m ∧ m ≤ 7) (h : ∀ i, i < gs.length → ImpAt m gs i) : FamOk m gs :=
  ⟨h1.1, h1.2, fun i hi => (h i hi).1, fun i hi j hj hne => by
    rcases Nat.lt_or_ge j i with hlt | hge
    · exact ((h i hi).2 j hlt).1
    · exact ((h j hj).2 i (by omega)).2⟩
theorem imp_of_fam {m : Int} {gs : List (List Int)} (h : FamOk m gs) (i : Nat) (hi : i < gs.length) : ImpAt m gs i :=
  ⟨h.grp i hi, fun j hj => ⟨h.free i hi j (by omega) (by omega), h.free j (by omega) i hi (by omega)⟩⟩
theorem validFamily (m : Int) {s c} {gs : List (List Int)} (hsm : Sml gs) (hs : (Kn.int .i64).sl.Sl S H0 (.slice s gs.length c) gs) :
    Spec Try.prog S H0 146 [familyV m (.slice s gs.length c)] (fun v => v = .bool (tv (FamOk m gs))) := by
  refine Spec.of Try.func146 rfl (by kernel_rfl) rfl (fun H hfin hfz => ?_)
  have hs := hs.to hfz
  have hgl := hsm.len
  have bad : ¬ FamOk m gs → aout [Value.bool false] = .bool (tv (FamOk m gs)) := fun hx => by rw [tv_false hx]; rfl
  refine KW.callE rfl rfl rfl rfl rfl (within _ _ _) (fun _ _ => ?_)
  refine KW.cndB rfl rfl (fun h1 => KW.ret rfl rfl rfl rfl (bad (fun hc => ?_))) (fun h1 => ?_)
  · have := hc.h1; have := hc.h2; simp at h1; omega
  have h1 : 1 ≤ m ∧ m ≤ 7 := by simpa using h1
  refine KW.lp rfl rfl (fun i : Nat => [(1, .pointer (some ⟨H.n, 0, some 0⟩)), (14, .slice s gs.length c), (15, .int .i64 gs.length), (16, .int .i64 i)]) (fun i => i ≤ gs.length ∧ ∀ j, j < i → ImpAt m gs j) (fun i => gs.length - i) 0 ⟨by omega, fun j h => absurd h (by omega)⟩ ⟨rfl, rfl, rfl, rfl, trivial⟩ (fun i hi b n => ?_)
  obtain ⟨hi, hr⟩ := hi
  refine KW.cnd rfl rfl (fun h => ?_) (fun h => KW.ret rfl rfl rfl rfl ?_)
  · have hil : i < gs.length := by omega
    have bad' : ¬ ImpAt m gs i → aout [Value.bool false] = .bool (tv (FamOk m gs)) := fun hx => bad (fun hc => hx (imp_of_fam hc i hil))
    refine KW.getL hs rfl rfl rfl rfl rfl rfl rfl rfl rfl rfl rfl rfl rfl rfl rfl rfl (by omega) h (fun g ag cg hg hsg => ?_)
    have hg : gs[i]? = some g := hg
    have hgd := getDL_of hg
    refine KW.callE rfl rfl rfl rfl rfl (isGroup _ (by have := hsm.at_ hg; omega) (by omega) hsg) (fun _ _ => ?_)
    refine KW.tstB rfl rfl (fun h2 => ?_) (fun h2 => ?_)
    · refine KW.cndB rfl rfl (fun _ => KW.ret rfl rfl rfl rfl (bad' (fun hx => ?_))) (fun h => absurd h (by decide))
      have := hx.1.1; rw [hgd] at this; rw [tv_true this] at h2; cases h2
    have h2 : Rises 0 (m - 1) g := tv_iff.1 (by simpa using h2)
    have hB : ∀ {j : Nat} {q : List Int}, j ≤ i → gs[j]? = some q → ∀ x ∈ q, 0 ≤ x ∧ x < (m.toNat : Nat) := fun {j q} hj hq => by
      rcases Nat.lt_or_ge j i with hlt | hge
      · have := (hr j hlt).1.1
        rw [getDL_of hq] at this
        exact rises_bound h1.1 this
      · obtain rfl : j = i := by omega
        rw [hg] at hq
        cases hq
        exact rises_bound h1.1 h2
    have hsmall : ∀ {j : Nat} {q : List Int}, j ≤ i → gs[j]? = some q → bitsOf q < 128 := fun {j q} hj hq => by
      have h3 : bitsOf q < 2 ^ 7 := bitsOf_lt (fun x hx => by have := hB hj hq x hx; omega)
      have h4 : (2 : Nat) ^ 7 = 128 := by decide
      omega
    refine KW.tst rfl rfl (fun h3 => ?g1) (fun h3 => ?g2)
    case' g1 =>
      have e2 : IntKind.i64.wrap ((i : Int) - 1) = ((i - 1 : Nat) : Int) := by rw [wr (by omega) (by omega)]; omega
      refine KW.getL hs rfl rfl rfl rfl rfl rfl rfl rfl rfl rfl rfl rfl rfl rfl rfl rfl (by rw [e2]; omega) (by rw [e2]; omega) (fun p ap cp hp hsp => ?_)
      rw [e2] at hp
      have hp : gs[i - 1]? = some p := hp
      have hpd := getDL_of hp
      refine KW.call rfl rfl rfl rfl rfl (slicesCompare (hsm.at_ hp) hsp hsg) (fun v n' _ hv => ?_)
      obtain ⟨r, rfl, hv⟩ := hv
      refine KW.cnd rfl rfl (fun h4 => KW.ret rfl rfl rfl rfl (bad' (fun hx => ?_))) (fun h4 => ?_)
      · have := hx.1.2 (by omega); rw [hgd, hpd] at this; rw [hv.1 h4] at this; cases this
      have hgrp : GrpAt m gs i := ⟨by rw [hgd]; exact h2, fun _ => by
        rw [hgd, hpd]
        cases e : lexB p g with
        | true => rfl
        | false => exact absurd (hv.2 e) h4⟩
      clear hv hp hpd hsp
    case' g2 =>
      refine KW.cndB rfl rfl (fun h => absurd h (by decide)) (fun _ => ?_)
      have hgrp : GrpAt m gs i := ⟨by rw [hgd]; exact h2, fun h => absurd h (by omega)⟩
    all_goals
      refine KW.cutTo hs rfl rfl rfl rfl rfl rfl rfl rfl rfl i rfl (by omega) (by omega) (fun at' ct hst => ?_)
      have htl : (gs.take i).length = i := by simp; omega
      refine KW.lp rfl rfl (fun j : Nat => [(1, .pointer (some ⟨H.n, 0, some 0⟩)), (4, .slice ag g.length cg), (14, .slice s gs.length c), (15, .int .i64 gs.length), (16, .int .i64 i), (44, .slice at' (gs.take i).length ct), (45, .int .i64 (gs.take i).length), (46, .int .i64 j)]) (fun j => j ≤ i ∧ ∀ j', j' < j → ¬ Sub gs i j' ∧ ¬ Sub gs j' i) (fun j => i - j) 0 ⟨by omega, fun j h => absurd h (by omega)⟩ ⟨rfl, rfl, rfl, rfl, rfl, rfl, rfl, rfl, trivial⟩ (fun j hj b n => ?_)
      obtain ⟨hj, hf⟩ := hj
      refine KW.cnd rfl rfl (fun h5 => ?_) (fun h5 => ?_)
      · have hji : j < i := by rw [htl] at h5; omega
        refine KW.getL hst rfl rfl rfl rfl rfl rfl rfl rfl rfl rfl rfl rfl rfl rfl rfl rfl (by omega) h5 (fun q aq cq hq hsq => ?_)
        have hq : gs[j]? = some q := by
          have hq : (gs.take i)[j]? = some q := hq
          rw [List.getElem?_take, if_pos hji] at hq; exact hq
        have hqd := getDL_of hq
        have b1 := hsmall (Nat.le_refl i) hg
        have b2 := hsmall (Nat.le_of_lt hji) hq
        refine KW.callE rfl rfl rfl rfl rfl (crowdOf (m := m.toNat) (by omega) (by have := hsm.at_ hq; omega) (hB (Nat.le_of_lt hji) hq) hsq) (fun _ _ => ?_)
        refine KW.callE rfl rfl rfl rfl rfl (crowdOf (m := m.toNat) (by omega) (by have := hsm.at_ hg; omega) (hB (Nat.le_refl i) hg) hsg) (fun _ _ => ?_)
        refine KW.callE rfl rfl rfl rfl rfl (contains (by omega) (by omega)) (fun _ _ => ?_)
        have s1 : Sub gs i j ↔ bitsOf q &&& bitsOf g = bitsOf g := by unfold Sub; rw [hgd, hqd, Nat.and_comm]
        have s2 : Sub gs j i ↔ bitsOf g &&& bitsOf q = bitsOf q := by unfold Sub; rw [hgd, hqd, Nat.and_comm]
        refine KW.tstB rfl rfl (fun h6 => ?_) (fun h6 => ?_)
        · refine KW.cndB rfl rfl (fun _ => KW.ret rfl rfl rfl rfl (bad' (fun hx => ?_))) (fun h => absurd h (by decide))
          exact (hx.2 j hji).1 (s1.2 (tv_iff.1 h6))
        refine KW.callE rfl rfl rfl rfl rfl (contains (by omega) (by omega)) (fun _ _ => ?_)
        refine KW.cndB rfl rfl (fun h7 => KW.ret rfl rfl rfl rfl (bad' (fun hx => (hx.2 j hji).2 (s2.2 (tv_iff.1 h7))))) (fun h7 => ?_)
        exact KW.nxt rfl rfl (fun H g' => ⟨j + 1, ⟨by omega, upto hf ⟨fun hc => (by rw [tv_true (s1.1 hc)] at h6; cases h6), fun hc => (by rw [tv_true (s2.1 hc)] at h7; cases h7)⟩⟩, by omega, ⟨rfl, rfl, rfl, rfl, rfl, rfl, rfl, congrArg (Value.int .i64) (inc64 (by omega)), trivial⟩, g'⟩)
      · have : j = i := by rw [htl] at h5; omega
        subst this
        exact KW.nxt rfl rfl (fun H g' => ⟨j + 1, ⟨by omega, upto hr ⟨hgrp, hf⟩⟩, by omega, ⟨rfl, rfl, rfl, congrArg (Value.int .i64) (inc64 (by omega)), trivial⟩, g'⟩)
  · rw [tv_true (p := FamOk m gs) (fam_of_imp h1 (fun i' hi' => hr i' (by omega)))]; rfl
/-- The code of a family. -/
noncomputable def codeF (h : Int) (gs : List (List Int)) : Int := if tv (FamOk h gs) = true then (if h > 5 then 3 else if gs.length = 0 then 4 else if (gs.getD 0 []).length = 0 then 4 else 0) else 1
theorem rankedCode (m : Int) {s c} {gs : List (List Int)} (hsm : Sml gs) (hs : (Kn.int .i64).sl.Sl S H0 (.slice s gs.length c) gs) :
    Spec Try.prog S H0 100 [familyV m (.slice s gs.length c)] (fun v => v = .int .i64 (codeF m gs)) := by
  refine Spec.of Try.func100 rfl (by kernel_rfl) rfl (fun H hfin hfz => ?_)
  have hs := hs.to hfz
  refine KW.callE rfl rfl rfl rfl rfl (validFamily m hsm hs) (fun _ _ => ?_)
  refine KW.cndB rfl rfl (fun h1 => KW.ret rfl rfl rfl rfl ?_) (fun h1 => ?_)
  · have h1 : tv (FamOk m gs) = false := by simpa using h1
    unfold codeF; rw [h1]; rfl
  have h1 : tv (FamOk m gs) = true := by simpa using h1
  refine KW.cnd rfl rfl (fun h2 => KW.ret rfl rfl rfl rfl ?_) (fun h2 => ?_)
  · unfold codeF; rw [if_pos h1, if_pos h2]; rfl
  refine KW.tstB rfl rfl (fun h3 => ?_) (fun h3 => ?_)
  · refine KW.cndB rfl rfl (fun _ => KW.ret rfl rfl rfl rfl ?_) (fun h => absurd h (by decide))
    unfold codeF; rw [if_pos h1, if_neg h2, if_pos (by simp at h3; simp [h3])]; rfl
  have h3 : ¬ gs.length = 0 := by simp at h3; simp [h3]
  refine KW.getL hs rfl rfl rfl rfl rfl rfl rfl rfl rfl rfl rfl rfl rfl rfl rfl rfl (by omega) (by omega) (fun g ag cg hg hsg => ?_)
  have hgd : gs.getD 0 [] = g := getDL_of hg
  refine KW.cndB rfl rfl (fun h4 => KW.ret rfl rfl rfl rfl ?_) (fun h4 => KW.ret rfl rfl rfl rfl ?_)
  · unfold codeF; rw [if_pos h1, if_neg h2, if_neg h3, hgd, if_pos (by simp at h4; simp [h4])]; rfl
  · unfold codeF; rw [if_pos h1, if_neg h2, if_neg h3, hgd, if_neg (by simp at h4; simp [h4])]; rfl
theorem l07Family (m : Int) {id : Nat} {ty : TypeId} {rw : Bool} {s c} {gs : List (List Int)} (hsm : Sml gs) (hS : S id) (hm : H0.m id = some ⟨ty, rw, [.int .i64 m, .slice s gs.length c]⟩) (hs : (Kn.int .i64).sl.Sl S H0 (.slice s gs.length c) gs) :
    Spec Try.prog S H0 92 [.pointer (some ⟨id, 0, none⟩)] (fun v => v = .int .i64 (codeF m gs)) := by
  refine Spec.of Try.func92 rfl (by kernel_rfl) rfl (fun H hfin hfz => ?_)
  have hs := hs.to hfz
  have hm := ((hfz id hS).2).trans hm
  have hS : Low H.n id := (hfz id hS).1
  refine KW.ldP hS hm rfl rfl rfl rfl rfl rfl ?_
  refine KW.callE rfl rfl rfl rfl rfl (specValidFamily m hsm hs) (fun _ _ => ?_)
  refine KW.cndB rfl rfl (fun h1 => KW.ret rfl rfl rfl rfl ?_) (fun h1 => ?_)
  · have h1 : tv (FamOk m gs) = false := by simpa using h1
    unfold codeF; rw [h1]; rfl
  have h1 : tv (FamOk m gs) = true := by simpa using h1
  refine KW.ldP hS hm rfl rfl rfl rfl rfl rfl ?_
  refine KW.cnd rfl rfl (fun h2 => KW.ret rfl rfl rfl rfl ?_) (fun h2 => ?_)
  · unfold codeF; rw [if_pos h1, if_pos h2]; rfl
  refine KW.ldP hS hm rfl rfl rfl rfl rfl rfl ?_
  refine KW.tstB rfl rfl (fun h3 => ?_) (fun h3 => ?_)
  · refine KW.cndB rfl rfl (fun _ => KW.ret rfl rfl rfl rfl ?_) (fun h => absurd h (by decide))
    unfold codeF; rw [if_pos h1, if_neg h2, if_pos (by simp at h3; simp [h3])]; rfl
  have h3 : ¬ gs.length = 0 := by simp at h3; simp [h3]
  refine KW.ldP hS hm rfl rfl rfl rfl rfl rfl ?_
  refine KW.getL hs rfl rfl rfl rfl rfl rfl rfl rfl rfl rfl rfl rfl rfl rfl rfl rfl (by omega) (by omega) (fun g ag cg hg hsg => ?_)
  have hgd : gs.getD 0 [] = g := getDL_of hg
  refine KW.cndB rfl rfl (fun h4 => KW.ret rfl rfl rfl rfl ?_) (fun h4 => KW.ret rfl rfl rfl rfl ?_)
  · unfold codeF; rw [if_pos h1, if_neg h2, if_neg h3, hgd, if_pos (by simp at h4; simp [h4])]; rfl
  · unfold codeF; rw [if_pos h1, if_neg h2, if_neg h3, hgd, if_neg (by simp at h4; simp [h4])]; rfl
noncomputable def fitC (m u : Int) (l : List Int) (h : Int) (gs : List (List Int)) : Int := if tv (OkR m u l) = true then (if codeF h gs = 0 then (if m = h then 0 else 2) else codeF h gs) else 1
theorem fitCode (m u h : Int) {a c a' c'} {l : List Int} {gs : List (List Int)} (hl : l.length ≤ 1048576) (hsm : Sml gs) (hs : (Kn.int .i64).Sl S H0 (.slice a l.length c) l) (hs' : (Kn.int .i64).sl.Sl S H0 (.slice a' gs.length c') gs) :
    Spec Try.prog S H0 75 [ranksV m u (.slice a l.length c), familyV h (.slice a' gs.length c')] (fun v => v = .int .i64 (fitC m u l h gs)) := by
  refine Spec.of Try.func75 rfl (by kernel_rfl) rfl (fun H hfin hfz => ?_)
  refine KW.callE rfl rfl rfl rfl rfl (validRanks m u hl (hs.to hfz)) (fun _ _ => ?_)
  refine KW.cndB rfl rfl (fun h1 => KW.ret rfl rfl rfl rfl ?_) (fun h1 => ?_)
  · have h1 : tv (OkR m u l) = false := by simpa using h1
    unfold fitC; rw [h1]; rfl
  have h1 : tv (OkR m u l) = true := by simpa using h1
  refine KW.callE rfl rfl rfl rfl rfl (rankedCode h hsm (hs'.to hfz)) (fun _ _ => ?_)
  refine KW.tstB rfl rfl (fun h2 => ?_) (fun h2 => ?_)
  · have h2 : codeF h gs = 0 := by simpa using h2
    refine KW.cndB rfl rfl (fun h3 => KW.ret rfl rfl rfl rfl ?_) (fun h3 => KW.ret rfl rfl rfl rfl ?_)
    · unfold fitC; rw [if_pos h1, if_pos h2, if_neg (by simpa using h3)]; rfl
    · unfold fitC; rw [if_pos h1, if_pos h2, if_pos (by simpa using h3)]
      show Value.int .i64 (codeF h gs) = _
      rw [h2]
  · have h2 : ¬ codeF h gs = 0 := by simpa using h2
    refine KW.cndB rfl rfl (fun h => absurd h (by decide)) (fun _ => KW.ret rfl rfl rfl rfl ?_)
    unfold fitC; rw [if_pos h1, if_neg h2]; rfl
theorem l07Both (m u h : Int) {id id' : Nat} {ty ty' : TypeId} {rw rw' : Bool} {a c a' c'} {l : List Int} {gs : List (List Int)} (hl : l.length ≤ 1048576) (hsm : Sml gs)
    (hS : S id) (hm : H0.m id = some ⟨ty, rw, [.int .i64 m, .int .i64 u, .slice a l.length c]⟩) (hS' : S id') (hm' : H0.m id' = some ⟨ty', rw', [.int .i64 h, .slice a' gs.length c']⟩) (hs : (Kn.int .i64).Sl S H0 (.slice a l.length c) l) (hs' : (Kn.int .i64).sl.Sl S H0 (.slice a' gs.length c') gs) :
    Spec Try.prog S H0 72 [.pointer (some ⟨id, 0, none⟩), .pointer (some ⟨id', 0, none⟩)] (fun v => v = .int .i64 (fitC m u l h gs)) := by
  refine Spec.of Try.func72 rfl (by kernel_rfl) rfl (fun H hfin hfz => ?_)
  have hs := hs.to hfz
  have hs' := hs'.to hfz
  have hm := ((hfz id hS).2).trans hm
  have hS : Low H.n id := (hfz id hS).1
  have hm' := ((hfz id' hS').2).trans hm'
  have hS' : Low H.n id' := (hfz id' hS').1
  refine KW.callE rfl rfl rfl rfl rfl (l07Ok m u hl hS hm hs) (fun _ _ => ?_)
  refine KW.cndB rfl rfl (fun h1 => KW.ret rfl rfl rfl rfl ?_) (fun h1 => ?_)
  · have h1 : tv (OkR m u l) = false := by simpa using h1
    unfold fitC; rw [h1]; rfl
  have h1 : tv (OkR m u l) = true := by simpa using h1
  refine KW.callE rfl rfl rfl rfl rfl (l07Family h hsm hS' hm' hs') (fun _ _ => ?_)
  refine KW.cndB rfl rfl (fun h2 => KW.ret rfl rfl rfl rfl ?_) (fun h2 => ?_)
  · have h2 : ¬ codeF h gs = 0 := by simpa using h2
    unfold fitC; rw [if_pos h1, if_neg h2]; rfl
  have h2 : codeF h gs = 0 := by simpa using h2
  refine KW.ldP hS hm rfl rfl rfl rfl rfl rfl ?_
  refine KW.ldP hS' hm' rfl rfl rfl rfl rfl rfl ?_
  refine KW.cndB rfl rfl (fun h3 => KW.ret rfl rfl rfl rfl ?_) (fun h3 => KW.ret rfl rfl rfl rfl ?_)
  · unfold fitC; rw [if_pos h1, if_pos h2, if_neg (by simpa using h3)]; rfl
  · unfold fitC; rw [if_pos h1, if_pos h2, if_pos (by simpa using h3)]; rfl
end
end Go.Proofs.Ytaepgfafbnjccaa.Am
