/- Contracts: FitsFamily, of the program and of the reference. Each holds under its own conditions. -/
import Derived.Test.YtaepgfafbnjccaaSp10
set_option linter.unusedVariables false
set_option maxRecDepth 20000
namespace Go.Proofs.Ytaepgfafbnjccaa.Am
open Go Go.RowKit Go.Proofs
/-- What both return. -/
noncomputable def fitsB (m u : Int) (l : List Int) (h : Int) (gs : List (List Int)) : Bool := if fitC m u l h gs = 0 then tv (∀ a, a < l.length → ∀ b, b < l.length → ¬ Mis l u gs a b) else false
noncomputable def fitsV (m u : Int) (l : List Int) (h : Int) (gs : List (List Int)) : Value := .tuple #[.bool (fitsB m u l h gs), .int .i64 (fitC m u l h gs)]
theorem fits_no {m u : Int} {l : List Int} {h : Int} {gs : List (List Int)} (e : ¬ fitC m u l h gs = 0) : fitsV m u l h gs = .tuple #[.bool false, .int .i64 (fitC m u l h gs)] := by unfold fitsV fitsB; rw [if_neg e]
theorem fits_yes {m u : Int} {l : List Int} {h : Int} {gs : List (List Int)} (e : fitC m u l h gs = 0) : fitsV m u l h gs = .tuple #[.bool (tv (∀ a, a < l.length → ∀ b, b < l.length → ¬ Mis l u gs a b)), .int .i64 0] := by unfold fitsV fitsB; rw [if_pos e, e]
theorem fitC_zero {m u : Int} {l : List Int} {h : Int} {gs : List (List Int)} (e : fitC m u l h gs = 0) : OkR m u l ∧ FamOk h gs ∧ m = h := by
  unfold fitC at e
  by_cases h1 : tv (OkR m u l) = true
  · rw [if_pos h1] at e
    by_cases h2 : codeF h gs = 0
    · rw [if_pos h2] at e
      by_cases h3 : m = h
      · refine ⟨tv_iff.1 h1, ?_, h3⟩
        unfold codeF at h2
        by_cases h4 : tv (FamOk h gs) = true
        · exact tv_iff.1 h4
        · rw [if_neg h4] at h2; omega
      · rw [if_neg h3] at e; omega
    · rw [if_neg h2] at e; omega
  · rw [if_neg h1] at e; omega
theorem Fst.none_ {l : List Int} {u : Int} {gs : List (List Int)} {a b : Nat} {f : Bool} (h : Fst l u gs a b f) : (!f) = tv (∀ a, a < l.length → ∀ b, b < l.length → ¬ Mis l u gs a b) := by
  rcases h with ⟨rfl, h1, h2, h3, _⟩ | ⟨rfl, _, _, h4⟩
  · rw [tv_false (fun hc => hc a h1 b h2 h3)]; rfl
  · rw [tv_true h4]; rfl
section
variable {S : Ids} {H0 : AH}
theorem fitsFamily (m u h : Int) {a c a' c'} {l : List Int} {gs : List (List Int)} (hl : l.length ≤ 1048576) (hsm : Sml gs) (hs : (Kn.int .i64).Sl S H0 (.slice a l.length c) l) (hs' : (Kn.int .i64).sl.Sl S H0 (.slice a' gs.length c') gs) :
    Spec Try.prog S H0 23 [ranksV m u (.slice a l.length c), familyV h (.slice a' gs.length c')] (fun v => v = fitsV m u l h gs) := by
  refine Spec.of Try.func23 rfl (by kernel_rfl) rfl (fun H hfin hfz => ?_)
  have hs := hs.to hfz
  have hs' := hs'.to hfz
  refine KW.callE rfl rfl rfl rfl rfl (fitCode m u h hl hsm hs hs') (fun _ _ => ?_)
  refine KW.cndB rfl rfl (fun h1 => KW.ret rfl rfl rfl rfl ?_) (fun h1 => ?_)
  · have h1 : ¬ fitC m u l h gs = 0 := by simpa using h1
    rw [fits_no h1]; rfl
  have h1 : fitC m u l h gs = 0 := by simpa using h1
  obtain ⟨ho, hf, rfl⟩ := fitC_zero h1
  obtain ⟨q, rfl⟩ : ∃ q : Nat, m = q := ⟨m.toNat, by have := hf.h1; omega⟩
  have hq : q ≤ 7 := by have := hf.h2; omega
  refine KW.call rfl rfl rfl rfl rfl (misfit u hq ho.2.1 (by simpa using ho.2.2.1) ho.2.2.2.2.1 hsm (by simpa using hf.below) hs hs') (fun v n' _ hv => ?_)
  obtain ⟨x, y, f, rfl, hv⟩ := hv
  refine KW.ret rfl rfl rfl rfl ?_
  rw [fits_yes h1, ← hv.none_]; rfl
theorem specFitsFamily (m u h : Int) {a c a' c'} {l : List Int} {gs : List (List Int)} (hl : l.length ≤ 1048576) (hsm : Sml gs) (hs : (Kn.int .i64).Sl S H0 (.slice a l.length c) l) (hs' : (Kn.int .i64).sl.Sl S H0 (.slice a' gs.length c') gs) :
    Spec Try.prog S H0 20 [ranksV m u (.slice a l.length c), familyV h (.slice a' gs.length c')] (fun v => v = fitsV m u l h gs) := by
  refine Spec.of Try.func20 rfl (by kernel_rfl) rfl (fun H hfin hfz => ?_)
  have hs := hs.to hfz
  have hs' := hs'.to hfz
  have up : ∀ {H1 : AH} {T : List Var} {n : Nat}, Good (Low H.n) H T n H1 → (Kn.int .i64).Sl (Low H1.n) H1 (.slice a l.length c) l ∧ (Kn.int .i64).sl.Sl (Low H1.n) H1 (.slice a' gs.length c') gs := fun {H1 T n} g =>
    have h1 : ∀ id, Low H.n id → Low H1.n id := fun id hid => by have := (g.froz id hid).1; have := g.n_; show id < H1.n; omega
    ⟨hs.on (fun id hid => (g.froz id hid).2) h1, hs'.on (fun id hid => (g.froz id hid).2) h1⟩
  refine KW.callV rfl rfl rfl rfl rfl (fun H1 g => l07Both m u h hl hsm (g.blk (j := 0) rfl).2 (g.blk (j := 0) rfl).1 (g.blk (j := 1) rfl).2 (g.blk (j := 1) rfl).1 (up g).1 (up g).2) (fun _ _ => ?_)
  refine KW.cndB rfl rfl (fun h1 => KW.ret rfl rfl rfl rfl ?_) (fun h1 => ?_)
  · have h1 : ¬ fitC m u l h gs = 0 := by simpa using h1
    rw [fits_no h1]; rfl
  have h1 : fitC m u l h gs = 0 := by simpa using h1
  obtain ⟨ho, hf, rfl⟩ := fitC_zero h1
  obtain ⟨q, rfl⟩ : ∃ q : Nat, m = q := ⟨m.toNat, by have := hf.h1; omega⟩
  have hq : q ≤ 7 := by have := hf.h2; omega
  refine KW.callMV rfl rfl rfl rfl rfl (fun H1 g => l07Open hq hsm (by simpa using hf.below) (g.blk (j := 1) rfl).2 (g.blk (j := 1) rfl).1 (up g).2) (fun v H2 hn hsame hv => ?_)
  obtain ⟨at', ct, rfl, hv⟩ := hv
  have hll : 2 ^ q = l.length := by have := ho.2.2.1; simp at this; omega
  rw [hll] at hv ⊢
  have low : ∀ {H1 : AH} {S1 : Ids} {T : List Var} {n : Nat}, Good S1 H2 T n H1 → ∀ id, S1 id → Low H1.n id := fun {H1 S1 T n} g id hid => by have := (g.froz id hid).1; have := g.n_; show id < H1.n; omega
  refine KW.callVp rfl rfl rfl rfl rfl (fun H1 g => l07Misfit u hq ho.2.1 hll.symm ho.2.2.2.2.1 (g.blk (j := 0) rfl).2 (g.blk (j := 0) rfl).1
    ((hs.on (S' := fun id => Low H.n id ∨ New _ H2.n id) hsame (fun id hid => .inl hid)).on (fun id hid => (g.froz id hid).2) (low g)) (hv.on (fun id hid => (g.froz id (.inr hid)).2) (fun id hid => low g id (.inr hid)))) (fun v n' _ hv' => ?_)
  obtain ⟨x, y, f, rfl, hv'⟩ := hv'
  refine KW.retM rfl rfl rfl rfl (fun id hid => ⟨.inl hid, hsame id hid⟩) (fun H1 g => ?_)
  rw [fits_yes h1, ← hv'.none_]; rfl
end
end Go.Proofs.Ytaepgfafbnjccaa.Am
