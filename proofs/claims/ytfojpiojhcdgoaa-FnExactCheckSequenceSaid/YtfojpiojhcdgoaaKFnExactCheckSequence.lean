/- The law FnExactCheckSequence is proved: it holds for all arguments. No condition. -/
import Derived.SizedLaws
import Derived.ChangeSlices
import Derived.ChangeArms
import Derived.Deep.Slices
import Derived.Test.YtfojpiojhcdgoaaRows
import Derived.WalkKit
import Derived.ProofKit
import Derived.OpenShut
import Derived.ShutString
import Derived.ChangeOld
import Derived.Below
import Derived.Test.YtfojpiojhcdgoaaKFnExactCheckSequence15
import Derived.Test.YtfojpiojhcdgoaaKFnExactCheckSequence13
import Derived.Test.YtfojpiojhcdgoaaKFnExactCheckSequence05
import Derived.Test.YtfojpiojhcdgoaaKFnExactCheckSequence14
import Derived.Test.YtfojpiojhcdgoaaKFnExactCheckSequence00
section
namespace Go.Proofs.Ytfojpiojhcdgoaa.Pl
open Go.RowKit Go.Proofs.YtfojpiojhcdgoaaW.PrintWords Go.Proofs.YtfojpiojhcdgoaaW.PrintLast Go.Proofs.YtfojpiojhcdgoaaW.PrintMore
set_option linter.unusedVariables false
set_option linter.unusedSectionVars false
theorem hasAll_mono {gs : List (List Int)} {a b i : Nat} (h : a &&& b = a) (ha : HasAll gs a i) : HasAll gs b i := by
  unfold HasAll at *
  generalize bitsOf (gs.getD i []) = g at *
  rw [← ha, ← Nat.and_assoc, Nat.and_comm b a, h]
theorem opens_mono {gs : List (List Int)} {a b : Nat} (h : a &&& b = a) (ha : Opens gs a) : Opens gs b := by
  obtain ⟨i, hi, hh⟩ := ha
  exact ⟨i, hi, hasAll_mono h hh⟩
theorem bitsOf_ne {g : List Int} (h : g.length ≠ 0) : bitsOf g ≠ 0 := fun e => by
  have hb := bits_take g (g.length - 1) (by omega)
  rw [show g.length - 1 + 1 = g.length by omega, List.take_length, e] at hb
  have := (Nat.or_eq_zero_iff.1 hb.symm).2
  have hp := Nat.two_pow_pos (g.getD (g.length - 1) 0).toNat
  omega
theorem opens_zero {h : Int} {gs : List (List Int)} (hr : Ranked h gs) : ¬ Opens gs 0 := by
  rintro ⟨i, hi, hh⟩
  unfold HasAll at hh
  rw [Nat.zero_and] at hh
  by_cases c : i = 0
  · subst c
    exact bitsOf_ne hr.full hh.symm
  · refine hr.fam.free i hi 0 (by have := hr.some; omega) c ?_
    unfold Sub
    rw [← hh, Nat.zero_and]
def numsOf (l : List (List Int)) : List Int := l.map (fun g => ((bitsOf g : Nat) : Int))
theorem numsOf_len (l : List (List Int)) : (numsOf l).length = l.length := by simp [numsOf]
theorem rd_nums {l : List (List Int)} {i : Nat} (hi : i < l.length) : rd (numsOf l) (i : Int) = ((bitsOf (l.getD i []) : Nat) : Int) := by
  rw [rd_nat]
  unfold numsOf
  simp [List.getD_eq_getElem?_getD, List.getElem?_eq_getElem hi]
section
variable {h : Int} (h1 : 1 ≤ h) (h2 : h ≤ 7)
include h1 h2
theorem grp_lt {l : List (List Int)} (hg : Grps h l) {i : Nat} (hi : i < l.length) : bitsOf (l.getD i []) < 2 ^ h.toNat :=
  bitsOf_lt (fun x hx => by have := rises_bound h1 h2 (hg i hi) x hx; omega)
theorem numbers_ev {l : List (List Int)} (hg : Grps h l) (hs : Small l) : Ev (fun k => F.spec_l07Numbers.f k l) (numsOf l) := by
  have hn := hs.1
  unfold F.spec_l07Numbers.f
  have L := ev_down l.length (fun k i => F.spec_l07Numbers.l0 k l (numsOf (l.take i)) (i : Int)) (numsOf l) ?_ ?_ l.length 0 (by omega)
  · exact L
  · refine ev_succ (fun k => ?_)
    simp only [F.spec_l07Numbers.l0]
    rw [if_neg (by omega), List.take_length]
  · intro i hi e
    have hti : (l.take i).length = i := by rw [List.length_take]; omega
    refine Ev.step (fun k => ?_) (Ev.bind (f := fun k t => F.spec_l07Numbers.l0 k l (numsOf (l.take i) ++ [t]) ((i + 1 : Nat) : Int)) (l07Bits_ev (m := h.toNat) (by omega) (rises_bound h1 h2 (hg i hi)) (by have := hs.2 i hi; omega)) ?_)
    · simp only [F.spec_l07Numbers.l0, rd_L1_nat, numsOf_len, hti]
      rw [if_pos (by omega), if_pos (by omega), w64 (by omega) (by omega)]
      simp only [if_pos (show i < 17592186044416 by omega)]
      rfl
    · have e2 : numsOf (l.take (i + 1)) = numsOf (l.take i) ++ [((bitsOf (l.getD i []) : Nat) : Int)] := by
        rw [← List.take_append_getElem hi, List.getD_eq_getElem?_getD, List.getElem?_eq_getElem hi]
        simp only [numsOf, List.map_append, List.map_cons, List.map_nil, Option.getD_some]
      rw [e2] at e
      exact e
end
def numAt (l : List (List Int)) (i : Nat) : Nat := bitsOf (l.getD i [])
def prevAt (l : List (List Int)) (i : Nat) : Nat := if i = 0 then 0 else bitsOf (l.getD (i - 1) [])
def ChAt (K : Nat) (c : List (List Int)) (i : Nat) : Prop := numAt c i ≠ prevAt c i ∧ numAt c i &&& prevAt c i = prevAt c i ∧ numAt c i &&& K = 0
def StAt (gs : List (List Int)) (K : Nat) (c w : List (List Int)) (i : Nat) : Prop := numAt w i &&& K = numAt w i ∧ Opens gs (numAt c i ||| numAt w i) ∧ ¬ Opens gs (prevAt c i ||| numAt w i)
def SeqOk (gs : List (List Int)) (K : Nat) (c w : List (List Int)) : Prop := ∀ i, i < c.length → ChAt K c i ∧ ¬ Opens gs (numAt c i) ∧ StAt gs K c w i
noncomputable def seqB (gs : List (List Int)) (K : Nat) (c w : List (List Int)) : Bool := @decide (SeqOk gs K c w) (Classical.propDecidable _)
theorem seqB_iff {gs : List (List Int)} {K : Nat} {c w : List (List Int)} : seqB gs K c w = true ↔ SeqOk gs K c w := by unfold seqB; exact @decide_eq_true_iff _ (Classical.propDecidable _)
theorem prev_succ (c : List (List Int)) (i : Nat) : prevAt c (i + 1) = numAt c i := by
  unfold prevAt numAt
  rw [if_neg (by omega)]
  simp
theorem chain_end {gs : List (List Int)} {K : Nat} {c : List (List Int)} (hc : ∀ i, i < c.length → ChAt K c i) (he : ¬ Opens gs (prevAt c c.length)) : ∀ i, i < c.length → ¬ Opens gs (numAt c i) := by
  have key : ∀ d i, i + d = c.length → ¬ Opens gs (prevAt c i) := by
    intro d
    induction d with
    | zero => intro i hi; rw [show i = c.length by omega]; exact he
    | succ d ih =>
      intro i hi ho
      have h1 := (hc i (by omega)).2.1
      rw [Nat.and_comm] at h1
      refine ih (i + 1) (by omega) ?_
      rw [prev_succ]
      exact opens_mono h1 ho
  intro i hi
  rw [← prev_succ]
  exact key (c.length - (i + 1)) (i + 1) (by omega)
theorem seq_split {h : Int} {gs : List (List Int)} (hr : Ranked h gs) (K : Nat) (c w : List (List Int)) : SeqOk gs K c w ↔ ((∀ i, i < c.length → ChAt K c i) ∧ ¬ Opens gs (prevAt c c.length)) ∧ ∀ i, i < c.length → StAt gs K c w i := by
  constructor
  · intro hs
    refine ⟨⟨fun i hi => (hs i hi).1, ?_⟩, fun i hi => (hs i hi).2.2⟩
    by_cases e : c.length = 0
    · rw [e]; exact opens_zero hr
    · have := (hs (c.length - 1) (by omega)).2.1
      rw [← prev_succ, show c.length - 1 + 1 = c.length by omega] at this
      exact this
  · rintro ⟨⟨h1, h2⟩, h3⟩ i hi
    exact ⟨h1 i hi, chain_end h1 h2 i hi, h3 i hi⟩
section
variable {h : Int} {gs : List (List Int)} (hr : Ranked h gs) (hs : Short gs) {K : Nat} (hK : K < 2 ^ h.toNat)
include hr hs hK
theorem tab_at (c : Nat) (hc : c < 2 ^ h.toNat) : rdOf false (tabO h gs) ((c : Nat) : Int) = opensB gs c := by
  rw [rdOf_nat, tabO_get h gs c hc]
theorem prev_lt {c : List (List Int)} (hc : Grps h c) {i : Nat} (hi : i ≤ c.length) : prevAt c i < 2 ^ h.toNat := by
  unfold prevAt
  by_cases e : i = 0
  · rw [if_pos e]; exact Nat.two_pow_pos _
  · rw [if_neg e]; exact grp_lt hr.fam.h1 hr.fam.h2 hc (by omega)
theorem chain_ev {c : List (List Int)} (hc : Grps h c) (hcs : Small c) :
    (((∀ i, i < c.length → ChAt K c i) ∧ ¬ Opens gs (prevAt c c.length)) → Ev (fun k => F.spec_l07Chain.f k (tabO h gs) (K : Int) (numsOf c)) true) ∧
    (¬ ((∀ i, i < c.length → ChAt K c i) ∧ ¬ Opens gs (prevAt c c.length)) → Ev (fun k => F.spec_l07Chain.f k (tabO h gs) (K : Int) (numsOf c)) false) := by
  have hn := hcs.1
  have hp := pow_h hr.fam.h1 hr.fam.h2
  unfold F.spec_l07Chain.f
  have key : ∀ i, i < c.length → (ChAt K c i → ∀ r, Ev (fun k => F.spec_l07Chain.l0 k (tabO h gs) (K : Int) (numsOf c) ((prevAt c (i + 1) : Nat) : Int) ((i + 1 : Nat) : Int)) r → Ev (fun k => F.spec_l07Chain.l0 k (tabO h gs) (K : Int) (numsOf c) ((prevAt c i : Nat) : Int) (i : Int)) r) ∧ (¬ ChAt K c i → Ev (fun k => F.spec_l07Chain.l0 k (tabO h gs) (K : Int) (numsOf c) ((prevAt c i : Nat) : Int) (i : Int)) false) := by
    intro i hi
    have b1 := grp_lt hr.fam.h1 hr.fam.h2 hc hi
    have b2 := prev_lt hr hs hK hc (show i ≤ c.length by omega)
    have en : bitsOf (c.getD i []) = numAt c i := rfl
    rw [en] at b1
    have a1 : Go.bits .and .i64 ((numAt c i : Nat) : Int) ((prevAt c i : Nat) : Int) = ((numAt c i &&& prevAt c i : Nat) : Int) := and_i64 (by omega) (by omega)
    have a2 : Go.bits .and .i64 ((numAt c i : Nat) : Int) (K : Int) = ((numAt c i &&& K : Nat) : Int) := and_i64 (by omega) (by omega)
    have c1 : ((numAt c i : Nat) : Int) = ((prevAt c i : Nat) : Int) ↔ numAt c i = prevAt c i := Int.ofNat_inj
    have c2 : ((numAt c i &&& prevAt c i : Nat) : Int) = ((prevAt c i : Nat) : Int) ↔ numAt c i &&& prevAt c i = prevAt c i := Int.ofNat_inj
    have c3 : ((numAt c i &&& K : Nat) : Int) = 0 ↔ numAt c i &&& K = 0 := by
      rw [show (0 : Int) = ((0 : Nat) : Int) from rfl]; exact Int.ofNat_inj
    have go : ∀ r, Ev (fun k => if numAt c i = prevAt c i then some false else if numAt c i &&& prevAt c i = prevAt c i then (if numAt c i &&& K = 0 then F.spec_l07Chain.l0 k (tabO h gs) (K : Int) (numsOf c) ((numAt c i : Nat) : Int) ((i + 1 : Nat) : Int) else some false) else some false) r → Ev (fun k => F.spec_l07Chain.l0 k (tabO h gs) (K : Int) (numsOf c) ((prevAt c i : Nat) : Int) (i : Int)) r := fun r e => by
      refine Ev.step (fun k => ?_) e
      simp only [F.spec_l07Chain.l0, rd_nums hi, en, a1, a2, c1, c2, c3, numsOf_len]
      rw [if_pos (by omega), if_pos (by omega), w64 (by omega) (by omega)]
      rfl
    unfold ChAt
    refine ⟨fun hP r e => go r ?_, fun hP => go false ?_⟩
    · simp only [if_neg hP.1, if_pos hP.2.1, if_pos hP.2.2]
      rw [prev_succ] at e
      exact e
    · by_cases d1 : numAt c i = prevAt c i
      · simp only [if_pos d1]; exact Ev.now _
      · simp only [if_neg d1]
        by_cases d2 : numAt c i &&& prevAt c i = prevAt c i
        · simp only [if_pos d2]
          by_cases d3 : numAt c i &&& K = 0
          · exact absurd ⟨d1, d2, d3⟩ hP
          · simp only [if_neg d3]; exact Ev.now _
        · simp only [if_neg d2]; exact Ev.now _
  have fin : Ev (fun k => F.spec_l07Chain.l0 k (tabO h gs) (K : Int) (numsOf c) ((prevAt c c.length : Nat) : Int) (c.length : Int)) (!(opensB gs (prevAt c c.length))) := by
    have b2 := prev_lt hr hs hK hc (Nat.le_refl c.length)
    refine ev_succ (fun k => ?_)
    simp only [F.spec_l07Chain.l0, tab_at hr hs hK _ b2, tabO_len, numsOf_len]
    rw [if_neg (by omega), if_pos (by omega), if_pos (by omega)]
  have L := fun (b : Bool) (hb : (∀ i, i < c.length → ChAt K c i) → (!(opensB gs (prevAt c c.length))) = b) => ev_loop c.length (fun k i => F.spec_l07Chain.l0 k (tabO h gs) (K : Int) (numsOf c) ((prevAt c i : Nat) : Int) (i : Int)) (ChAt K c) b false (fun i hi _ hp => (key i hi).1 hp) (fun i hi _ hp => (key i hi).2 hp) (fun hA => by rw [hb hA] at fin; exact fin)
  have z : ((prevAt c 0 : Nat) : Int) = 0 := rfl
  constructor
  · rintro ⟨hA, hO⟩
    have := (L true (fun _ => by rw [opensB_false hO]; rfl)).1 hA
    exact this
  · intro hN
    by_cases hA : ∀ i, i < c.length → ChAt K c i
    · have hO : Opens gs (prevAt c c.length) := Classical.byContradiction (fun hx => hN ⟨hA, hx⟩)
      exact (L false (fun _ => by rw [opensB_iff.2 hO]; rfl)).1 hA
    · exact (L true (fun hA' => absurd hA' hA)).2 hA
theorem right_eq {c w : List (List Int)} (hc : Grps h c) (hw : Grps h w) {i : Nat} (hi : i < c.length) (hiw : i < w.length) (hcs : Small c) :
    F.spec_l07Right.f (tabO h gs) (numsOf c) (i : Int) ((numAt w i : Nat) : Int) = some (opensB gs (numAt c i ||| numAt w i) && !(opensB gs (prevAt c i ||| numAt w i))) := by
  have hn := hcs.1
  have hp := pow_h hr.fam.h1 hr.fam.h2
  have b1 : numAt c i < 2 ^ h.toNat := grp_lt hr.fam.h1 hr.fam.h2 hc hi
  have b2 := prev_lt hr hs hK hc (show i ≤ c.length by omega)
  have b3 : numAt w i < 2 ^ h.toNat := grp_lt hr.fam.h1 hr.fam.h2 hw hiw
  have o1 := Nat.or_lt_two_pow b1 b3
  have o2 := Nat.or_lt_two_pow b2 b3
  have a1 : Go.bits .or .i64 ((numAt c i : Nat) : Int) ((numAt w i : Nat) : Int) = ((numAt c i ||| numAt w i : Nat) : Int) := or_i64 (by omega) (by omega)
  have a2 : Go.bits .or .i64 ((prevAt c i : Nat) : Int) ((numAt w i : Nat) : Int) = ((prevAt c i ||| numAt w i : Nat) : Int) := or_i64 (by omega) (by omega)
  have en : bitsOf (c.getD i []) = numAt c i := rfl
  have t1 := tab_at hr hs hK _ o1
  have t2 := tab_at hr hs hK _ o2
  unfold F.spec_l07Right.f
  by_cases z : i = 0
  · subst z
    have pz : prevAt c 0 = 0 := rfl
    rw [pz] at a2 o2 t2 ⊢
    simp only [rd_nums hi, en, a1, tabO_len, numsOf_len, t1]
    have a2' : Go.bits .or .i64 0 ((numAt w 0 : Nat) : Int) = ((0 ||| numAt w 0 : Nat) : Int) := a2
    rw [a2', t2]
    generalize 0 ||| numAt w 0 = p at *
    generalize numAt c 0 ||| numAt w 0 = q at *
    rw [if_neg (by omega), if_pos (by omega), if_pos (by omega), if_pos (by omega), if_pos (by omega)]
    by_cases q1 : opensB gs q = true
    · rw [if_pos q1, if_pos (by omega), if_pos (by omega), q1]; rfl
    · rw [if_neg q1, Bool.eq_false_iff.2 q1]; rfl
  · have ep : wrap64 ((i : Int) - 1) = ((i - 1 : Nat) : Int) := by rw [w64 (by omega) (by omega)]; omega
    have e2 : bitsOf (c.getD (i - 1) []) = prevAt c i := by unfold prevAt; rw [if_neg z]
    simp only [rd_nums hi, en, a1, tabO_len, numsOf_len, t1, ep, rd_nums (show i - 1 < c.length by omega), e2, a2, t2]
    generalize prevAt c i ||| numAt w i = p at *
    generalize numAt c i ||| numAt w i = q at *
    rw [if_pos (by omega), if_pos (by omega), if_pos (by omega), if_pos (by omega), if_pos (by omega), if_pos (by omega), if_pos (by omega)]
    by_cases q1 : opensB gs q = true
    · rw [if_pos q1, if_pos (by omega), if_pos (by omega), q1]; rfl
    · rw [if_neg q1, Bool.eq_false_iff.2 q1]; rfl
theorem worth_eq (n : Nat) (hn : n ≤ 5864062014634) : F.spec_l07Worth.f (tabO h gs) (K : Int) (n : Int) = some (if opensB gs K = true then (n : Int) + 1 else (n : Int)) := by
  unfold F.spec_l07Worth.f
  rw [tab_at hr hs hK K hK, tabO_len, if_pos (by omega), if_pos (by omega), w64 (by omega) (by omega)]
  by_cases c : opensB gs K = true
  · rw [if_pos c, if_pos c]
  · rw [if_neg c, if_neg c]
theorem number_ev (hK7 : K < 128) (n : Nat) (hn : n ≤ 5864062014634) : Ev (fun k => F.impl_Family_number.f k h gs (K : Int) (n : Int)) (if opensB gs K = true then (n : Int) + 1 else (n : Int)) := by
  unfold F.impl_Family_number.f
  refine Ev.bind (opens_ev hr.fam hs K hK7) ?_
  rw [w64 (by omega) (by omega)]
  by_cases c : opensB gs K = true
  · simp only [if_pos c]; exact Ev.now _
  · simp only [if_neg c]; exact Ev.now _
end
end Go.Proofs.Ytfojpiojhcdgoaa.Pl
end
section
namespace Go.Proofs.Ytfojpiojhcdgoaa.Pure
open Go.RowKit Go.Proofs.YtfojpiojhcdgoaaW.PrintWords Go.Proofs.YtfojpiojhcdgoaaW.PrintLast Go.Proofs.YtfojpiojhcdgoaaW.PrintMore Go.Proofs.Ytfojpiojhcdgoaa.F Go.Proofs.Ytfojpiojhcdgoaa.Pl
set_option linter.unusedVariables false
set_option linter.unusedSectionVars false
set_option linter.unusedSimpArgs false
noncomputable def checkSeq (h : Int) (gs : List (List Int)) (g : List Int) (c w : List (List Int)) : Int × Int :=
  if codeF h gs = 0 then
    (if risesB 0 (h - 1) g = true ∧ grpsB h c = true ∧ grpsB h w = true ∧ c.length = w.length then
      (if seqB gs (bitsOf g) c w = true then (if opensB gs (bitsOf g) = true then (c.length : Int) + 1 else (c.length : Int), 0) else (0, 8))
    else (0, 2))
  else (0, codeF h gs)
section
variable {h : Int} {gs : List (List Int)} {g : List Int} {c w : List (List Int)} (hr : Ranked h gs) (hs : Short gs) (hg : Rises 0 (h - 1) g) (hgl : g.length ≤ 17592186043904) (hc : Grps h c) (hw : Grps h w) (hcs : Small c) (hws : Small w) (hl : c.length = w.length)
include hr hs hg hgl hc hw hcs hws hl
theorem known_lt : bitsOf g < 2 ^ h.toNat := bitsOf_lt (fun x hx => by have := rises_bound hr.fam.h1 hr.fam.h2 hg x hx; omega)
theorem spec_steps :
    ((∀ i, i < c.length → StAt gs (bitsOf g) c w i) → Ev (fun k => F.spec_CheckSequence.l0 k (tabO h gs) ((bitsOf g : Nat) : Int) (numsOf c) (numsOf w) ((0 : Nat) : Int)) (if opensB gs (bitsOf g) = true then (c.length : Int) + 1 else (c.length : Int), 0)) ∧
    (¬ (∀ i, i < c.length → StAt gs (bitsOf g) c w i) → Ev (fun k => F.spec_CheckSequence.l0 k (tabO h gs) ((bitsOf g : Nat) : Int) (numsOf c) (numsOf w) ((0 : Nat) : Int)) ((0 : Int), (8 : Int))) := by
  have hn := hcs.1
  have hp := pow_h hr.fam.h1 hr.fam.h2
  have hK := known_lt hr hs hg hgl hc hw hcs hws hl
  have key : ∀ i, i < c.length → ∀ r, Ev (fun k => if numAt w i &&& bitsOf g = numAt w i then (if (opensB gs (numAt c i ||| numAt w i) && !(opensB gs (prevAt c i ||| numAt w i))) = true then F.spec_CheckSequence.l0 k (tabO h gs) ((bitsOf g : Nat) : Int) (numsOf c) (numsOf w) ((i + 1 : Nat) : Int) else some (0, 8)) else some (0, 8)) r → Ev (fun k => F.spec_CheckSequence.l0 k (tabO h gs) ((bitsOf g : Nat) : Int) (numsOf c) (numsOf w) (i : Int)) r := fun i hi r e => by
    have b3 : numAt w i < 2 ^ h.toNat := grp_lt hr.fam.h1 hr.fam.h2 hw (by omega)
    have en : bitsOf (w.getD i []) = numAt w i := rfl
    have a1 : Go.bits .and .i64 ((numAt w i : Nat) : Int) ((bitsOf g : Nat) : Int) = ((numAt w i &&& bitsOf g : Nat) : Int) := and_i64 (by omega) (by omega)
    have c1 : ((numAt w i &&& bitsOf g : Nat) : Int) = ((numAt w i : Nat) : Int) ↔ numAt w i &&& bitsOf g = numAt w i := Int.ofNat_inj
    refine Ev.step (fun k => ?_) e
    simp only [F.spec_CheckSequence.l0, rd_nums (show i < w.length by omega), en, a1, c1, numsOf_len, right_eq hr hs hK hc hw hi (show i < w.length by omega) hcs, Option.bind_some]
    rw [if_pos (by omega), if_pos (by omega), w64 (by omega) (by omega)]
    rfl
  refine ev_loop c.length (fun k i => F.spec_CheckSequence.l0 k (tabO h gs) ((bitsOf g : Nat) : Int) (numsOf c) (numsOf w) (i : Int)) (StAt gs (bitsOf g) c w) _ _ (fun i hi _ hP r e => key i hi r ?_) (fun i hi _ hP => key i hi _ ?_) (fun _ => ?_)
  · simp only [if_pos hP.1, opensB_iff.2 hP.2.1, opensB_false hP.2.2, Bool.not_false, Bool.and_self, if_true]
    exact e
  · by_cases d1 : numAt w i &&& bitsOf g = numAt w i
    · simp only [if_pos d1]
      have : (opensB gs (numAt c i ||| numAt w i) && !(opensB gs (prevAt c i ||| numAt w i))) = false := by
        cases q1 : opensB gs (numAt c i ||| numAt w i) with
        | false => rfl
        | true =>
          cases q2 : opensB gs (prevAt c i ||| numAt w i) with
          | true => rfl
          | false => exact absurd ⟨d1, opensB_iff.1 q1, fun ho => by rw [opensB_iff.2 ho] at q2; cases q2⟩ hP
      simp only [this, Bool.false_eq_true, if_false]
      exact Ev.now _
    · simp only [if_neg d1]; exact Ev.now _
  · refine ev_succ (fun k => ?_)
    simp only [F.spec_CheckSequence.l0, numsOf_len, worth_eq hr hs hK c.length hn, Option.bind_some]
    rw [if_neg (by omega)]
open Classical in
theorem impl_steps : Ev (fun k => F.impl_CheckSequence.l0 k ((bitsOf g : Nat) : Int) 0 c (c.length : Int) 0 h gs g c w) (if seqB gs (bitsOf g) c w = true then (if opensB gs (bitsOf g) = true then (c.length : Int) + 1 else (c.length : Int), 0) else (0, 8)) := by
  have hn := hcs.1
  have hp := pow_h hr.fam.h1 hr.fam.h2
  have hK := known_lt hr hs hg hgl hc hw hcs hws hl
  have key : ∀ i, i < c.length → ∀ r, Ev (fun k => if ChAt (bitsOf g) c i ∧ ¬ Opens gs (numAt c i) ∧ StAt gs (bitsOf g) c w i then F.impl_CheckSequence.l0 k ((bitsOf g : Nat) : Int) ((prevAt c (i + 1) : Nat) : Int) c (c.length : Int) ((i + 1 : Nat) : Int) h gs g c w else some (0, 8)) r → Ev (fun k => F.impl_CheckSequence.l0 k ((bitsOf g : Nat) : Int) ((prevAt c i : Nat) : Int) c (c.length : Int) (i : Int) h gs g c w) r := fun i hi r e => by
    have b1 : numAt c i < 2 ^ h.toNat := grp_lt hr.fam.h1 hr.fam.h2 hc hi
    have b2 := prev_lt hr hs hK hc (show i ≤ c.length by omega)
    have b3 : numAt w i < 2 ^ h.toNat := grp_lt hr.fam.h1 hr.fam.h2 hw (by omega)
    have o1 := Nat.or_lt_two_pow b1 b3
    have o2 := Nat.or_lt_two_pow b2 b3
    have f1 : Ev (fun k => F.impl_crowdOf.f k (c.getD i [])) ((numAt c i : Nat) : Int) := crowdOf_ev (m := h.toNat) (by have := hr.fam.h2; omega) (rises_bound hr.fam.h1 hr.fam.h2 (hc i hi)) (by have := hcs.2 i hi; omega)
    have f2 : Ev (fun k => F.impl_crowdOf.f k (w.getD i [])) ((numAt w i : Nat) : Int) := crowdOf_ev (m := h.toNat) (by have := hr.fam.h2; omega) (rises_bound hr.fam.h1 hr.fam.h2 (hw i (by omega))) (by have := hws.2 i (by omega); omega)
    have k1 := contains_eq (a := bitsOf g) (b := numAt w i) (by omega) (by omega)
    have k2 := contains_eq (a := numAt c i) (b := prevAt c i) (by omega) (by omega)
    have a1 : Go.bits .and .u64 ((numAt c i : Nat) : Int) ((bitsOf g : Nat) : Int) = ((numAt c i &&& bitsOf g : Nat) : Int) := and_u64 (by omega) (by omega)
    have a2 : Go.bits .or .u64 ((numAt c i : Nat) : Int) ((numAt w i : Nat) : Int) = ((numAt c i ||| numAt w i : Nat) : Int) := or_u64 (by omega) (by omega)
    have a3 : Go.bits .or .u64 ((prevAt c i : Nat) : Int) ((numAt w i : Nat) : Int) = ((prevAt c i ||| numAt w i : Nat) : Int) := or_u64 (by omega) (by omega)
    have c1 : ((numAt c i &&& bitsOf g : Nat) : Int) = 0 ↔ numAt c i &&& bitsOf g = 0 := by
      rw [show (0 : Int) = ((0 : Nat) : Int) from rfl]; exact Int.ofNat_inj
    have c2 : ((numAt c i : Nat) : Int) = ((prevAt c i : Nat) : Int) ↔ numAt c i = prevAt c i := Int.ofNat_inj
    have q1 := opens_ev hr.fam hs (numAt c i) (by omega)
    have q2 := opens_ev hr.fam hs (numAt c i ||| numAt w i) (by omega)
    have q3 := opens_ev hr.fam hs (prevAt c i ||| numAt w i) (by omega)
    have ch : ∃ b, Ev (fun k => F.impl_Family_chained.f k h gs ((bitsOf g : Nat) : Int) ((prevAt c i : Nat) : Int) ((numAt c i : Nat) : Int)) b ∧ (b = true ↔ ChAt (bitsOf g) c i ∧ ¬ Opens gs (numAt c i)) := by
      unfold F.impl_Family_chained.f ChAt
      simp only [a1, c1, c2, k2, Option.bind_some, decide_eq_true_eq]
      by_cases d3 : numAt c i &&& bitsOf g = 0
      · simp only [if_pos d3]
        by_cases d1 : numAt c i = prevAt c i
        · exact ⟨false, by simp only [if_pos d1]; exact Ev.now _, ⟨fun hx => (by cases hx), fun hx => absurd d1 hx.1.1⟩⟩
        · simp only [if_neg d1]
          by_cases d2 : numAt c i &&& prevAt c i = prevAt c i
          · simp only [if_pos d2]
            refine ⟨_, Ev.bind q1 (Ev.now _), ?_⟩
            by_cases ho : Opens gs (numAt c i)
            · rw [opensB_iff.2 ho]; exact ⟨fun hx => (by cases hx), fun hx => absurd ho hx.2⟩
            · rw [opensB_false ho]; exact ⟨fun _ => ⟨⟨d1, d2, d3⟩, ho⟩, fun _ => rfl⟩
          · exact ⟨false, by simp only [if_neg d2]; exact Ev.now _, ⟨fun hx => (by cases hx), fun hx => absurd hx.1.2.1 d2⟩⟩
      · exact ⟨false, by simp only [if_neg d3]; exact Ev.now _, ⟨fun hx => (by cases hx), fun hx => absurd hx.1.2.2 d3⟩⟩
    have st : ∃ b, Ev (fun k => F.impl_Family_steps.f k h gs ((prevAt c i : Nat) : Int) ((numAt c i : Nat) : Int) ((numAt w i : Nat) : Int)) b ∧ (b = true ↔ Opens gs (numAt c i ||| numAt w i) ∧ ¬ Opens gs (prevAt c i ||| numAt w i)) := by
      unfold F.impl_Family_steps.f
      simp only [a2, a3]
      by_cases ho : Opens gs (numAt c i ||| numAt w i)
      · rw [opensB_iff.2 ho] at q2
        refine ⟨_, Ev.bind q2 (by simp only [if_true]; exact Ev.bind q3 (Ev.now _)), ?_⟩
        by_cases ho2 : Opens gs (prevAt c i ||| numAt w i)
        · rw [opensB_iff.2 ho2]; exact ⟨fun hx => (by cases hx), fun hx => absurd ho2 hx.2⟩
        · rw [opensB_false ho2]; exact ⟨fun _ => ⟨ho, ho2⟩, fun _ => rfl⟩
      · rw [opensB_false ho] at q2
        exact ⟨false, Ev.bind q2 (by simp only [Bool.false_eq_true, if_false]; exact Ev.now _), ⟨fun hx => (by cases hx), fun hx => absurd hx.1 ho⟩⟩
    obtain ⟨b, hb, hbi⟩ := ch
    obtain ⟨s, hst, hsi⟩ := st
    refine Ev.step (fun k => ?_) (Ev.bind (f := fun k t113 => (F.impl_crowdOf.f k (w.getD i [])).bind fun t115 => ((F.impl_Family_chained.f k h gs ((bitsOf g : Nat) : Int) ((prevAt c i : Nat) : Int) t113).bind fun t116 => (if t116 = true then ((F.impl_crowd_contains.f ((bitsOf g : Nat) : Int) t115).bind fun t117 => (if t117 = true then ((F.impl_Family_steps.f k h gs ((prevAt c i : Nat) : Int) t113 t115).bind fun t118 => (if t118 = true then (F.impl_CheckSequence.l0 k ((bitsOf g : Nat) : Int) t113 c (c.length : Int) ((i + 1 : Nat) : Int) h gs g c w) else (some (0, 8)))) else (some (0, 8)))) else (some (0, 8))))) f1 (Ev.bind f2 (Ev.bind hb ?_)))
    · simp only [F.impl_CheckSequence.l0, rd_L1_nat]
      rw [if_pos (by omega), if_pos (by omega)]
      simp only [if_pos (show (i : Int) < (w.length : Int) by omega), if_pos (show (i : Int) < (c.length : Int) by omega)]
      rw [w64 (by omega) (by omega)]
      rfl
    · rw [prev_succ] at e
      by_cases p1 : ChAt (bitsOf g) c i ∧ ¬ Opens gs (numAt c i)
      · rw [hbi.2 p1]
        simp only [if_true, k1, Option.bind_some, decide_eq_true_eq]
        by_cases p2 : numAt w i &&& bitsOf g = numAt w i
        · have p2' : bitsOf g &&& numAt w i = numAt w i := by rw [Nat.and_comm]; exact p2
          simp only [if_pos p2']
          refine Ev.bind hst ?_
          by_cases p3 : Opens gs (numAt c i ||| numAt w i) ∧ ¬ Opens gs (prevAt c i ||| numAt w i)
          · rw [hsi.2 p3]
            simp only [if_pos (show ChAt (bitsOf g) c i ∧ ¬ Opens gs (numAt c i) ∧ StAt gs (bitsOf g) c w i from ⟨p1.1, p1.2, p2, p3⟩)] at e
            simp only [if_true]
            exact e
          · rw [show s = false from Bool.eq_false_iff.2 (fun hx => p3 (hsi.1 hx))]
            simp only [if_neg (show ¬ (ChAt (bitsOf g) c i ∧ ¬ Opens gs (numAt c i) ∧ StAt gs (bitsOf g) c w i) from fun hx => p3 hx.2.2.2)] at e
            simp only [Bool.false_eq_true, if_false]
            exact e
        · have p2' : ¬ bitsOf g &&& numAt w i = numAt w i := by rw [Nat.and_comm]; exact p2
          simp only [if_neg (show ¬ (ChAt (bitsOf g) c i ∧ ¬ Opens gs (numAt c i) ∧ StAt gs (bitsOf g) c w i) from fun hx => p2 hx.2.2.1)] at e
          simp only [if_neg p2']
          exact e
      · rw [show b = false from Bool.eq_false_iff.2 (fun hx => p1 (hbi.1 hx))]
        simp only [if_neg (show ¬ (ChAt (bitsOf g) c i ∧ ¬ Opens gs (numAt c i) ∧ StAt gs (bitsOf g) c w i) from fun hx => p1 ⟨hx.1, hx.2.1⟩)] at e
        simp only [Bool.false_eq_true, if_false]
        exact e
  have L := ev_loop c.length (fun k i => F.impl_CheckSequence.l0 k ((bitsOf g : Nat) : Int) ((prevAt c i : Nat) : Int) c (c.length : Int) (i : Int) h gs g c w) (fun i => ChAt (bitsOf g) c i ∧ ¬ Opens gs (numAt c i) ∧ StAt gs (bitsOf g) c w i) (if opensB gs (bitsOf g) = true then (c.length : Int) + 1 else (c.length : Int), 0) (0, 8)
    (fun i hi _ hP r e => key i hi r (by simp only [if_pos hP]; exact e)) (fun i hi _ hP => key i hi _ (by simp only [if_neg hP]; exact Ev.now _)) (fun _ => ?_)
  · by_cases hA : SeqOk gs (bitsOf g) c w
    · rw [if_pos (seqB_iff.2 hA)]
      exact L.1 hA
    · rw [if_neg (fun hx => hA (seqB_iff.1 hx))]
      exact L.2 hA
  · refine Ev.step (fun k => ?_) (Ev.bind (f := fun k (t111 : Int) => some (t111, (0 : Int))) (number_ev hr hs hK (by omega) c.length hn) (Ev.now _))
    simp only [F.impl_CheckSequence.l0]
    rw [if_neg (by omega)]
end
theorem spec_checkSeq (h : Int) (gs : List (List Int)) (g : List Int) (c w : List (List Int)) (hs : Short gs) (hgl : g.length ≤ 17592186043904) (hcs : Small c) (hws : Small w) : Ev (fun k => F.spec_CheckSequence.f k h gs g c w) (checkSeq h gs g c w) := by
  unfold F.spec_CheckSequence.f checkSeq
  refine Ev.bind (spec_code h gs hs) ?_
  by_cases c0 : codeF h gs = 0
  · have hr := ranked_of c0
    have h1 := hr.fam.h1
    have h2 := hr.fam.h2
    simp only [if_pos c0]
    have bad : Ev (fun k => F.spec_CheckSequence.j0 k true h gs g c w) ((0 : Int), (2 : Int)) := ev_succ (fun k => by simp only [F.spec_CheckSequence.j0, if_true])
    refine Ev.bind (l07Group_ev h1 h2 g (by omega)) ?_
    by_cases d1 : risesB 0 (h - 1) g = true
    · simp only [d1, true_and, if_true]
      refine Ev.bind (l07Groups_ev h1 h2 c hcs.short) ?_
      by_cases d2 : grpsB h c = true
      · simp only [d2, true_and, if_true]
        refine Ev.bind (l07Groups_ev h1 h2 w hws.short) ?_
        by_cases d3 : grpsB h w = true
        · simp only [d3, true_and, if_true]
          by_cases d4 : c.length = w.length
          · simp only [if_pos d4]
            rw [show ((c.length : Int) != (w.length : Int)) = false from by rw [d4]; simp]
            have hK := known_lt hr hs (risesB_iff.1 d1) hgl (grpsB_iff.1 d2) (grpsB_iff.1 d3) hcs hws d4
            have hb := l07Bits_ev (m := h.toNat) (by omega) (rises_bound h1 h2 (risesB_iff.1 d1)) (by omega)
            refine Ev.step (fun k => by simp only [F.spec_CheckSequence.j0, Bool.false_eq_true, if_false]; rfl) ?_
            refine Ev.bind (open_ev hr.fam hs) (Ev.bind hb (Ev.bind (numbers_ev h1 h2 (grpsB_iff.1 d2) hcs) (Ev.bind (numbers_ev h1 h2 (grpsB_iff.1 d3) hws) ?_)))
            have C := chain_ev hr hs hK (grpsB_iff.1 d2) hcs
            have S := spec_steps hr hs (risesB_iff.1 d1) hgl (grpsB_iff.1 d2) (grpsB_iff.1 d3) hcs hws d4
            have sp := seq_split hr (bitsOf g) c w
            by_cases e1 : (∀ i, i < c.length → ChAt (bitsOf g) c i) ∧ ¬ Opens gs (prevAt c c.length)
            · refine Ev.bind (C.1 e1) ?_
              simp only [if_true]
              by_cases e2 : ∀ i, i < c.length → StAt gs (bitsOf g) c w i
              · simp only [if_pos (seqB_iff.2 (sp.2 ⟨e1, e2⟩))]
                exact S.1 e2
              · simp only [if_neg (show ¬ seqB gs (bitsOf g) c w = true from fun hx => e2 (sp.1 (seqB_iff.1 hx)).2)]
                exact S.2 e2
            · refine Ev.bind (C.2 e1) ?_
              simp only [if_neg (show ¬ seqB gs (bitsOf g) c w = true from fun hx => e1 (sp.1 (seqB_iff.1 hx)).1), Bool.false_eq_true, if_false]
              exact Ev.now _
          · simp only [if_neg d4]
            rw [show ((c.length : Int) != (w.length : Int)) = true from by simp; omega]
            exact bad
        · simp only [if_neg d3, d3, false_and, if_false]; exact bad
      · simp only [if_neg d2, d2, false_and, if_false]; exact bad
    · simp only [if_neg d1, d1, false_and, if_false]; exact bad
  · simp only [if_neg c0]; exact Ev.now _
theorem impl_checkSeq (h : Int) (gs : List (List Int)) (g : List Int) (c w : List (List Int)) (hs : Short gs) (hgl : g.length ≤ 17592186043904) (hcs : Small c) (hws : Small w) : Ev (fun k => F.impl_CheckSequence.f k h gs g c w) (checkSeq h gs g c w) := by
  unfold F.impl_CheckSequence.f checkSeq
  refine Ev.bind (impl_code h gs hs) ?_
  by_cases c0 : codeF h gs = 0
  · have hr := ranked_of c0
    have h1 := hr.fam.h1
    have h2 := hr.fam.h2
    simp only [if_pos c0]
    have bad : Ev (fun k => F.impl_CheckSequence.j0 k (codeF h gs) true h gs g c w) ((0 : Int), (2 : Int)) := by
      refine Ev.step (fun k => by simp only [F.impl_CheckSequence.j0, if_true]; rfl) (ev_succ (fun k => ?_))
      simp only [F.impl_CheckSequence.j1]
      rw [if_neg (by omega)]
    have one : Ev (fun k => F.impl_areGroups.f k h [g]) (risesB 0 (h - 1) g) := by
      have := areGroups_ev h1 h2 [g] ⟨by simp, fun i hi => by
        simp only [List.length_singleton] at hi
        rw [show i = 0 by omega]
        show g.length ≤ _
        omega⟩
      have e : grpsB h [g] = risesB 0 (h - 1) g := by
        rw [Bool.eq_iff_iff, grpsB_iff, risesB_iff]
        refine ⟨fun hx => hx 0 (by simp), fun hx i hi => ?_⟩
        simp only [List.length_singleton] at hi
        rw [show i = 0 by omega]
        exact hx
      rw [e] at this
      exact this
    refine Ev.bind one ?_
    by_cases d1 : risesB 0 (h - 1) g = true
    · simp only [d1, true_and, if_true]
      refine Ev.bind (areGroups_ev h1 h2 c hcs.short) ?_
      by_cases d2 : grpsB h c = true
      · simp only [d2, true_and, if_true]
        refine Ev.bind (areGroups_ev h1 h2 w hws.short) ?_
        by_cases d3 : grpsB h w = true
        · simp only [d3, true_and, if_true]
          by_cases d4 : c.length = w.length
          · simp only [if_pos d4]
            rw [show ((c.length : Int) != (w.length : Int)) = false from by rw [d4]; simp]
            refine Ev.step (fun k => by simp only [F.impl_CheckSequence.j0, Bool.false_eq_true, if_false]; rfl) ?_
            have hb := crowdOf_ev (m := h.toNat) (by omega) (rises_bound h1 h2 (risesB_iff.1 d1)) (show g.length ≤ 9223372036854775806 by omega)
            refine Ev.step (fun k => by simp only [F.impl_CheckSequence.j1, if_pos c0]; rfl) (Ev.bind hb ?_)
            exact impl_steps hr hs (risesB_iff.1 d1) hgl (grpsB_iff.1 d2) (grpsB_iff.1 d3) hcs hws d4
          · simp only [if_neg d4]
            rw [show ((c.length : Int) != (w.length : Int)) = true from by simp; omega]
            exact bad
        · simp only [if_neg d3, d3, false_and, if_false]; exact bad
      · simp only [if_neg d2, d2, false_and, if_false]; exact bad
    · simp only [if_neg d1, d1, false_and, if_false]; exact bad
  · simp only [if_neg c0]
    refine Ev.step (fun k => by simp only [F.impl_CheckSequence.j0, Bool.false_eq_true, if_false]; rfl) (ev_succ (fun k => ?_))
    simp only [F.impl_CheckSequence.j1, if_neg c0]
theorem FnExactCheckSequence (y0_0 : Int) (y0_1 : List (List Int)) (y1_0 : List Int) (y1_1 : List (List Int)) (y1_2 : List (List Int)) (hw0 : (fun x => (fun a => (Lit.int .i64 a).wf = true) x.1 ∧ (fun xs => xs.length ≤ maxLen ∧ xs.length * 24 ≤ 140737488351232 ∧ ∀ x ∈ xs, (fun xs => xs.length ≤ maxLen ∧ xs.length * 8 ≤ 140737488351232 ∧ ∀ x ∈ xs, (fun a => (Lit.int .i64 a).wf = true) x) x) x.2) (y0_0, y0_1)) (hw1 : (fun x => (fun xs => xs.length ≤ maxLen ∧ xs.length * 8 ≤ 140737488351232 ∧ ∀ x ∈ xs, (fun a => (Lit.int .i64 a).wf = true) x) x.1 ∧ (fun x => (fun xs => xs.length ≤ maxLen ∧ xs.length * 24 ≤ 140737488351232 ∧ ∀ x ∈ xs, (fun xs => xs.length ≤ maxLen ∧ xs.length * 8 ≤ 140737488351232 ∧ ∀ x ∈ xs, (fun a => (Lit.int .i64 a).wf = true) x) x) x.1 ∧ (fun xs => xs.length ≤ maxLen ∧ xs.length * 24 ≤ 140737488351232 ∧ ∀ x ∈ xs, (fun xs => xs.length ≤ maxLen ∧ xs.length * 8 ≤ 140737488351232 ∧ ∀ x ∈ xs, (fun a => (Lit.int .i64 a).wf = true) x) x) x.2) x.2) (y1_0, y1_1, y1_2)) : ∃ k, F.laws_FnExactCheckSequence.f k y0_0 y0_1 y1_0 y1_1 y1_2 = some true := by
  obtain ⟨_, _, a1, a2⟩ := hw0
  obtain ⟨⟨_, b1, _⟩, ⟨_, b2, b3⟩, _, b4, b5⟩ := hw1
  have sF : Small y0_1 := small_of a1 (fun x hx => (a2 x hx).2.1)
  have sC : Small y1_1 := small_of b2 (fun x hx => (b3 x hx).2.1)
  have sW : Small y1_2 := small_of b4 (fun x hx => (b5 x hx).2.1)
  have hgl : y1_0.length ≤ 17592186043904 := by
    have : y1_0.length * 8 ≤ 140737488351232 := b1
    omega
  refine Ev.rounds ?_
  unfold F.laws_FnExactCheckSequence.f
  obtain ⟨v, hv⟩ := szFamily_ev y0_0 y0_1 sF 1048576
  refine Ev.bind hv ?_
  by_cases c0 : v < 0
  · simp only [if_pos c0]; exact Ev.now _
  · simp only [if_neg c0]
    obtain ⟨u, hu⟩ := szSequence_ev y1_0 y1_1 y1_2 sC sW v
    refine Ev.bind hu ?_
    by_cases c1 : u < 0
    · simp only [if_pos c1]; exact Ev.now _
    · simp only [if_neg c1]
      have hF := toFamily_ev y0_0 y0_1 sF
      have hQ := toSequence_ev y1_0 y1_1 y1_2 hgl sC sW
      have eF := eqFamily_ev y0_0 y0_1 sF
      have eQ := eqSequence_ev y1_0 y1_1 y1_2 hgl sC sW
      have hS := spec_checkSeq y0_0 y0_1 y1_0 y1_1 y1_2 sF.short hgl sC sW
      have hI := impl_checkSeq y0_0 y0_1 y1_0 y1_1 y1_2 sF.short hgl sC sW
      refine Ev.bind hF (Ev.bind hQ (Ev.bind hS (Ev.bind hF (Ev.bind hQ (Ev.bind hI ?_)))))
      simp only [if_true, bne_self_eq_false]
      refine Ev.step (fun k => by simp only [F.laws_FnExactCheckSequence.j0, Bool.false_eq_true, if_false]; rfl) ?_
      refine Ev.bind hF (Ev.bind eF ?_)
      simp only [if_true]
      refine Ev.bind hQ (Ev.bind eQ ?_)
      simp only [if_true]
      exact Ev.now _
end Go.Proofs.Ytfojpiojhcdgoaa.Pure
end
section
namespace Go.Proofs.Ytfojpiojhcdgoaa.Op
open Go.RowKit Go.ChangeShapes Go.WideShapes Go.Proofs.YtfojpiojhcdgoaaW.PrintWords
theorem weightsAll_mem {H : Type} {P : Program} {e : TypeId} : ∀ {l : List (DataW H)} {d : DataW H}, d ∈ l → ∀ n ∈ d.weights P e, n ∈ DataW.weightsAll P e l
  | [], _, h, _, _ => by simp at h
  | x :: l, d, h, n, hn => by
    rw [DataW.weightsAll, List.mem_append]
    rcases List.mem_cons.1 h with rfl | h
    · exact .inl hn
    · exact .inr (weightsAll_mem h n hn)
theorem list_lt {α : Type} {p : Nat → α → Prop} : ∀ n : Nat, (∀ i, i < n → ∃ x, p i x) → ∃ xs : List α, xs.length = n ∧ ∀ i x, xs[i]? = some x → p i x
  | 0, _ => ⟨[], rfl, fun i x h => by simp at h⟩
  | n + 1, h => by
    obtain ⟨xs, hl, hp⟩ := list_lt n (fun i hi => h i (by omega))
    obtain ⟨x, hx⟩ := h n (by omega)
    refine ⟨xs ++ [x], by simp [hl], fun i y hy => ?_⟩
    rcases Nat.lt_or_ge i xs.length with hi | hi
    · rw [List.getElem?_append_left hi] at hy
      exact hp i y hy
    · have hi' : i = n := by
        have := (List.getElem?_eq_some_iff.1 hy).1
        rw [List.length_append, List.length_singleton] at this
        omega
      subst hi'
      rw [← hl] at hy
      rw [List.getElem?_append_right (Nat.le_refl _)] at hy
      simp at hy
      subst hy
      exact hx
def Opn {α : Type} (P : Program) (t : TypeId) (d : Kd α) (wf : α → Prop) : Prop :=
  ∀ (H : Type) (enc : TypeId × Value → H) (w : World) (base : Nat) (held : Bool) (fuel : Nat) (cs : List Value) (x : DataW H × List MemPlace),
    DataW.trod enc P w base (fun _ => true) held fuel t cs = some x → (∀ n ∈ x.1.weights P t, n ≤ reachBytes) → ∃ a : α, d.K w a cs ∧ wf a
theorem Opn.int {P : Program} {t : TypeId} {k : IntKind} (ht : P.underlying t = some (.int k)) : Opn P t (Kd.int k) (fun a => (Lit.int k a).wf = true) := by
  intro H enc w base held fuel cs x h _
  obtain ⟨n, rfl, rfl, hw⟩ := DataW.trod_int ht h
  exact ⟨n, rfl, hw⟩
theorem Opn.bool {P : Program} {t : TypeId} (ht : P.underlying t = some .bool) : Opn P t Kd.bool (fun _ => True) := by
  intro H enc w base held fuel cs x h _
  obtain ⟨b, rfl, rfl⟩ := DataW.trod_bool ht h
  exact ⟨b, rfl, trivial⟩
theorem Opn.slice {α : Type} {P : Program} {t e : TypeId} {d : Kd α} {wf : α → Prop} {B : Nat} (ht : P.underlying t = some (.slice e)) (hc : P.cellsOf e = d.sz) (hB : P.bytesOf e = B) (he : Opn P e d wf) :
    Opn P t (Kd.slice e d) (fun xs => xs.length ≤ maxLen ∧ xs.length * B ≤ 140737488351232 ∧ ∀ x ∈ xs, wf x) := by
  intro H enc w base held fuel cs x h hw
  rcases DataW.trod_slice ht h with ⟨rfl, rfl⟩ | ⟨a, len, cap, elems, rest, n, _, rfl, rfl, hb, hl, hm, hlen, hel, hsp, hns⟩
  · exact ⟨[], ⟨none, 0, rfl, Nat.le_refl _, ⟨rfl, by simp, fun h => absurd h (by simp)⟩⟩, by simp, by simp, by simp⟩
  · simp only [DataW.weights, ht] at hw
    have each : ∀ i, i < len → ∃ p : α, ∃ c, c.length = d.sz ∧ d.K w p c ∧ wf p ∧ ∀ j u, c[j]? = some u → w.cell? (a.add (i * d.sz + j)) = some u := by
      intro i hi
      have h1 := hel i hi
      obtain ⟨y, hy⟩ : ∃ y, elems[i]? = some y := ⟨elems[i]'(by omega), List.getElem?_eq_getElem (by omega)⟩
      rw [hy, Option.bind_eq_some_iff] at h1
      obtain ⟨c, hcs, hy'⟩ := h1
      have hmem : y.1 ∈ elems.map (·.1) := List.mem_map_of_mem (List.mem_of_getElem? hy)
      obtain ⟨p, hp, hwp⟩ := he H enc w base held n c y hy' (fun n hn => hw n (by
        refine List.mem_cons_of_mem _ (List.mem_append_left _ (weightsAll_mem hmem n hn))))
      obtain ⟨_, hcl, hcell⟩ := World.cells?_some hcs
      refine ⟨p, c, by rw [hcl, hc], hp, hwp, fun j u hu => ?_⟩
      have hj : j < P.cellsOf e := by rw [← hcl]; exact (List.getElem?_eq_some_iff.1 hu).1
      have := hcell j hj
      rw [hu, Go.Deep.add_add, hc] at this
      exact this
    obtain ⟨xs, hxl, hxs⟩ := list_lt len each
    have hwt := hw _ List.mem_cons_self
    have hml : maxLen = 9223372036854775807 := by first | rfl | simp [maxLen]
    refine ⟨xs, ⟨some a, cap, by rw [hxl], by omega, ⟨rfl, by rw [hxl]; omega, fun _ => ⟨a, rfl, fun j p hj => ?_⟩⟩⟩, by rw [hxl]; omega, ?_, fun x hx => ?_⟩
    · obtain ⟨c, h1, h2, _, h4⟩ := hxs j p hj
      exact ⟨c, h1, h2, h4⟩
    · rw [hxl, ← hB]
      have h1 : (elems.map (·.1)).length = len := by simp [hlen]
      rw [h1] at hwt
      have h2 : len * P.bytesOf e ≤ (len + (rest.map (·.1)).length) * P.bytesOf e := Nat.mul_le_mul_right _ (by omega)
      have h3 : reachBytes = 140737488351232 := by rfl
      omega
    · obtain ⟨i, hi⟩ := List.getElem?_of_mem hx
      obtain ⟨c, _, _, h3, _⟩ := hxs i x hi
      exact h3
def OpnF {α : Type} (P : Program) (fs : List Field) (off : Nat) (d : Kd α) (wf : α → Prop) : Prop :=
  ∀ (H : Type) (enc : TypeId × Value → H) (w : World) (base : Nat) (held : Bool) (fuel : Nat) (cs : List Value) (xs : List (DataW H × List MemPlace)),
    (∀ (i : Nat) (f : Field), fs[i]? = some f → DataW.trod enc P w base (fun _ => true) held fuel f.type ((cs.drop f.offset).take (P.cellsOf f.type)) = xs[i]?) → xs.length = fs.length →
    (∀ n ∈ DataW.weightsEach P (fs.map (·.type)) (xs.map (·.1)), n ≤ reachBytes) → ∃ a : α, d.K w a ((cs.drop off).take d.sz) ∧ wf a
theorem OpnF.one {α : Type} {P : Program} {f : Field} {d : Kd α} {wf : α → Prop} (hc : P.cellsOf f.type = d.sz) (h : Opn P f.type d wf) : OpnF P [f] f.offset d wf := by
  intro H enc w base held fuel cs xs hx hl hw
  match xs, hl with
  | [y], _ =>
    have h1 := hx 0 f rfl
    rw [hc] at h1
    exact h H enc w base held fuel _ y h1 (fun n hn => hw n (by simp [DataW.weightsEach]; exact hn))
theorem OpnF.cons {α β : Type} {P : Program} {f : Field} {fs : List Field} {d : Kd α} {d' : Kd β} {wf : α → Prop} {wf' : β → Prop} {off : Nat} (hc : P.cellsOf f.type = d.sz) (ho : f.offset + d.sz = off) (h : Opn P f.type d wf) (h' : OpnF P fs off d' wf') :
    OpnF P (f :: fs) f.offset (Kd.pair d d') (fun x => wf x.1 ∧ wf' x.2) := by
  intro H enc w base held fuel cs xs hx hl hw
  match xs, hl with
  | y :: ys, hl =>
    have h1 := hx 0 f rfl
    rw [hc] at h1
    obtain ⟨a, ha, hwa⟩ := h H enc w base held fuel _ y h1 (fun n hn => hw n (by simp only [List.map_cons, DataW.weightsEach, List.mem_append]; exact .inl hn))
    obtain ⟨b, hb, hwb⟩ := h' H enc w base held fuel cs ys (fun i g hg => hx (i + 1) g hg) (by simpa using hl) (fun n hn => hw n (by simp only [List.map_cons, DataW.weightsEach, List.mem_append]; exact .inr hn))
    refine ⟨(a, b), ⟨_, _, ?_, ha, hb⟩, hwa, hwb⟩
    show (cs.drop f.offset).take (d.sz + d'.sz) = _
    rw [List.take_add, List.drop_drop, ho]
theorem Opn.struct {α : Type} {P : Program} {t : TypeId} {fs : Array Field} {d : Kd α} {wf : α → Prop} (ht : P.underlying t = some (.struct fs)) (hc : P.cellsOf t = d.sz) (h : OpnF P fs.toList 0 d wf) : Opn P t d wf := by
  intro H enc w base held fuel cs x hx hw
  obtain ⟨xs, n, _, rfl, hl, hxl, hf⟩ := DataW.trod_struct ht hx
  simp only [DataW.weights, ht] at hw
  obtain ⟨a, ha, hwa⟩ := h H enc w base held n cs xs (fun i f hi => hf i f (by simpa using hi)) (by simpa using hxl) hw
  refine ⟨a, ?_, hwa⟩
  have e : ((cs.drop 0).take d.sz) = cs := by
    rw [List.drop_zero, List.take_of_length_le (by omega)]
  rw [e] at ha
  exact ha
theorem Opn.arg {α : Type} {P : Program} {t : TypeId} {d : Kd α} {wf : α → Prop} (h : Opn P t d wf) {H : Type} {enc : TypeId × Value → H} {W : World} {base : Nat} {held : Bool} {v : Value} {x : DataW H} {p : List MemPlace} {ts : List TypeId} {ds : List (DataW H)} {j : Nat}
    (hsz : (DataW.weightsEach P ts ds).all (· ≤ reachBytes) = true) (ht : ts[j]? = some t) (hd : ds[j]? = some x) (hx : DataW.Trod enc P W base (fun _ => true) held t v x p) : ∃ a : α, d.K W a v.cells.toList ∧ wf a := by
  obtain ⟨fuel, hf⟩ := hx
  refine h H enc W base held fuel _ _ hf (fun n hn => ?_)
  have := List.all_eq_true.1 hsz n (DataW.weights_mem_each ht hd n hn)
  simpa using this
end Go.Proofs.Ytfojpiojhcdgoaa.Op
end
section
namespace Go.Proofs.Ytfojpiojhcdgoaa.fnExactCheckSequence
open Go.ChangeShapes Go.WideShapes Go.ChangeAt Go.RowKit Go.Proofs.YtfojpiojhcdgoaaW.PrintWords Go.Proofs.Ytfojpiojhcdgoaa.Op Go.Proofs.Ytfojpiojhcdgoaa.F
open Go.ChangeMaps (open_string shut_string)
set_option linter.unusedVariables false
theorem own : ownKnob Try.prog.godebug = none := by kernel_rfl
theorem laidOut : laidOutB Try.prog = true := by kernel_rfl
set_option maxRecDepth 100000 in
theorem opn2 : Opn Try.prog 2 (Kd.int .i64) (fun a => (Lit.int .i64 a).wf = true) := Opn.int Try.underlying2
set_option maxRecDepth 100000 in
theorem opn25 : Opn Try.prog 25 (Kd.slice 2 (Kd.int .i64)) (fun xs => xs.length ≤ maxLen ∧ xs.length * 8 ≤ 140737488351232 ∧ ∀ x ∈ xs, (fun a => (Lit.int .i64 a).wf = true) x) := Opn.slice (B := 8) Try.underlying25 (by kernel_rfl) (by kernel_rfl) opn2
set_option maxRecDepth 100000 in
theorem opn22 : Opn Try.prog 22 (Kd.slice 25 (Kd.slice 2 (Kd.int .i64))) (fun xs => xs.length ≤ maxLen ∧ xs.length * 24 ≤ 140737488351232 ∧ ∀ x ∈ xs, (fun xs => xs.length ≤ maxLen ∧ xs.length * 8 ≤ 140737488351232 ∧ ∀ x ∈ xs, (fun a => (Lit.int .i64 a).wf = true) x) x) := Opn.slice (B := 24) Try.underlying22 (by kernel_rfl) (by kernel_rfl) opn25
set_option maxRecDepth 100000 in
theorem opn24 : Opn Try.prog 24 (Kd.pair (Kd.int .i64) (Kd.slice 25 (Kd.slice 2 (Kd.int .i64)))) (fun x => (fun a => (Lit.int .i64 a).wf = true) x.1 ∧ (fun xs => xs.length ≤ maxLen ∧ xs.length * 24 ≤ 140737488351232 ∧ ∀ x ∈ xs, (fun xs => xs.length ≤ maxLen ∧ xs.length * 8 ≤ 140737488351232 ∧ ∀ x ∈ xs, (fun a => (Lit.int .i64 a).wf = true) x) x) x.2) := by
  refine Opn.struct Try.underlying24 (by kernel_rfl) ?_
  refine OpnF.cons (off := 1) (d := (Kd.int .i64)) (d' := (Kd.slice 25 (Kd.slice 2 (Kd.int .i64)))) (wf := (fun a => (Lit.int .i64 a).wf = true)) (wf' := (fun xs => xs.length ≤ maxLen ∧ xs.length * 24 ≤ 140737488351232 ∧ ∀ x ∈ xs, (fun xs => xs.length ≤ maxLen ∧ xs.length * 8 ≤ 140737488351232 ∧ ∀ x ∈ xs, (fun a => (Lit.int .i64 a).wf = true) x) x)) ?_ ?_ ?_ ?_
  · kernel_rfl
  · kernel_rfl
  · exact opn2
  refine OpnF.one ?_ ?_
  · kernel_rfl
  · exact opn22
set_option maxRecDepth 100000 in
theorem opn27 : Opn Try.prog 27 (Kd.pair (Kd.slice 2 (Kd.int .i64)) (Kd.pair (Kd.slice 25 (Kd.slice 2 (Kd.int .i64))) (Kd.slice 25 (Kd.slice 2 (Kd.int .i64))))) (fun x => (fun xs => xs.length ≤ maxLen ∧ xs.length * 8 ≤ 140737488351232 ∧ ∀ x ∈ xs, (fun a => (Lit.int .i64 a).wf = true) x) x.1 ∧ (fun x => (fun xs => xs.length ≤ maxLen ∧ xs.length * 24 ≤ 140737488351232 ∧ ∀ x ∈ xs, (fun xs => xs.length ≤ maxLen ∧ xs.length * 8 ≤ 140737488351232 ∧ ∀ x ∈ xs, (fun a => (Lit.int .i64 a).wf = true) x) x) x.1 ∧ (fun xs => xs.length ≤ maxLen ∧ xs.length * 24 ≤ 140737488351232 ∧ ∀ x ∈ xs, (fun xs => xs.length ≤ maxLen ∧ xs.length * 8 ≤ 140737488351232 ∧ ∀ x ∈ xs, (fun a => (Lit.int .i64 a).wf = true) x) x) x.2) x.2) := by
  refine Opn.struct Try.underlying27 (by kernel_rfl) ?_
  refine OpnF.cons (off := 1) (d := (Kd.slice 2 (Kd.int .i64))) (d' := (Kd.pair (Kd.slice 25 (Kd.slice 2 (Kd.int .i64))) (Kd.slice 25 (Kd.slice 2 (Kd.int .i64))))) (wf := (fun xs => xs.length ≤ maxLen ∧ xs.length * 8 ≤ 140737488351232 ∧ ∀ x ∈ xs, (fun a => (Lit.int .i64 a).wf = true) x)) (wf' := (fun x => (fun xs => xs.length ≤ maxLen ∧ xs.length * 24 ≤ 140737488351232 ∧ ∀ x ∈ xs, (fun xs => xs.length ≤ maxLen ∧ xs.length * 8 ≤ 140737488351232 ∧ ∀ x ∈ xs, (fun a => (Lit.int .i64 a).wf = true) x) x) x.1 ∧ (fun xs => xs.length ≤ maxLen ∧ xs.length * 24 ≤ 140737488351232 ∧ ∀ x ∈ xs, (fun xs => xs.length ≤ maxLen ∧ xs.length * 8 ≤ 140737488351232 ∧ ∀ x ∈ xs, (fun a => (Lit.int .i64 a).wf = true) x) x) x.2)) ?_ ?_ ?_ ?_
  · kernel_rfl
  · kernel_rfl
  · exact opn25
  refine OpnF.cons (off := 2) (d := (Kd.slice 25 (Kd.slice 2 (Kd.int .i64)))) (d' := (Kd.slice 25 (Kd.slice 2 (Kd.int .i64)))) (wf := (fun xs => xs.length ≤ maxLen ∧ xs.length * 24 ≤ 140737488351232 ∧ ∀ x ∈ xs, (fun xs => xs.length ≤ maxLen ∧ xs.length * 8 ≤ 140737488351232 ∧ ∀ x ∈ xs, (fun a => (Lit.int .i64 a).wf = true) x) x)) (wf' := (fun xs => xs.length ≤ maxLen ∧ xs.length * 24 ≤ 140737488351232 ∧ ∀ x ∈ xs, (fun xs => xs.length ≤ maxLen ∧ xs.length * 8 ≤ 140737488351232 ∧ ∀ x ∈ xs, (fun a => (Lit.int .i64 a).wf = true) x) x)) ?_ ?_ ?_ ?_
  · kernel_rfl
  · kernel_rfl
  · exact opn22
  refine OpnF.one ?_ ?_
  · kernel_rfl
  · exact opn22
set_option maxRecDepth 100000 in
theorem lifted (os : Os) (started : os.Started) (H : Type) (enc : TypeId × Value → H) :
    ReturnsInHanded {} Try.checked os 3 .any (Rows.fnExactCheckSequenceSpec.pre6 enc Try.prog Try.f3 Rows.fnExactCheckSequenceRow.domain false) (Rows.fnExactCheckSequenceSpec.post enc Try.prog Try.f3 false true false false) := by
  refine returnsInHanded_of_change_sized (C := Try.checked) own started (by kernel_rfl) Try.func3
    (ChangeSpec.witness6 (enc := enc) (C := Try.checked) false ⟨#[], #[.agg #[.int .i64 0, .slice none 0 0], .agg #[.slice none 0 0, .slice none 0 0, .slice none 0 0]], []⟩ 8 (by kernel_rfl) (by kernel_rfl) (by kernel_rfl) (by kernel_rfl)) ?_
  intro W base args ds gs before hval0 hW hcnd hsz0 _
  have hsz : (DataW.weightsEach Try.prog (Try.f3.params.toList ++ Rows.fnExactCheckSequenceSpec.plain.varTypes Try.prog) (ds ++ gs)).all (· ≤ reachBytes) = true := hsz0
  have hval : ∀ (j : Nat) t v, Try.f3.params[j]? = some t → args[j]? = some v → Value.okWide Try.prog W .any base t v := hval0
  have hW' := hW
  obtain ⟨p, q, hA0, hV, rfl, hfz, hnd⟩ := hW
  have hA : DataW.TrodAll enc Try.prog W 0 (fun _ => true) true Try.f3.params.toList args.toList ds p := hA0
  rw [Try.params3] at hA hval hsz
  obtain ⟨v0, vs0, d0, ds0, p0, q0, hargs, rfl, rfl, h0, r0⟩ := trodAll_cons hA
  obtain ⟨v1, vs1, d1, ds1, p1, q1, rfl, rfl, rfl, h1, r1⟩ := trodAll_cons r0
  obtain ⟨rfl, rfl, rfl⟩ := trodAll_nil r1
  obtain rfl : args = #[v0, v1] := by cases args; simp_all
  obtain ⟨rfl, rfl⟩ := trodVars_none hV
  have k0 := h0
  have lt0 : ∀ x ∈ p0, x.block < W.heap.size := by obtain ⟨m, hm⟩ := k0; exact DataW.trod_lt m _ _ _ hm
  obtain ⟨y0, hK0, hw0⟩ := Opn.arg opn24 hsz (j := 0) (t := 24) rfl rfl h0
  obtain ⟨cs0, rfl, hcs0⟩ := okWide_struct Try.underlying24 (hval 0 24 v0 rfl rfl)
  obtain ⟨y0_0, y0_1⟩ := y0
  obtain ⟨_, _, ge0_1, ga0_1, gb0_1⟩ := hK0
  obtain rfl := ga0_1
  obtain ⟨A0_1, cap0_1, rfl, hc0_1, hr0_1⟩ := gb0_1
  obtain rfl : cs0 = #[.int .i64 y0_0, .slice A0_1 y0_1.length cap0_1] := by
    have e_ : cs0.toList = [.int .i64 y0_0, .slice A0_1 y0_1.length cap0_1] := by
      refine Eq.trans ge0_1 ?_
      simp only [List.cons_append, List.nil_append]
    cases cs0; simp_all
  have k1 := h1
  have lt1 : ∀ x ∈ p1, x.block < W.heap.size := by obtain ⟨m, hm⟩ := k1; exact DataW.trod_lt m _ _ _ hm
  obtain ⟨y1, hK1, hw1⟩ := Opn.arg opn27 hsz (j := 1) (t := 27) rfl rfl h1
  obtain ⟨cs1, rfl, hcs1⟩ := okWide_struct Try.underlying27 (hval 1 27 v1 rfl rfl)
  obtain ⟨y1_0, y1_1, y1_2⟩ := y1
  obtain ⟨_, _, ge1_1, ga1_1, gb1_1⟩ := hK1
  obtain ⟨A1_0, cap1_0, rfl, hc1_0, hr1_0⟩ := ga1_1
  obtain ⟨_, _, ge1_2, ga1_2, gb1_2⟩ := gb1_1
  obtain ⟨A1_1, cap1_1, rfl, hc1_1, hr1_1⟩ := ga1_2
  obtain ⟨A1_2, cap1_2, rfl, hc1_2, hr1_2⟩ := gb1_2
  obtain rfl : cs1 = #[.slice A1_0 y1_0.length cap1_0, .slice A1_1 y1_1.length cap1_1, .slice A1_2 y1_2.length cap1_2] := by
    have e_ : cs1.toList = [.slice A1_0 y1_0.length cap1_0, .slice A1_1 y1_1.length cap1_1, .slice A1_2 y1_2.length cap1_2] := by
      refine Eq.trans ge1_1 ?_
      simp only [List.cons_append, List.nil_append, ge1_2]
    cases cs1; simp_all
  clear hA0 hval0 hsz0 hsz
  obtain ⟨k, hP⟩ := Go.Proofs.Ytfojpiojhcdgoaa.Pure.FnExactCheckSequence y0_0 y0_1 y1_0 y1_1 y1_2 hw0 hw1
  refine (F.laws_FnExactCheckSequence.calls k y0_0 A0_1 cap0_1 y0_1 A1_0 cap1_0 y1_0 A1_1 cap1_1 y1_1 A1_2 cap1_2 y1_2 true W hr0_1 hc0_1 hr1_0 hc1_0 hr1_1 hc1_1 hr1_2 hc1_2 hP).mono fun e W' hq => ?_
  obtain ⟨he, bel0⟩ := hq
  have bel : Below W.heap.size W W' := bel0
  subst he
  exact ⟨_, rfl, _, _, _, [], _, [], hW', trodAll_mk1 (shut_bool Try.underlying4 _), (trodAll_cons_mk (Below.trod laidOut (by kernel_rfl) (of_decide_eq_true (by kernel_rfl)) k0 bel lt0) (trodAll_cons_mk (Below.trod laidOut (by kernel_rfl) (of_decide_eq_true (by kernel_rfl)) k1 bel lt1) trodAll_mk0)), rfl, bel.frame _, fun h => by cases h⟩
theorem over : Rows.fnExactCheckSequenceRow.holds Try.pinned (OpenSpec.ofChange Rows.fnExactCheckSequenceSpec) :=
  OpenClaim.holds_of_wide 3 Try.f3 rfl rfl rfl rfl rfl rfl rfl ⟨rfl, rfl, rfl, rfl, rfl⟩ rfl rfl rfl rfl rfl (by kernel_rfl) Try.func3 (by kernel_rfl)
    (of_decide_eq_true (by kernel_rfl)) (by unfold Func.isWrapper; first | (rw [if_pos (by decide +kernel)]; kernel_rfl) | (rw [if_neg (by decide +kernel)]; exact ⟨rfl, rfl⟩))
    (fun os started H enc _ => lifted os started H enc)
theorem proved : Rows.FnExactCheckSequenceSaid := over
#print axioms proved
end Go.Proofs.Ytfojpiojhcdgoaa.fnExactCheckSequence
namespace Go.Proofs.Ytfojpiojhcdgoaa
theorem fnExactCheckSequence_holds : Rows.FnExactCheckSequenceSaid := fnExactCheckSequence.proved
end Go.Proofs.Ytfojpiojhcdgoaa
end
