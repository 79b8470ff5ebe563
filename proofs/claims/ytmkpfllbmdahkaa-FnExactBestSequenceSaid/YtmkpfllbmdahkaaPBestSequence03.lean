/- Contracts and laws on abstract memory, merged. Each holds under its own conditions. -/
import Derived.Test.YtmkpfllbmdahkaaPBestSequence02
/- Dual ranks, plain: they are ranks if none is too great. No condition beyond each lemma's own. -/
set_option linter.unusedVariables false
namespace Go.Proofs.Ytmkpfllbmdahkaa.Am
open Go Go.RowKit
def dif (a b : Nat) : Nat := a ^^^ (a &&& b)
theorem dif_bit (a b i : Nat) : (dif a b).testBit i = (a.testBit i && !b.testBit i) := by
  unfold dif
  rw [Nat.testBit_xor, Nat.testBit_and]
  cases a.testBit i <;> cases b.testBit i <;> rfl
theorem dif_lt {a b m : Nat} (ha : a < 2 ^ m) : dif a b < 2 ^ m := by
  refine Nat.lt_pow_two_of_testBit _ fun i hi => ?_
  rw [dif_bit, Nat.testBit_lt_two_pow (Nat.lt_of_lt_of_le ha (Nat.pow_le_pow_right (by decide) hi))]; rfl
theorem dif_or (A a b : Nat) : dif A (a ||| b) = dif A a &&& dif A b := by
  apply Nat.eq_of_testBit_eq; intro i
  rw [Nat.testBit_and, dif_bit, dif_bit, dif_bit, Nat.testBit_or]
  cases A.testBit i <;> cases a.testBit i <;> cases b.testBit i <;> rfl
theorem dif_and (A a b : Nat) : dif A (a &&& b) = dif A a ||| dif A b := by
  apply Nat.eq_of_testBit_eq; intro i
  rw [Nat.testBit_or, dif_bit, dif_bit, dif_bit, Nat.testBit_and]
  cases A.testBit i <;> cases a.testBit i <;> cases b.testBit i <;> rfl
theorem dif_zero (A : Nat) : dif A 0 = A := by
  apply Nat.eq_of_testBit_eq; intro i
  rw [dif_bit]; simp
/-- The sum of the single ranks of the holders below n in a set. -/
def sumH (l : List Int) (c : Nat) : Nat → Int
  | 0 => 0
  | n + 1 => sumH l c n + (if c.testBit n = true then l.getD (2 ^ n) 0 else 0)
theorem sumH_mod (l : List Int) (a b : Nat) : ∀ n, sumH l a n + sumH l b n = sumH l (a ||| b) n + sumH l (a &&& b) n
  | 0 => rfl
  | n + 1 => by
    have h := sumH_mod l a b n
    simp only [sumH, Nat.testBit_or, Nat.testBit_and]
    cases a.testBit n <;> cases b.testBit n <;> simp <;> omega
theorem sumH_zero (l : List Int) : ∀ n, sumH l 0 n = 0
  | 0 => rfl
  | n + 1 => by simp only [sumH, sumH_zero l n, Nat.zero_testBit]; rfl
section
variable {l : List Int} {m : Nat}
theorem getD_nonneg (hw : Within l) (i : Nat) : 0 ≤ l.getD i 0 := by
  rcases Nat.lt_or_ge i l.length with h | h
  · exact (hw i h).1
  · rw [List.getD_eq_getElem?_getD, List.getElem?_eq_none h]; exact Int.le_refl _
theorem meets_at (hM : Meets l) {a b : Nat} (ha : a < l.length) (hb : b < l.length) : l.getD (a ||| b) 0 + l.getD (a &&& b) 0 ≤ l.getD a 0 + l.getD b 0 := by
  have := hM a ha b hb
  unfold Bad at this
  omega
/-- Added holders raise a rank by no more than their own. -/
theorem rank_add (hl : l.length = 2 ^ m) (hw : Within l) (hM : Meets l) {z c : Nat} (hz : z < 2 ^ m) (hc : c < 2 ^ m) : ∀ n, n ≤ m → l.getD (z ||| c % 2 ^ n) 0 ≤ l.getD z 0 + sumH l c n
  | 0, _ => by
    have : c % 2 ^ 0 = 0 := by rw [Nat.pow_zero]; exact Nat.mod_one c
    rw [this, Nat.or_zero]; simp [sumH]
  | n + 1, hn => by
    have ih := rank_add hl hw hM hz hc n (by omega)
    have hlt : c % 2 ^ n < 2 ^ m := Nat.lt_of_le_of_lt (Nat.mod_le _ _) hc
    have hpn : 2 ^ n < 2 ^ m := Nat.pow_lt_pow_right (by decide) (by omega)
    by_cases hb : c.testBit n = true
    · have e : z ||| c % 2 ^ (n + 1) = (z ||| c % 2 ^ n) ||| 2 ^ n := by
        apply Nat.eq_of_testBit_eq; intro i
        rw [Nat.testBit_or, Nat.testBit_or, Nat.testBit_or, Nat.testBit_mod_two_pow, Nat.testBit_mod_two_pow, Nat.testBit_two_pow]
        by_cases h1 : n = i
        · subst h1; simp [hb]
        · by_cases h2 : i < n
          · have : i < n + 1 := by omega
            simp [h2, this, h1]
          · have : ¬ i < n + 1 := by omega
            simp [h2, this, h1]
      have h1 := meets_at hM (a := z ||| c % 2 ^ n) (b := 2 ^ n) (by rw [hl]; exact Nat.or_lt_two_pow hz hlt) (by rw [hl]; exact hpn)
      have h2 := getD_nonneg hw ((z ||| c % 2 ^ n) &&& 2 ^ n)
      rw [e]
      simp only [sumH, if_pos hb]
      omega
    · have e : c % 2 ^ (n + 1) = c % 2 ^ n := by
        apply Nat.eq_of_testBit_eq; intro i
        rw [Nat.testBit_mod_two_pow, Nat.testBit_mod_two_pow]
        by_cases h1 : n = i
        · subst h1; simp at hb; simp [hb]
        · by_cases h2 : i < n
          · have : i < n + 1 := by omega
            simp [h2, this]
          · have : ¬ i < n + 1 := by omega
            simp [h2, this]
      rw [e]
      simp only [sumH, if_neg hb]
      omega
theorem opens_up {gs : List (List Int)} {a b : Nat} (h : Opens gs a) (hab : a &&& b = a) : Opens gs b := by
  obtain ⟨g, hg, h1⟩ := h
  refine ⟨g, hg, ?_⟩
  apply Nat.eq_of_testBit_eq; intro i
  have h2 := congrArg (fun x => x.testBit i) h1
  have h3 := congrArg (fun x => x.testBit i) hab
  simp only [Nat.testBit_and] at h2 h3 ⊢
  revert h2 h3
  cases a.testBit i <;> cases b.testBit i <;> cases (bitsOf g).testBit i <;> simp
end
/-- What the unit adds for a set that does not open. -/
noncomputable def uO (u : Int) (gs : List (List Int)) (x : Nat) : Int := if tv (Opens gs x) = true then 0 else u
noncomputable def dualAt (l : List Int) (u : Int) (gs : List (List Int)) (m c : Nat) : Int := l.getD (dif (2 ^ m - 1) c) 0 - l.getD (2 ^ m - 1) 0 + sumH l c m + uO u gs (dif (2 ^ m - 1) c)
noncomputable def dualL (l : List Int) (u : Int) (gs : List (List Int)) (m n : Nat) : List Int := (List.range n).map (dualAt l u gs m)
theorem dualL_len (l : List Int) (u : Int) (gs : List (List Int)) (m n : Nat) : (dualL l u gs m n).length = n := by simp [dualL]
theorem dualL_at {l : List Int} {u : Int} {gs : List (List Int)} {m n i : Nat} (h : i < n) : (dualL l u gs m n).getD i 0 = dualAt l u gs m i := by
  rw [List.getD_eq_getElem?_getD]
  simp [dualL, h]
section
variable {l : List Int} {u : Int} {gs : List (List Int)} {m : Nat}
theorem uO_mono {a b : Nat} (hu : 0 ≤ u) (hab : a &&& b = a) : uO u gs b ≤ uO u gs a := by
  unfold uO
  by_cases ha : Opens gs a
  · rw [tv_true ha, tv_true (opens_up ha hab)]; exact Int.le_refl _
  · rw [tv_false ha]
    by_cases hb : Opens gs b
    · rw [tv_true hb]; simpa using hu
    · rw [tv_false hb]; exact Int.le_refl _
theorem dual_mono (hl : l.length = 2 ^ m) (hw : Within l) (hM : Meets l) (hu : 0 ≤ u) {a b : Nat} (ha : a < 2 ^ m) (hb : b < 2 ^ m) (hab : a &&& b = a) : dualAt l u gs m a ≤ dualAt l u gs m b := by
  have hA : 2 ^ m - 1 < 2 ^ m := by have := Nat.two_pow_pos m; omega
  have full : ∀ i, (2 ^ m - 1).testBit i = decide (i < m) := fun i => Nat.testBit_two_pow_sub_one m i
  -- what stands outside a is what stands outside b, with d = b without a
  have e1 : dif (2 ^ m - 1) b ||| dif b a % 2 ^ m = dif (2 ^ m - 1) a := by
    have hd : dif b a % 2 ^ m = dif b a := Nat.mod_eq_of_lt (dif_lt hb)
    rw [hd]
    apply Nat.eq_of_testBit_eq; intro i
    have h3 := congrArg (fun x => x.testBit i) hab
    have h4 : i ≥ m → b.testBit i = false := fun hi => Nat.testBit_lt_two_pow (Nat.lt_of_lt_of_le hb (Nat.pow_le_pow_right (by decide) hi))
    simp only [Nat.testBit_and, Nat.testBit_or, dif_bit, full] at h3 ⊢
    by_cases hi : i < m
    · revert h3
      cases a.testBit i <;> cases b.testBit i <;> simp [hi]
    · rw [h4 (by omega)] at h3 ⊢
      revert h3
      cases a.testBit i <;> simp [hi]
  have h1 := rank_add hl hw hM (z := dif (2 ^ m - 1) b) (c := dif b a) (dif_lt hA) (dif_lt hb) m (Nat.le_refl _)
  rw [e1] at h1
  -- the single ranks
  have e2 : sumH l a m + sumH l (dif b a) m = sumH l b m := by
    have h := sumH_mod l a (dif b a) m
    have e3 : a ||| dif b a = b := by
      apply Nat.eq_of_testBit_eq; intro i
      have h3 := congrArg (fun x => x.testBit i) hab
      simp only [Nat.testBit_and, Nat.testBit_or, dif_bit] at h3 ⊢
      revert h3
      cases a.testBit i <;> cases b.testBit i <;> simp
    have e4 : a &&& dif b a = 0 := by
      apply Nat.eq_of_testBit_eq; intro i
      simp only [Nat.testBit_and, dif_bit, Nat.zero_testBit]
      cases a.testBit i <;> cases b.testBit i <;> rfl
    rw [e3, e4, sumH_zero] at h
    omega
  have h2 := uO_mono (gs := gs) hu (a := dif (2 ^ m - 1) b) (b := dif (2 ^ m - 1) a) (by
    apply Nat.eq_of_testBit_eq; intro i
    have h3 := congrArg (fun x => x.testBit i) hab
    simp only [Nat.testBit_and, dif_bit] at h3 ⊢
    revert h3
    cases a.testBit i <;> cases b.testBit i <;> cases (2 ^ m - 1).testBit i <;> simp)
  unfold dualAt
  omega
theorem dual_meets (hl : l.length = 2 ^ m) (hM : Meets l) (hu : 0 ≤ u) (hfit : ∀ a, a < l.length → ∀ b, b < l.length → ¬ Mis l u gs a b) {a b : Nat} (ha : a < 2 ^ m) (hb : b < 2 ^ m) :
    dualAt l u gs m (a ||| b) + dualAt l u gs m (a &&& b) ≤ dualAt l u gs m a + dualAt l u gs m b := by
  have hA : 2 ^ m - 1 < 2 ^ m := by have := Nat.two_pow_pos m; omega
  unfold dualAt
  rw [dif_or, dif_and]
  have hs := sumH_mod l a b m
  have hX : dif (2 ^ m - 1) a < l.length := by rw [hl]; exact dif_lt hA
  have hY : dif (2 ^ m - 1) b < l.length := by rw [hl]; exact dif_lt hA
  generalize dif (2 ^ m - 1) a = X at *
  generalize dif (2 ^ m - 1) b = Y at *
  have h1 := meets_at hM hX hY
  have m1 := uO_mono (gs := gs) hu (a := X &&& Y) (b := X) (by apply Nat.eq_of_testBit_eq; intro i; simp only [Nat.testBit_and]; cases X.testBit i <;> cases Y.testBit i <;> rfl)
  have m2 := uO_mono (gs := gs) hu (a := X) (b := X ||| Y) (by apply Nat.eq_of_testBit_eq; intro i; simp only [Nat.testBit_and, Nat.testBit_or]; cases X.testBit i <;> cases Y.testBit i <;> rfl)
  have m3 := uO_mono (gs := gs) hu (a := X &&& Y) (b := Y) (by apply Nat.eq_of_testBit_eq; intro i; simp only [Nat.testBit_and]; cases X.testBit i <;> cases Y.testBit i <;> rfl)
  have m4 := uO_mono (gs := gs) hu (a := Y) (b := X ||| Y) (by apply Nat.eq_of_testBit_eq; intro i; simp only [Nat.testBit_and, Nat.testBit_or]; cases X.testBit i <;> cases Y.testBit i <;> rfl)
  have v : ∀ z, (uO u gs z = 0 ∧ Opens gs z) ∨ (uO u gs z = u ∧ ¬ Opens gs z) := fun z => by
    unfold uO
    by_cases hz : Opens gs z
    · rw [tv_true hz]; exact .inl ⟨rfl, hz⟩
    · rw [tv_false hz]; exact .inr ⟨rfl, hz⟩
  have hf := hfit X hX Y hY
  rcases v X with ⟨x1, x2⟩ | ⟨x1, x2⟩ <;> rcases v Y with ⟨y1, y2⟩ | ⟨y1, y2⟩ <;> rcases v (X &&& Y) with ⟨z1, z2⟩ | ⟨z1, z2⟩ <;> first
    | omega
    | (have : ¬ (l.getD X 0 + l.getD Y 0 < l.getD (X ||| Y) 0 + l.getD (X &&& Y) 0 + u) := fun hc => hf (.inr ⟨x2, y2, z2, hc⟩)
       omega)
/-- Dual ranks are ranks if none is too great. -/
theorem dual_ok (hr : OkR m u l) (hop : Opens gs (2 ^ m - 1)) (hfit : ∀ a, a < l.length → ∀ b, b < l.length → ¬ Mis l u gs a b) : OkR m u (dualL l u gs m (2 ^ m)) ↔ ∀ x ∈ dualL l u gs m (2 ^ m), x ≤ 100000 := by
  obtain ⟨h1, h2, h3, h4, h5, h6⟩ := hr
  have h3 : l.length = 2 ^ m := by simpa using h3
  have hpos := Nat.two_pow_pos m
  have len := dualL_len l u gs m (2 ^ m)
  have z0 : dualAt l u gs m 0 = 0 := by
    unfold dualAt uO
    rw [dif_zero, sumH_zero, tv_true hop]; simp
  have mono := fun {a b : Nat} (ha : a < 2 ^ m) (hb : b < 2 ^ m) (hab : a &&& b = a) => dual_mono (gs := gs) h3 h5 h6 (by omega : 0 ≤ u) ha hb hab
  constructor
  · intro h x hx
    obtain ⟨i, hi⟩ := List.getElem?_of_mem hx
    have hil := (List.getElem?_eq_some_iff.1 hi).1
    have := (h.2.2.2.2.1 i hil).2
    rw [getD_of hi] at this
    exact this
  · intro h
    refine ⟨h1, h2, by simpa using len, by rw [dualL_at hpos, z0], fun i hi => ?_, fun a ha b hb hbad => ?_⟩
    · rw [len] at hi
      have h7 := mono hpos hi (Nat.zero_and i)
      rw [z0] at h7
      rw [dualL_at hi]
      refine ⟨h7, h _ ?_⟩
      rw [← dualL_at (l := l) (u := u) (gs := gs) (m := m) hi, List.getD_eq_getElem?_getD, List.getElem?_eq_getElem (by omega)]
      exact List.getElem_mem _
    · rw [len] at ha hb
      have hab := Nat.or_lt_two_pow ha hb
      have hcd := Nat.and_lt_two_pow a hb
      unfold Bad at hbad
      rw [dualL_at ha, dualL_at hb, dualL_at hab, dualL_at hcd] at hbad
      have h7 := dual_meets h3 h6 (by omega : 0 ≤ u) hfit ha hb
      rcases hbad with ⟨h8, h9⟩ | h8
      · have := mono ha hb h8; omega
      · omega
end
end Go.Proofs.Ytmkpfllbmdahkaa.Am
/- What the laws' own functions do at Ranks: sizes, copies, equality, marks. Each holds under its own conditions. -/
set_option linter.unusedVariables false
set_option maxRecDepth 20000
namespace Go.Proofs.Ytmkpfllbmdahkaa.Am
open Go Go.RowKit Go.Proofs
abbrev T_Ranks : Type := (Int) × (Int) × (List Int)
abbrev K_Ranks : Kn T_Ranks := Kn.pair (KI) (Kn.pair (KI) (K_Int64S))
abbrev M_Ranks : Kn T_Ranks := Kn.mp (KI) (Kn.mp (KI) (M_Int64S))
theorem le_Ranks : KLe M_Ranks K_Ranks := KLe.pair ((KLe.refl KI)) (KLe.pair ((KLe.refl KI)) (le_Int64S))
abbrev B_Ranks (x : T_Ranks) : Prop := I64 x.1 ∧ I64 x.2.1 ∧ B_Int64S x.2.2
abbrev W_Ranks (x : T_Ranks) : Prop := I64 x.1 ∧ I64 x.2.1 ∧ W_Int64S x.2.2
abbrev sz_Ranks (x : T_Ranks) : Nat := sz_Int64S x.2.2
abbrev mk_Ranks (k : Int) (x : T_Ranks) : T_Ranks := (x.1, x.2.1, mk_Int64S (k) x.2.2)
theorem size_Ranks {x : T_Ranks} (hB : B_Ranks x) : sz_Ranks x ≤ 1048576 := by have := size_Int64S hB.2.2; simp only [sz_Ranks]; omega
section
variable {S : Ids} {H0 : AH} {W : Ids} {left k : Int}
theorem form_Ranks {x : T_Ranks} {cs : List Value} (h : K_Ranks.R S H0 x cs) : ∃ a1 c1, cs = [.int .i64 x.1, .int .i64 x.2.1, .slice a1 x.2.2.length c1] := by
  obtain ⟨e0, d0, rfl, h0, h0_⟩ := h
  obtain ⟨e1, d1, rfl, h1, h1_⟩ := h0_
  have h2 := h1_
  obtain rfl := KI_of h0
  obtain rfl := KI_of h1
  obtain ⟨a1, c1, rfl⟩ := slform h2
  exact ⟨a1, c1, rfl⟩
theorem formM_Ranks {x : T_Ranks} {cs : List Value} (h : M_Ranks.R S H0 x cs) : ∃ a1 c1, cs = [.int .i64 x.1, .int .i64 x.2.1, .slice a1 x.2.2.length c1] := form_Ranks (le_Ranks.2 _ _ _ _ h)
theorem split_Ranks {x : T_Ranks} {cs : List Value} (h : K_Ranks.R S H0 x cs) : ∃ a1 c1, cs = [.int .i64 x.1, .int .i64 x.2.1, .slice a1 x.2.2.length c1] ∧ K_Int64S.R S H0 x.2.2 [.slice a1 x.2.2.length c1] := by
  obtain ⟨e0, d0, rfl, h0, h0_⟩ := h
  obtain ⟨e1, d1, rfl, h1, h1_⟩ := h0_
  have h2 := h1_
  obtain rfl := KI_of h0
  obtain rfl := KI_of h1
  obtain ⟨a1, c1, rfl⟩ := slform h2
  exact ⟨a1, c1, rfl, h2⟩
theorem splitM_Ranks {x : T_Ranks} {cs : List Value} (h : M_Ranks.R S H0 x cs) : ∃ (a1 : Option Addr) (c1 : Nat) (X2 : Ids), cs = [.int .i64 x.1, .int .i64 x.2.1, .slice a1 x.2.2.length c1] ∧ M_Int64S.R X2 H0 x.2.2 [.slice a1 x.2.2.length c1] ∧ (∀ id, X2 id → S id) := by
  obtain ⟨e0, d0, X0, Y0, rfl, i0, j0, q0, h0, h0_⟩ := h
  obtain ⟨e1, d1, X1, Y1, rfl, i1, j1, q1, h1, h1_⟩ := h0_
  have h2 := h1_
  obtain rfl := KI_of h0
  obtain rfl := KI_of h1
  obtain ⟨a1, c1, rfl⟩ := mlform h2
  exact ⟨a1, c1, Y1, rfl, h2, fun _ p => j0 _ (j1 _ p)⟩
theorem to_Ranks {x : T_Ranks} {cs : List Value} (hB : B_Ranks x) (h : K_Ranks.R S H0 x cs) : SpecM Try.prog S H0 77 [.agg cs.toArray] (fun n v H1 => ∃ cs, v = .agg cs.toArray ∧ M_Ranks.R (New n H1.n) H1 x cs) := by
  obtain ⟨a1, c1, rfl, h2⟩ := split_Ranks h
  refine SpecM.of1 Try.func77 rfl (by kernel_rfl) rfl (fun H _ => ?_)
  refine KW.callN1 rfl rfl rfl rfl rfl (to_Int64S hB.2.2 (On.R h2)) (fun v G2 S2 m2 _ _ hv => ?_)
  obtain ⟨b2, d2, rfl, g2⟩ := hv
  refine KW.retM1 rfl rfl rfl rfl (fun H1 g => ?_)
  refine ⟨_, rfl, ?_⟩
  have k2 : M_Int64S.R (New H.n H1.n) H1 x.2.2 [.slice b2 x.2.2.length d2] := (M_Int64S).more (g.inn (H := G2) (fun _ p => by have := p.1; omega)) (g.keep g2)
  have k1 : (Kn.mp (KI) (M_Int64S)).R (New H.n H1.n) H1 (x.2) [.int .i64 x.2.1, .slice b2 x.2.2.length d2] := mpR (X := None_) (show KI.R None_ H1 _ [.int .i64 x.2.1] from rfl) k2 (fun _ p => p.elim) (fun _ p => p) (fun _ p _ => p.elim)
  have k0 : (Kn.mp (KI) (Kn.mp (KI) (M_Int64S))).R (New H.n H1.n) H1 (x) [.int .i64 x.1, .int .i64 x.2.1, .slice b2 x.2.2.length d2] := mpR (X := None_) (show KI.R None_ H1 _ [.int .i64 x.1] from rfl) k1 (fun _ p => p.elim) (fun _ p => p) (fun _ p _ => p.elim)
  exact k0
theorem eq_Ranks {x : T_Ranks} {cs cs' : List Value} (hB : B_Ranks x) (h : K_Ranks.R S H0 x cs) (h' : K_Ranks.R S H0 x cs') : Spec Try.prog S H0 24 [.agg cs.toArray, .agg cs'.toArray] (fun v => v = .bool true) := by
  obtain ⟨a1, c1, rfl, h2⟩ := split_Ranks h
  obtain ⟨b1, d1, rfl, k2⟩ := split_Ranks h'
  refine Spec.of1 Try.func24 rfl (by kernel_rfl) rfl (fun H _ => ?_)
  refine KW.cF rfl rfl (by first | (simp; done) | decide) ?_
  refine KW.cF rfl rfl (by first | (simp; done) | decide) ?_
  refine KW.callE rfl rfl rfl rfl rfl (eq_Int64S hB.2.2 (On.R h2) (On.R k2)) (fun _ _ => ?_)
  refine KW.cF rfl rfl (by first | (simp; done) | decide) ?_
  exact KW.ret rfl rfl rfl rfl (rfl)
theorem sz_Ranks' {x : T_Ranks} {cs : List Value} (l0 : 0 ≤ left) (l1 : left ≤ 1048576) (hW : W_Ranks x) (h : K_Ranks.R S H0 x cs) : Spec Try.prog S H0 75 [.agg cs.toArray, .int .i64 left] (SzPost left (B_Ranks x)) := by
  obtain ⟨a1, c1, rfl, h2⟩ := split_Ranks h
  refine Spec.of1 Try.func75 rfl (by kernel_rfl) rfl (fun H _ => ?_)
  refine KW.call rfl rfl rfl rfl rfl (sz_Int64S' l0 l1 hW.2.2 (On.R h2)) (fun v _ _ hv => ?_)
  obtain ⟨r2, rfl, k2⟩ := hv
  refine KW.cnd rfl rfl (fun h => KW.ret rfl rfl rfl rfl ⟨-1, rfl, .inl rfl⟩) (fun h => ?_)
  have k2 := k2.resolve_left (by omega)
  exact KW.ret rfl rfl rfl rfl (⟨_, rfl, .inr ⟨k2.1, by have := k2.2.1; omega, hW.1, hW.2.1, k2.2.2⟩⟩)
theorem mark_Ranks {x : T_Ranks} {cs : List Value} (hB : B_Ranks x) (hk : Mk k (sz_Ranks x)) (hW : ∀ id, W id → S id) (h : M_Ranks.R W H0 x cs) : SpecW Try.prog S H0 W 27 [.agg cs.toArray, .int .i64 k] (fun n v H1 => v = .int .i64 (k + (sz_Ranks x : Nat)) ∧ M_Ranks.R W H1 (mk_Ranks k x) cs) := by
  obtain ⟨a1, c1, X2, rfl, h2, i2⟩ := splitM_Ranks h
  refine SpecW.of0 Try.func27 rfl (by kernel_rfl) rfl (fun H hfin hfz => ?_)
  have F2 : Fk M_Int64S X2 (Low H.n) H _ _ := ⟨(M_Int64S).same (fun id hid => (hfz id (hW id (i2 id hid))).2) h2, fun id hid => (hfz id (hW id (i2 id hid))).1⟩
  have T : ∀ id, id < H.n → Low H.n id ∧ (¬ W id → H.m id = H.m id) := fun id hid => ⟨hid, fun _ => rfl⟩
  refine KW.callW F2.i rfl rfl rfl rfl rfl (mark_Int64S hB.2.2 (k := k) (by have := hk.1; have := hk.2; simp only [sz_Ranks] at this; constructor <;> omega) F2.i F2.r) (fun v H2 S2 m2 t2 w2 hv => ?_)
  obtain ⟨rfl, g2⟩ := hv
  have F2 : Fk M_Int64S X2 S2 H2 _ _ := ⟨g2, fun id hid => (t2 id (F2.i id hid)).1⟩
  have T : ∀ id, id < H.n → S2 id ∧ (¬ W id → H2.m id = H.m id) := fun id hid => ⟨(t2 id (T id hid).1).1, fun hw => ((t2 id (T id hid).1).2 (fun o => hw (i2 id o))).trans ((T id hid).2 hw)⟩
  refine KW.retW rfl rfl rfl rfl (fun H1 g => by have := g.n_; omega) (fun id hid hw => ⟨(T id hid).1, (T id hid).2 hw⟩) (fun H1 g => ?_)
  refine ⟨rfl, ?_⟩
  have G2 := (M_Int64S).same (H' := H1) (fun id hid => (g.froz id (F2.i id hid)).2) F2.r
  have k2 : M_Int64S.R (fun id => X2 id) H1 (mk_Int64S (k) x.2.2) [.slice a1 x.2.2.length c1] := G2
  have k1 : (Kn.mp (KI) (M_Int64S)).R (fun id => X2 id) H1 (x.2.1, (mk_Int64S (k) x.2.2)) [.int .i64 x.2.1, .slice a1 x.2.2.length c1] := mpR (X := None_) (show KI.R None_ H1 _ [.int .i64 x.2.1] from rfl) k2 (fun _ p => p.elim) (fun _ p => p) (fun _ p _ => p.elim)
  have k0 : (Kn.mp (KI) (Kn.mp (KI) (M_Int64S))).R (fun id => X2 id) H1 (x.1, x.2.1, (mk_Int64S (k) x.2.2)) [.int .i64 x.1, .int .i64 x.2.1, .slice a1 x.2.2.length c1] := mpR (X := None_) (show KI.R None_ H1 _ [.int .i64 x.1] from rfl) k1 (fun _ p => p.elim) (fun _ p => p) (fun _ p _ => p.elim)
  exact (M_Ranks).more (fun id p => i2 id p) k0
theorem held_Ranks {x : T_Ranks} {cs : List Value} (hB : B_Ranks x) (hk : Mk k (sz_Ranks x)) (h : K_Ranks.R S H0 (mk_Ranks k x) cs) : Spec Try.prog S H0 28 [.agg cs.toArray, .int .i64 k] (fun v => v = .int .i64 (k + (sz_Ranks x : Nat))) := by
  obtain ⟨a1, c1, rfl, h2⟩ := split_Ranks h
  refine Spec.of1 Try.func28 rfl (by kernel_rfl) rfl (fun H _ => ?_)
  refine KW.callE rfl rfl rfl rfl rfl (held_Int64S hB.2.2 (k := k) (by have := hk.1; have := hk.2; simp only [sz_Ranks] at this; constructor <;> omega) (On.R h2)) (fun _ _ => ?_)
  refine KW.no rfl rfl (by have := hk.1; omega) ?_
  exact KW.ret rfl rfl rfl rfl (rfl)
end
end Go.Proofs.Ytmkpfllbmdahkaa.Am
/- Contracts: DualRanks, of the program and of the reference. Each holds under its own conditions. -/
set_option linter.unusedVariables false
set_option linter.unusedSimpArgs false
set_option maxRecDepth 20000
namespace Go.Proofs.Ytmkpfllbmdahkaa.Am
open Go Go.RowKit Go.Proofs
theorem andnot_nat (a b i : Nat) : ((BitVec.ofNat 64 a &&& ~~~BitVec.ofNat 64 b).toNat).testBit i = (decide (i < 64) && (a.testBit i && !b.testBit i)) := by
  rw [BitVec.testBit_toNat, BitVec.getLsbD_and, BitVec.getLsbD_not, BitVec.getLsbD_ofNat, BitVec.getLsbD_ofNat]
  by_cases h : i < 64 <;> simp [h]
theorem dif_small {a b : Nat} (ha : a < 4611686018427387904) : dif a b < 4611686018427387904 := dif_lt (m := 62) ha
theorem andnot_eq {a b : Nat} (ha : a < 4611686018427387904) : (BitVec.ofNat 64 a &&& ~~~BitVec.ofNat 64 b).toNat = dif a b := by
  apply Nat.eq_of_testBit_eq; intro i
  rw [andnot_nat, dif_bit]
  by_cases h : i < 64
  · simp [h]
  · have : a.testBit i = false := Nat.testBit_lt_two_pow (Nat.lt_of_lt_of_le (show a < 2 ^ 62 from ha) (Nat.pow_le_pow_right (by decide) (by omega)))
    simp [h, this]
theorem andnot_u64 {a b : Nat} (ha : a < 4611686018427387904) (hb : b < 4611686018427387904) : IntKind.u64.wrap ((BitVec.ofInt IntKind.u64.bits (a : Int) &&& ~~~BitVec.ofInt IntKind.u64.bits (b : Int)).toNat : Int) = ((dif a b : Nat) : Int) := by
  show IntKind.u64.wrap ((BitVec.ofInt 64 (a : Int) &&& ~~~BitVec.ofInt 64 (b : Int)).toNat : Int) = _
  rw [bv_nat ha, bv_nat hb, andnot_eq ha]
  have := dif_small (b := b) ha
  exact wru (by omega) (by omega)
theorem andnot_i64 {a b : Nat} (ha : a < 4611686018427387904) (hb : b < 4611686018427387904) : IntKind.i64.wrap ((BitVec.ofInt IntKind.i64.bits (a : Int) &&& ~~~BitVec.ofInt IntKind.i64.bits (b : Int)).toNat : Int) = ((dif a b : Nat) : Int) := by
  show IntKind.i64.wrap ((BitVec.ofInt 64 (a : Int) &&& ~~~BitVec.ofInt 64 (b : Int)).toNat : Int) = _
  rw [bv_nat ha, bv_nat hb, andnot_eq ha]
  have := dif_small (b := b) ha
  exact wr (by omega) (by omega)
/-- The sum of the single ranks of some holders. -/
def sumL (l : List Int) : List Int → Int
  | [] => 0
  | h :: hs => l.getD (2 ^ h.toNat) 0 + sumL l hs
theorem sumL_app (l : List Int) (xs : List Int) (h : Int) : sumL l (xs ++ [h]) = sumL l xs + l.getD (2 ^ h.toNat) 0 := by
  induction xs with
  | nil => simp [sumL]
  | cons x xs ih => simp only [List.cons_append, sumL, ih]; omega
theorem sumL_hold (l : List Int) (c : Nat) : ∀ n, sumL l (hold c n) = sumH l c n
  | 0 => rfl
  | n + 1 => by
    rw [hold_next]
    simp only [sumH]
    by_cases h : c.testBit n = true
    · rw [if_pos h, if_pos h, sumL_app, sumL_hold l c n]; rfl
    · rw [if_neg h, if_neg h, sumL_hold l c n]; omega
theorem hold_mem {c n : Nat} {x : Int} (h : x ∈ hold c n) : ∃ i : Nat, x = i ∧ i < n ∧ c.testBit i = true := by
  unfold hold at h
  obtain ⟨i, hi, rfl⟩ := List.mem_map.1 h
  obtain ⟨h1, h2⟩ := List.mem_filter.1 hi
  exact ⟨i, rfl, List.mem_range.1 h1, h2⟩
theorem sumL_in {l : List Int} (hw : Within l) : ∀ xs : List Int, 0 ≤ sumL l xs ∧ sumL l xs ≤ 100000 * xs.length
  | [] => by simp [sumL]
  | x :: xs => by
    have h := sumL_in hw xs
    have h1 : 0 ≤ l.getD (2 ^ x.toNat) 0 ∧ l.getD (2 ^ x.toNat) 0 ≤ 100000 := by
      rcases Nat.lt_or_ge (2 ^ x.toNat) l.length with h | h
      · exact hw _ h
      · rw [List.getD_eq_getElem?_getD, List.getElem?_eq_none h]; show 0 ≤ (0 : Int) ∧ (0 : Int) ≤ 100000; omega
    simp only [sumL, List.length_cons]
    omega
theorem getD_in {l : List Int} (hw : Within l) (i : Nat) : 0 ≤ l.getD i 0 ∧ l.getD i 0 ≤ 100000 := by
  rcases Nat.lt_or_ge i l.length with h | h
  · exact hw _ h
  · rw [List.getD_eq_getElem?_getD, List.getElem?_eq_none h]; show 0 ≤ (0 : Int) ∧ (0 : Int) ≤ 100000; omega
theorem sumL_take {l xs : List Int} {i : Nat} {x : Int} (h : xs[i]? = some x) : sumL l (xs.take (i + 1)) = sumL l (xs.take i) + l.getD (2 ^ x.toNat) 0 := by
  obtain ⟨hi, rfl⟩ := List.getElem?_eq_some_iff.1 h
  rw [List.take_succ_eq_append_getElem hi, sumL_app]
theorem sumH_in {l : List Int} (hw : Within l) (c : Nat) : ∀ n, 0 ≤ sumH l c n ∧ sumH l c n ≤ 100000 * n
  | 0 => by simp [sumH]
  | n + 1 => by
    have h := sumH_in hw c n
    have h1 := getD_in hw (2 ^ n)
    simp only [sumH]
    split <;> omega
theorem ranksM {X : Ids} {H : AH} {v : Value} {m u : Int} {xs : List Int} (h : KI.Ml X H v xs) : M_Ranks.R X H (m, u, xs) [.int .i64 m, .int .i64 u, v] :=
  mpR (X := None_) (cs := [.int .i64 m]) (show KI.R None_ H m _ from rfl) (mpR (X := None_) (cs := [.int .i64 u]) (show KI.R None_ H u _ from rfl) (ml1' h) (fun _ p => p.elim) (fun _ p => p) (fun _ p _ => p.elim)) (fun _ p => p.elim) (fun _ p => p) (fun _ p _ => p.elim)
theorem familyOpens {m : Int} {gs : List (List Int)} {q : Nat} (hq : m = q) (h : codeF m gs = 0) : FamOk m gs ∧ Opens gs (2 ^ q - 1) := by
  unfold codeF at h
  split at h
  · rename_i h1
    have h1 := tv_iff.1 h1
    refine ⟨h1, ?_⟩
    have h2 : gs.length ≠ 0 := fun hc => by
      rw [if_pos hc] at h
      split at h <;> cases h
    obtain ⟨g, hg⟩ : ∃ g, gs[0]? = some g := ⟨gs[0]'(by omega), List.getElem?_eq_getElem (by omega)⟩
    have hgm := List.mem_of_getElem? hg
    refine ⟨g, hgm, ?_⟩
    have hb : bitsOf g < 2 ^ q := bitsOf_lt (fun x hx => by have := h1.below g hgm x hx; omega)
    rw [Nat.and_comm, Nat.and_two_pow_sub_one_eq_mod, Nat.mod_eq_of_lt hb]
  · cases h
theorem range_map_succ' {α : Type} (f : Nat → α) (n : Nat) : (List.range (n + 1)).map f = (List.range n).map f ++ [f n] := by rw [List.range_succ, List.map_append]; rfl
/-- The code of dual ranks. -/
noncomputable def r1_DualRanks (x : T_Ranks) (y : T_Family) : Int :=
  if fitC x.1 x.2.1 x.2.2 y.1 y.2 = 0 then (if tv (∀ a, a < x.2.2.length → ∀ b, b < x.2.2.length → ¬ Mis x.2.2 x.2.1 y.2 a b) = true then (if tv (∀ z ∈ dualL x.2.2 x.2.1 y.2 x.1.toNat (2 ^ x.1.toNat), z ≤ 100000) = true then 0 else 3) else 8) else fitC x.1 x.2.1 x.2.2 y.1 y.2
noncomputable def r0_DualRanks (x : T_Ranks) (y : T_Family) : T_Ranks := if r1_DualRanks x y = 0 then (x.1, x.2.1, dualL x.2.2 x.2.1 y.2 x.1.toNat (2 ^ x.1.toNat)) else (0, 0, [])
/-- Ranks and a code. -/
def MkRC (r : T_Ranks) (code : Int) (n : Nat) (v : Value) (H1 : AH) : Prop := ∃ cs : List Value, v = .tuple #[.agg cs.toArray, .int .i64 code] ∧ M_Ranks.R (New n H1.n) H1 r cs
theorem MkRC.nil {code : Int} {n : Nat} {v : Value} {H1 : AH} (hv : v = .tuple #[.agg #[.int .i64 0, .int .i64 0, .slice none 0 0], .int .i64 code]) : MkRC (0, 0, []) code n v H1 := ⟨_, hv, ranksM (.inl ⟨rfl, _, _, rfl, fun _ => rfl⟩)⟩
theorem built_Ranks (a b : Int) : Try.prog.built 37 [(0, .int .i64 a), (1, .int .i64 b)] = some #[.int .i64 a, .int .i64 b, .slice none 0 0] := by kernel_rfl
theorem built_Ranks0 : Try.prog.built 37 [] = some #[.int .i64 0, .int .i64 0, .slice none 0 0] := by kernel_rfl
section
variable {S : Ids} {H0 : AH}
end
end Go.Proofs.Ytmkpfllbmdahkaa.Am
/- Contracts: SequenceFor of the program. Each holds under its own conditions. -/
set_option linter.unusedVariables false
set_option linter.unusedSimpArgs false
set_option maxRecDepth 20000
namespace Go.Proofs.Ytmkpfllbmdahkaa.Am
open Go Go.RowKit Go.Proofs
theorem Least.one {gs : List (List Int)} {k b x w w' : Nat} {ok ok' : Bool} (h : Least gs k b x w ok) (h' : Least gs k b x w' ok') : w = w' ∧ ok = ok' := by
  rcases h with ⟨rfl, h1, h2, h3⟩ | ⟨rfl, rfl, h1⟩ <;> rcases h' with ⟨rfl, k1, k2, k3⟩ | ⟨rfl, rfl, k1⟩
  · rcases Nat.lt_trichotomy w w' with h | h | h
    · exact absurd h2 (k3 w h)
    · exact ⟨h, rfl⟩
    · exact absurd k2 (h3 w' h)
  · exact absurd h2 (k1 w h1)
  · exact absurd k2 (h1 w' (by omega))
  · exact ⟨rfl, rfl⟩
/-- What stands before place i. -/
def bef (ns : List Nat) (i : Nat) : Nat := if i = 0 then 0 else ns.getD (i - 1) 0
open Classical in
noncomputable def leastW (gs : List (List Int)) (k b x : Nat) : Nat := if h : ∃ w, Least gs k b x w true then Classical.choose h else 0
theorem leastW_eq {gs : List (List Int)} {k b x w : Nat} (h : Least gs k b x w true) : leastW gs k b x = w := by
  unfold leastW
  have hx : ∃ w, Least gs k b x w true := ⟨w, h⟩
  rw [dif_pos hx]
  exact ((Classical.choose_spec hx).one h).1
/-- The chain may go on at place i. -/
def OkAt (gs : List (List Int)) (k : Nat) (ns : List Nat) (i : Nat) : Prop := Chd gs k (bef ns i) (ns.getD i 0) ∧ ∃ w, Least gs k (bef ns i) (ns.getD i 0) w true
abbrev nums (chain : List (List Int)) : List Nat := chain.map bitsOf
noncomputable def withAt (gs : List (List Int)) (k : Nat) (ns : List Nat) (i : Nat) : List Int := hold (leastW gs k (bef ns i) (ns.getD i 0)) 7
noncomputable def withs (gs : List (List Int)) (k : Nat) (ns : List Nat) (n : Nat) : List (List Int) := (List.range n).map (withAt gs k ns)
noncomputable def r1_SequenceFor (y : T_Family) (known : List Int) (chain : List (List Int)) : Int :=
  if codeF y.1 y.2 = 0 then (if tv (Rises 0 (y.1 - 1) known ∧ ∀ g ∈ chain, Rises 0 (y.1 - 1) g) = true then (if tv (∀ i, i < chain.length → OkAt y.2 (bitsOf known) (nums chain) i) = true then 0 else 8) else 2) else codeF y.1 y.2
noncomputable def r0_SequenceFor (y : T_Family) (known : List Int) (chain : List (List Int)) : T_Sequence := if r1_SequenceFor y known chain = 0 then (known, chain, withs y.2 (bitsOf known) (nums chain) chain.length) else ([], [], [])
def MkQC (r : T_Sequence) (code : Int) (n : Nat) (v : Value) (H1 : AH) : Prop := ∃ cs : List Value, v = .tuple #[.agg cs.toArray, .int .i64 code] ∧ M_Sequence.R (New n H1.n) H1 r cs
theorem nilM {X : Ids} {H : AH} {α : Type} {d : Kn α} : d.ml.R X H [] [.slice none 0 0] := ml1' (.inl ⟨rfl, _, _, rfl, fun _ => rfl⟩)
theorem seqNil {X : Ids} {H : AH} : M_Sequence.R X H ([], [], []) [.slice none 0 0, .slice none 0 0, .slice none 0 0] :=
  mpR (X := None_) (cs := [.slice none 0 0]) nilM (mpR (X := None_) (Y := None_) (cs := [.slice none 0 0]) nilM nilM (fun _ p => p.elim) (fun _ p => p.elim) (fun _ p _ => p.elim)) (fun _ p => p.elim) (fun _ p => p) (fun _ p _ => p.elim)
theorem MkQC.nil {code : Int} {n : Nat} {v : Value} {H1 : AH} (hv : v = .tuple #[.agg #[.slice none 0 0, .slice none 0 0, .slice none 0 0], .int .i64 code]) : MkQC ([], [], []) code n v H1 := ⟨_, hv, seqNil⟩
theorem built_Seq0 : Try.prog.built 90 [] = some #[.slice none 0 0, .slice none 0 0, .slice none 0 0] := by kernel_rfl
theorem built_Seq1 (a : Option Addr) (n c : Nat) : Try.prog.built 90 [(0, .slice a n c)] = some #[.slice a n c, .slice none 0 0, .slice none 0 0] := by kernel_rfl
theorem built_Seq3 (a1 : Option Addr) (n1 c1 : Nat) (a2 : Option Addr) (n2 c2 : Nat) (a3 : Option Addr) (n3 c3 : Nat) : Try.prog.built 90 [(0, .slice a1 n1 c1), (1, .slice a2 n2 c2), (2, .slice a3 n3 c3)] = some #[.slice a1 n1 c1, .slice a2 n2 c2, .slice a3 n3 c3] := by kernel_rfl
theorem sf_code {y : T_Family} {known : List Int} {chain : List (List Int)} (h : ¬ codeF y.1 y.2 = 0) : r1_SequenceFor y known chain = codeF y.1 y.2 ∧ r0_SequenceFor y known chain = ([], [], []) := by
  have e : r1_SequenceFor y known chain = codeF y.1 y.2 := by unfold r1_SequenceFor; rw [if_neg h]
  exact ⟨e, by unfold r0_SequenceFor; rw [e, if_neg h]⟩
theorem sf_range {y : T_Family} {known : List Int} {chain : List (List Int)} (h : codeF y.1 y.2 = 0) (h2 : ¬ (Rises 0 (y.1 - 1) known ∧ ∀ g ∈ chain, Rises 0 (y.1 - 1) g)) : r1_SequenceFor y known chain = 2 ∧ r0_SequenceFor y known chain = ([], [], []) := by
  have e : r1_SequenceFor y known chain = 2 := by unfold r1_SequenceFor; rw [if_pos h, if_neg (by rw [tv_false h2]; decide)]
  exact ⟨e, by unfold r0_SequenceFor; rw [e]; rfl⟩
theorem sf_proof {y : T_Family} {known : List Int} {chain : List (List Int)} (h : codeF y.1 y.2 = 0) (h2 : Rises 0 (y.1 - 1) known ∧ ∀ g ∈ chain, Rises 0 (y.1 - 1) g) (h3 : ¬ ∀ i, i < chain.length → OkAt y.2 (bitsOf known) (nums chain) i) : r1_SequenceFor y known chain = 8 ∧ r0_SequenceFor y known chain = ([], [], []) := by
  have e : r1_SequenceFor y known chain = 8 := by unfold r1_SequenceFor; rw [if_pos h, if_pos (tv_true h2), if_neg (by rw [tv_false h3]; decide)]
  exact ⟨e, by unfold r0_SequenceFor; rw [e]; rfl⟩
theorem sf_ok {y : T_Family} {known : List Int} {chain : List (List Int)} (h : codeF y.1 y.2 = 0) (h2 : Rises 0 (y.1 - 1) known ∧ ∀ g ∈ chain, Rises 0 (y.1 - 1) g) (h3 : ∀ i, i < chain.length → OkAt y.2 (bitsOf known) (nums chain) i) : r1_SequenceFor y known chain = 0 ∧ r0_SequenceFor y known chain = (known, chain, withs y.2 (bitsOf known) (nums chain) chain.length) := by
  have e : r1_SequenceFor y known chain = 0 := by unfold r1_SequenceFor; rw [if_pos h, if_pos (tv_true h2), if_pos (tv_true h3)]
  exact ⟨e, by unfold r0_SequenceFor; rw [e]; rfl⟩
theorem codeF_ok {m : Int} {gs : List (List Int)} (h : codeF m gs = 0) : FamOk m gs := by
  unfold codeF at h
  split at h
  · rename_i h1; exact tv_iff.1 h1
  · cases h
/-- The state of the loop. -/
structure SqS where
  i : Nat
  S : Ids
  A : AH
  l1 : Value
  l2 : Value
  tail : List Var
  V1 : Ids
  V2 : Ids
  c1 : List Value
  c2 : List Value
structure SqI (gs : List (List Int)) (k : Nat) (chain : List (List Int)) (SA : Ids) (HA : AH) (s : SqS) : Prop where
  le : s.i ≤ chain.length
  old : St SA HA s.S s.A
  b1 : RowsB KI.ml s.S s.A s.V1 (chain.take s.i) s.c1
  b2 : RowsB KI.ml s.S s.A s.V2 (withs gs k (nums chain) s.i) s.c2
  v1 : ∀ id, s.V1 id → HA.n ≤ id
  v2 : ∀ id, s.V2 id → HA.n ≤ id
  dis : ∀ id, s.V1 id → s.V2 id → False
  ok : ∀ j, j < s.i → OkAt gs k (nums chain) j
  form : (s.i = 0 ∧ s.l1 = .slice none 0 0 ∧ s.l2 = .slice none 0 0 ∧ s.tail = [] ∧ s.c1 = [] ∧ s.c2 = []) ∨ (0 < s.i ∧ ∃ o1 o2, s.l1 = .slice (some ⟨o1, 0, some 1⟩) s.i s.i ∧ s.l2 = .slice (some ⟨o2, 0, some 1⟩) s.i s.i ∧ s.tail = [(o1, ⟨32, true, s.c1⟩), (o2, ⟨32, true, s.c2⟩)])
theorem SqI.next {gs : List (List Int)} {k : Nat} {chain : List (List Int)} {SA : Ids} {HA : AH} {s : SqS} (h : SqI gs k chain SA HA s) {SC SG : Ids} {HC HG : AH} {n1 n2 : Nat} {y : List Int} {v1 v2 l1 l2 : Value} {tail : List Var} (t1 : St s.S s.A SC HC) (t2 : St SC HC SG HG) (w1 : On (New n1 HC.n) HC SC HC) (w2 : On (New n2 HG.n) HG SG HG) (low : ∀ id, s.S id → id < n1) (hn : HA.n ≤ n1) (hn2 : HC.n ≤ n2) (hn3 : n1 ≤ HC.n) (hy : chain[s.i]? = some y) (hc : KI.Ml (New n1 HC.n) HC v1 y) (hg : KI.Ml (New n2 HG.n) HG v2 (withAt gs k (nums chain) s.i)) (ok : OkAt gs k (nums chain) s.i)
    (form : 0 < s.i + 1 ∧ ∃ o1 o2, l1 = .slice (some ⟨o1, 0, some 1⟩) (s.i + 1) (s.i + 1) ∧ l2 = .slice (some ⟨o2, 0, some 1⟩) (s.i + 1) (s.i + 1) ∧ tail = [(o1, ⟨32, true, s.c1 ++ [v1]⟩), (o2, ⟨32, true, s.c2 ++ [v2]⟩)]) :
    SqI gs k chain SA HA ⟨s.i + 1, SG, HG, l1, l2, tail, fun id => s.V1 id ∨ New n1 HC.n id, fun id => s.V2 id ∨ New n2 HG.n id, s.c1 ++ [v1], s.c2 ++ [v2]⟩ := by
  obtain ⟨hil, rfl⟩ := List.getElem?_eq_some_iff.1 hy
  haveI o1 : On s.S s.A SC HC := ⟨t1⟩
  haveI o2 : On SC HC SG HG := ⟨t2⟩
  have et : chain.take (s.i + 1) = chain.take s.i ++ [chain[s.i]] := List.take_succ_eq_append_getElem hil
  have ew : withs gs k (nums chain) (s.i + 1) = withs gs k (nums chain) s.i ++ [withAt gs k (nums chain) s.i] := by unfold withs; rw [List.range_succ, List.map_append]; rfl
  have lowV1 : ∀ id, s.V1 id → id < n1 := fun id hid => low id (h.b1.sub id hid)
  have lowV2 : ∀ id, s.V2 id → id < n1 := fun id hid => low id (h.b2.sub id hid)
  have c2 : KI.ml.R (New n1 HC.n) HG chain[s.i] [v1] := ml1' (hc.same (fun id hid => (t2 id (w1.st id hid).1).2))
  refine ⟨by simp only; omega, (h.old.trans t1).trans t2, ?_, ?_, fun id hid => hid.elim (h.v1 id) (fun p => by have := p.1; omega), fun id hid => hid.elim (h.v2 id) (fun p => by have := p.1; omega), fun id p q => ?_, upto h.ok ok, .inr form⟩
  · simp only [et]
    exact ((h.b1.up (S' := SC) (A' := HC)).up (S' := SG) (A' := HG)).snoc c2 (fun id hid => (t2 id (w1.st id hid).1).1) (fun id p q => by have := lowV1 id p; have := q.1; omega)
  · simp only [ew]
    exact ((h.b2.up (S' := SC) (A' := HC)).up (S' := SG) (A' := HG)).snoc (ml1' hg) (fun id hid => (w2.st id hid).1) (fun id p q => by have := lowV2 id p; have := q.1; omega)
  · rcases p with p | p <;> rcases q with q | q
    · exact h.dis id p q
    · have := lowV1 id p; have := q.1; omega
    · have := lowV2 id q; have := p.1; omega
    · have := p.2; have := q.1; omega
theorem rises_lt {m : Int} {q : Nat} (hq : m = q) {g : List Int} (h : Rises 0 (m - 1) g) : ∀ x ∈ g, 0 ≤ x ∧ x < (q : Int) := fun x hx => by have := rises_mem h x hx; omega
theorem bits256 {q : Nat} (hq : q ≤ 8) {g : List Int} (h : ∀ x ∈ g, 0 ≤ x ∧ x < (q : Int)) : bitsOf g < 256 := by
  have h1 : bitsOf g < 2 ^ q := bitsOf_lt (fun x hx => by have := h x hx; omega)
  have := small_pow hq
  omega
section
variable {S : Ids} {H0 : AH}
theorem impl_SequenceFor {y : T_Family} {known : List Int} {chain : List (List Int)} {ds : List Value} {a1 c1 a2 c2} (hF : B_Family y) (hK : B_Int64S known) (hC : B_Int64SS chain) (h : K_Family.R S H0 y ds) (k : K_Int64S.R S H0 known [.slice a1 known.length c1]) (k' : K_Int64SS.R S H0 chain [.slice a2 chain.length c2]) :
    SpecM Try.prog S H0 83 [.agg ds.toArray, .slice a1 known.length c1, .slice a2 chain.length c2] (MkQC (r0_SequenceFor y known chain) (r1_SequenceFor y known chain)) := by
  obtain ⟨a3, c3, rfl, h1⟩ := split_Family h
  have s1 := sl1 h1
  have s2 := sl1 k
  have s3 := sl1 k'
  obtain ⟨m, gs⟩ := y
  simp only at s1 ⊢
  have hsm : Sml gs := hF.2
  have hkl : known.length ≤ 1048576 := hK
  have hcl := hC.len
  refine SpecM.of1 Try.func83 rfl (by kernel_rfl) rfl (fun H _ => ?_)
  refine KW.callE rfl rfl rfl rfl rfl (rankedCode m hsm s1.up) (fun n9 m9 => ?_)
  by_cases hc : codeF m gs = 0
  · rw [hc]
    have hf := codeF_ok hc
    have hm1 := hf.h1
    have hm7 := hf.h2
    obtain ⟨q, hq⟩ : ∃ q : Nat, m = q := ⟨m.toNat, by omega⟩
    have hb : Below' q gs := by have := hf.below; rw [hq] at this; simpa using this
    refine KW.tT rfl rfl (by first | (simp; done) | decide) ?_
    refine KW.lit rfl rfl rfl rfl rfl rfl rfl rfl rfl rfl [.slice a1 known.length c1] rfl rfl (fun v hv => by simp at hv; subst hv; rfl) rfl ?_
    refine KW.callV1 rfl rfl rfl rfl rfl (fun H1 g _ => areGroups m ⟨hm1, hm7⟩ (xs := [known]) (by simp) (fun z hz => by rw [List.mem_singleton.1 hz]; exact hkl) (g.row1 (j := 2) rfl s2.up (by simp))) (fun _ _ => ?_)
    by_cases hk1 : Rises 0 (m - 1) known
    · rw [tv_true (p := ∀ z ∈ [known], Rises 0 (m - 1) z) (fun z hz => by rw [List.mem_singleton.1 hz]; exact hk1)]
      refine KW.tF rfl rfl (by first | (simp; done) | decide) ?_
      refine KW.callE rfl rfl rfl rfl rfl (areGroups m ⟨hm1, hm7⟩ hcl hC.each s3.up) (fun _ _ => ?_)
      by_cases hk2 : ∀ g ∈ chain, Rises 0 (m - 1) g
      · rw [tv_true hk2]
        refine KW.cF rfl rfl (by first | (simp; done) | decide) ?_
        refine KW.cF rfl rfl (by first | (simp; done) | decide) ?_
        have hkb := rises_lt hq hk1
        have hkk := bits256 (q := q) (by omega) hkb
        refine KW.callE rfl rfl rfl rfl rfl (crowdOf (m := q) (by omega) (by omega) hkb s2.up) (fun _ _ => ?_)
        refine KW.callN1 rfl rfl rfl rfl rfl (cloneI hkl s2.up) (fun v HA SA mA _ _ hv => ?_)
        obtain ⟨a5, c5, rfl, hA⟩ := hv
        refine KW.build rfl rfl rfl rfl rfl (built_Seq1 _ _ _) ?_
        have e0 : bef (nums chain) 0 = 0 := rfl
        refine KW.lpM rfl rfl (fun s : SqS => [(3, .pointer (some ⟨H.n, 0, some 0⟩)), (6, .pointer (some ⟨H.n + 1, 0, some 1⟩)), (9, .int .u64 (bitsOf known : Nat)), (10, .int .u64 (bef (nums chain) s.i : Nat)), (11, .pointer (some ⟨HA.n, 0, some 3⟩)), (45, .slice a2 chain.length c2), (46, .int .i64 chain.length), (47, .int .i64 s.i)]) (fun s => s.S) (fun s => s.A) (fun s => [(H.n, ⟨93, true, [.int .i64 m, .slice a3 gs.length c3]⟩), (H.n + 1, ⟨90, true, [.slice none 0 0, .slice none 0 0, .slice none 0 0]⟩), (n9, ⟨32, true, [.slice a1 known.length c1]⟩), (HA.n, ⟨90, true, [.slice a5 known.length c5, s.l1, s.l2]⟩)] ++ s.tail) (fun s => SqI gs (bitsOf known) chain SA HA s) (fun s => chain.length - s.i) (⟨0, SA, HA, .slice none 0 0, .slice none 0 0, [], fun _ => False, fun _ => False, [], []⟩) (⟨Nat.zero_le _, fun id hid => ⟨hid, rfl⟩, RowsB.nil _ _, RowsB.nil _ _, fun _ h => h.elim, fun _ h => h.elim, fun _ h => h.elim, fun j h => absurd h (Nat.not_lt_zero _), .inl ⟨rfl, rfl, rfl, rfl, rfl, rfl⟩⟩) ⟨rfl, rfl, rfl, rfl, rfl, rfl, rfl, rfl, trivial⟩ rfl rfl rfl (fun s hi bE n => ?_)
        obtain ⟨i, S', A, l1, l2, tail, V1, V2, cs1, cs2⟩ := s
        obtain ⟨hile, hold', hb1, hb2, hv1, hv2, hdis, hok, hform⟩ := hi
        simp only at hile hold' hb1 hb2 hv1 hv2 hdis hok hform
        haveI : Stp SA HA S' A := ⟨hold'⟩
        have hinv : SqI gs (bitsOf known) chain SA HA ⟨i, S', A, l1, l2, tail, V1, V2, cs1, cs2⟩ := ⟨hile, hold', hb1, hb2, hv1, hv2, hdis, hok, hform⟩
        have hbf : bef (nums chain) i < 256 := by
          unfold bef
          split
          · omega
          · rename_i hi0
            rw [List.getD_eq_getElem?_getD]
            rcases Nat.lt_or_ge (i - 1) chain.length with hlt | hge
            · rw [List.getElem?_map, List.getElem?_eq_getElem hlt]
              exact bits256 (q := q) (by omega) (rises_lt hq (hk2 _ (List.getElem_mem hlt)))
            · rw [List.getElem?_eq_none (by simpa using hge)]; decide
        have hl1 := hb1.len
        have hl2 := hb2.len
        rw [List.length_take] at hl1
        have hl2' : cs2.length = i := by rw [hl2]; simp [withs]
        have hl1' : cs1.length = i := by omega
        rcases hform with ⟨hi0, e1, e2, e3, e4, e5⟩ | ⟨hi0, o1, o2, e1, e2, e3⟩
        case' inl => subst e1 e2 e3 e4 e5
        case' inr => subst e1 e2 e3
        all_goals
          refine KW.cnd rfl rfl (fun j1 => ?gin) (fun j1 => ?gout)
          case gin =>
            refine KW.getL s3.up rfl rfl rfl rfl rfl rfl rfl rfl rfl rfl rfl rfl rfl rfl rfl rfl (by omega) (j1) (fun y ay cy hy hsy => ?_)
            have hy : chain[i]? = some y := hy
            have hym := List.mem_of_getElem? hy
            have hyb := rises_lt hq (hk2 y hym)
            have hyx := bits256 (q := q) (by omega) hyb
            have hyl := hC.each y hym
            have hil := (List.getElem?_eq_some_iff.1 hy).1
            have hnx : (nums chain).getD i 0 = bitsOf y := by rw [List.getD_eq_getElem?_getD, List.getElem?_map, hy]; rfl
            have hnb : bef (nums chain) (i + 1) = bitsOf y := by unfold bef; rw [if_neg (by omega)]; simpa using hnx
            refine KW.callE rfl rfl rfl rfl rfl (crowdOf (m := q) (by omega) (by omega) hyb hsy) (fun _ _ => ?_)
            refine KW.call rfl rfl rfl rfl rfl (least (m := q) (by omega) m hkk hbf hyx hsm hb s1.up) (fun v _ _ hv => ?_)
            obtain ⟨w, ok, rfl, hlw⟩ := hv
            have bad : ¬ OkAt gs (bitsOf known) (nums chain) i → r1_SequenceFor (m, gs) known chain = 8 ∧ r0_SequenceFor (m, gs) known chain = ([], [], []) := fun hx => sf_proof (y := (m, gs)) hc ⟨hk1, hk2⟩ (fun hall => hx (hall i hil))
            cases ok with
            | false =>
              refine KW.tT rfl rfl (by first | (simp; done) | decide) ?_
              refine KW.cT rfl rfl (by first | (simp; done) | decide) ?_
              obtain ⟨e1, e0⟩ := bad (fun hx => by
                obtain ⟨_, w', hw'⟩ := hx
                rw [hnx] at hw'
                have := (hlw.one hw').2
                cases this)
              rw [e1, e0]
              refine KW.build rfl rfl rfl rfl rfl (built_Seq0) ?_
              refine KW.retM1 rfl rfl rfl rfl (fun H1 g => ?_)
              exact MkQC.nil rfl
            | true =>
              refine KW.tF rfl rfl (by first | (simp; done) | decide) ?_
              refine KW.callE rfl rfl rfl rfl rfl (chained (m := q) (by omega) m hkk hbf hyx hsm hb s1.up) (fun _ _ => ?_)
              by_cases hch : Chd gs (bitsOf known) (bef (nums chain) i) (bitsOf y)
              · rw [tv_true hch]
                refine KW.cF rfl rfl (by first | (simp; done) | decide) ?_
                have hoki : OkAt gs (bitsOf known) (nums chain) i := by unfold OkAt; rw [hnx]; exact ⟨hch, w, hlw⟩
                have hwk : w ≤ bitsOf known := by
                  rcases hlw with ⟨_, h, _⟩ | ⟨h, _⟩
                  · exact h
                  · cases h
                have hwa : withAt gs (bitsOf known) (nums chain) i = hold w 7 := by unfold withAt; rw [hnx, leastW_eq hlw]
                refine KW.ids (fun hlow hvar => ?_)
                have hnA := (hvar 3 HA.n _ rfl).1
                refine KW.callN1 rfl rfl rfl rfl rfl (cloneI hyl hsy) (fun v HC SC mC _ _ hv => ?_)
                obtain ⟨a7, c7, rfl, hCl⟩ := hv
                first
                  | (refine KW.app0 (v := .slice a7 y.length c7) 4 rfl rfl rfl rfl rfl rfl rfl rfl rfl rfl rfl rfl rfl rfl rfl rfl rfl rfl rfl rfl rfl rfl (by decide) ?_
                     refine KW.callN1 rfl rfl rfl rfl rfl (group (x := w) (by omega)) (fun v HG SG mG tG wG hv => ?_)
                     obtain ⟨a8, c8, rfl, hG⟩ := hv
                     rw [← hwa] at hG ⊢
                     refine KW.app0 (v := .slice a8 (withAt gs (bitsOf known) (nums chain) i).length c8) 5 rfl rfl rfl rfl rfl rfl rfl rfl rfl rfl rfl rfl rfl rfl rfl rfl rfl rfl rfl rfl rfl rfl (by decide) ?_
                     subst hi0
                     exact KW.nxt rfl rfl (fun H' g => ⟨_, hinv.next (inferInstance : Stp S' A SC HC).st tG.st inferInstance wG hlow (by omega) (by omega) mC hy hCl hG hoki ⟨by omega, _, _, rfl, rfl, rfl⟩, by simp only; omega, ⟨rfl, rfl, rfl, congrArg (Value.int .u64) (by rw [hnb]), rfl, rfl, rfl, rfl, trivial⟩, g⟩))
                  | (refine KW.app1 (xs := cs1) (v := .slice a7 y.length c7) 4 6 rfl rfl rfl rfl rfl rfl rfl rfl rfl rfl rfl rfl rfl rfl rfl rfl rfl rfl rfl rfl rfl rfl rfl hl1' (by show (_ + 1) * 24 ≤ _; omega) (by omega) ?_
                     refine KW.callN1 rfl rfl rfl rfl rfl (group (x := w) (by omega)) (fun v HG SG mG tG wG hv => ?_)
                     obtain ⟨a8, c8, rfl, hG⟩ := hv
                     rw [← hwa] at hG ⊢
                     refine KW.app1 (xs := cs2) (v := .slice a8 (withAt gs (bitsOf known) (nums chain) i).length c8) 5 6 rfl rfl rfl rfl rfl rfl rfl rfl rfl rfl rfl rfl rfl rfl rfl rfl rfl rfl rfl rfl rfl rfl rfl hl2' (by show (_ + 1) * 24 ≤ _; omega) (by omega) ?_
                     exact KW.nxt rfl rfl (fun H' g => ⟨_, hinv.next (inferInstance : Stp S' A SC HC).st tG.st inferInstance wG hlow (by omega) (by omega) mC hy hCl hG hoki ⟨by omega, _, _, rfl, rfl, rfl⟩, by simp only; omega, ⟨rfl, rfl, rfl, congrArg (Value.int .u64) (by rw [hnb]), rfl, rfl, rfl, congrArg (Value.int .i64) (inc64 (by omega)), trivial⟩, g⟩))
              · rw [tv_false hch]
                refine KW.cT rfl rfl (by first | (simp; done) | decide) ?_
                obtain ⟨e1, e0⟩ := bad (fun hx => by
                  have := hx.1
                  rw [hnx] at this
                  exact hch this)
                rw [e1, e0]
                refine KW.build rfl rfl rfl rfl rfl (built_Seq0) ?_
                refine KW.retM1 rfl rfl rfl rfl (fun H1 g => ?_)
                exact MkQC.nil rfl
          case gout =>
            have hin : i = chain.length := by have j1 : ¬ (i : Int) < chain.length := j1; omega
            obtain ⟨e1, e0⟩ := sf_ok (y := (m, gs)) (known := known) (chain := chain) hc ⟨hk1, hk2⟩ (fun j hj => hok j (by omega))
            rw [e1, e0]
            refine KW.retM1 rfl rfl rfl rfl (fun H1 g => ?_)
            subst hin
            rw [List.take_of_length_le (Nat.le_refl _)] at hb1
            have hA' : KI.Ml (New _ HA.n) H1 _ known := ml1 (g.keep (ml1' hA))
            first
              | (have hcn : chain = [] := List.eq_nil_of_length_eq_zero hi0
                 subst hcn
                 exact ⟨_, rfl, mpR (cs := [.slice a5 known.length c5]) (Y := None_) (ml1' hA') (mpR (X := None_) (Y := None_) (cs := [.slice none 0 0]) nilM nilM (fun _ p => p.elim) (fun _ p => p.elim) (fun _ p _ => p.elim)) (g.inn (H := HA) (fun _ p => by have := p.1; omega)) (fun _ p => p.elim) (fun _ _ p => p.elim)⟩)
              | (have hwl : (withs gs (bitsOf known) (nums chain) chain.length).length = chain.length := by simp [withs]
                 have m1 := hb1.ml (X := fun id => V1 id ∨ id = o1) rfl g (j := 4) rfl (.inr rfl) (fun _ p => .inl p)
                 have m2 := hb2.ml (X := fun id => V2 id ∨ id = o2) rfl g (j := 5) rfl (.inr rfl) (fun _ p => .inl p)
                 rw [hwl] at m2
                 have n1 := (g.vars 4 _ rfl).2
                 have n2 := (g.vars 5 _ rfl).2
                 have g1 := g.ge (H1 := H) (j := 4) rfl
                 have g2 := g.ge (H1 := H) (j := 5) rfl
                 have hne : o1 ≠ o2 := fun he => by have := g.dist 4 5 _ _ rfl rfl he; omega
                 have hgn := g.n_
                 refine ⟨_, rfl, mpR (cs := [.slice a5 known.length c5]) (Y := fun id => (V1 id ∨ id = o1) ∨ (V2 id ∨ id = o2)) (ml1' hA') (mpR (cs := [.slice (some ⟨o1, 0, some 1⟩) chain.length chain.length]) (ml1' m1) (ml1' m2) (fun _ p => .inl p) (fun _ p => .inr p) (fun id p r => ?_)) (g.inn (H := HA) (fun _ p => by have := p.1; omega)) (fun id p => ?_) (fun id p r => ?_)⟩
                 · rcases p with p | rfl <;> rcases r with r | rfl
                   · exact hdis id p r
                   · exact n2.2 (hb1.sub _ p)
                   · exact n1.2 (hb2.sub _ r)
                   · exact hne rfl
                 · rcases p with (p | rfl) | (p | rfl)
                   · exact ⟨by have := hv1 id p; omega, by have := (g.froz id (hb1.sub id p)).1; omega⟩
                   · exact ⟨g1, by have := n1.1; omega⟩
                   · exact ⟨by have := hv2 id p; omega, by have := (g.froz id (hb2.sub id p)).1; omega⟩
                   · exact ⟨g2, by have := n2.1; omega⟩
                 · have hpS := ((inferInstance : On (New _ HA.n) HA S' A).st id p).1
                   rcases r with (r | rfl) | (r | rfl)
                   · have := hv1 id r; have := p.2; omega
                   · exact n1.2 hpS
                   · have := hv2 id r; have := p.2; omega
                   · exact n2.2 hpS)
      · rw [tv_false hk2]
        refine KW.cT rfl rfl (by first | (simp; done) | decide) ?_
        refine KW.cT rfl rfl (by first | (simp; done) | decide) ?_
        obtain ⟨e1, e0⟩ := sf_range (y := (m, gs)) (known := known) (chain := chain) hc (fun hx => hk2 hx.2)
        rw [e1, e0]
        refine KW.build rfl rfl rfl rfl rfl (built_Seq0) ?_
        refine KW.retM1 rfl rfl rfl rfl (fun H1 g => ?_)
        exact MkQC.nil rfl
    · rw [tv_false (p := ∀ z ∈ [known], Rises 0 (m - 1) z) (fun hx => hk1 (hx known (by simp)))]
      refine KW.tT rfl rfl (by first | (simp; done) | decide) ?_
      refine KW.cT rfl rfl (by first | (simp; done) | decide) ?_
      refine KW.cT rfl rfl (by first | (simp; done) | decide) ?_
      obtain ⟨e1, e0⟩ := sf_range (y := (m, gs)) (known := known) (chain := chain) hc (fun hx => hk1 hx.1)
      rw [e1, e0]
      refine KW.build rfl rfl rfl rfl rfl (built_Seq0) ?_
      refine KW.retM1 rfl rfl rfl rfl (fun H1 g => ?_)
      exact MkQC.nil rfl
  · refine KW.tF rfl rfl (by simpa using hc) ?_
    refine KW.cF rfl rfl (by first | (simp; done) | decide) ?_
    refine KW.cT rfl rfl (by simpa using hc) ?_
    obtain ⟨e1, e0⟩ := sf_code (y := (m, gs)) (known := known) (chain := chain) hc
    rw [e1, e0]
    refine KW.build rfl rfl rfl rfl rfl (built_Seq0) ?_
    refine KW.retM1 rfl rfl rfl rfl (fun H1 g => ?_)
    exact MkQC.nil rfl
end
end Go.Proofs.Ytmkpfllbmdahkaa.Am
/- Contracts: DualRanks of the reference. Each holds under its own conditions. -/
set_option linter.unusedVariables false
set_option linter.unusedSimpArgs false
set_option maxRecDepth 20000
namespace Go.Proofs.Ytmkpfllbmdahkaa.Am
open Go Go.RowKit Go.Proofs
theorem tabO_get {gs : List (List Int)} {n q : Nat} {j : Int} (hj : j = (q : Int)) (h : q < n) {y : Bool} (hy : (tabO gs n)[j.toNat]? = some y) : y = tv (Opens gs q) := by
  subst hj
  exact tabO_at h (by simpa using hy)
theorem bit1 {x h : Nat} (hx : x < 4611686018427387904) : (IntKind.i64.wrap ((BitVec.ofInt IntKind.i64.bits ((x / 2 ^ h : Nat) : Int) &&& BitVec.ofInt IntKind.i64.bits ((1 : Nat) : Int)).toNat : Int) == ((1 : Nat) : Int)) = x.testBit h := by
  rw [and_i64 (Nat.lt_of_le_of_lt (Nat.div_le_self _ _) hx) (by decide), ← bit_is]
  generalize x / 2 ^ h &&& 1 = q
  by_cases e : q = 1
  · subst e; rfl
  · rw [show (q == 1) = false from by simpa using e]
    simp only [beq_eq_false_iff_ne, ne_eq]
    omega
section
variable {S : Ids} {H0 : AH}
theorem bound_DualRanks {x : T_Ranks} {y : T_Family} (hB : B_Ranks x) (hF : B_Family y) : B_Ranks (r0_DualRanks x y) := by
  unfold r0_DualRanks
  split
  · rename_i h
    refine ⟨hB.1, hB.2.1, ?_⟩
    show (dualL _ _ _ _ _).length ≤ 1048576
    rw [dualL_len]
    have h0 : fitC x.1 x.2.1 x.2.2 y.1 y.2 = 0 := by
      unfold r1_DualRanks at h
      by_cases hc : fitC x.1 x.2.1 x.2.2 y.1 y.2 = 0
      · exact hc
      · rw [if_neg hc] at h; exact h
    have h1 := (fitC_zero h0).1
    rw [← h1.2.2.1]
    exact hB.2.2
  · exact ⟨by unfold I64; simp, by unfold I64; simp, by show 0 ≤ _; omega⟩
end
end Go.Proofs.Ytmkpfllbmdahkaa.Am
/- Contracts: SequenceFor of the reference. Each holds under its own conditions. -/
set_option linter.unusedVariables false
set_option linter.unusedSimpArgs false
set_option maxRecDepth 20000
namespace Go.Proofs.Ytmkpfllbmdahkaa.Am
open Go Go.RowKit Go.Proofs
abbrev numsI (chain : List (List Int)) : List Int := chain.map fun g => ((bitsOf g : Nat) : Int)
theorem numsI_at {chain : List (List Int)} {i : Nat} (h : i < chain.length) : (numsI chain)[i]? = some (((nums chain).getD i 0 : Nat) : Int) := by
  rw [List.getElem?_map, List.getElem?_eq_getElem h, List.getD_eq_getElem?_getD, List.getElem?_map, List.getElem?_eq_getElem h]; rfl
/-- The chain rises, apart from what is known, and its last set does not open. -/
def ChainAt (k : Nat) (ns : List Nat) (i : Nat) : Prop := ns.getD i 0 ≠ bef ns i ∧ ns.getD i 0 &&& bef ns i = bef ns i ∧ ns.getD i 0 &&& k = 0
def ChainC (gs : List (List Int)) (k : Nat) (ns : List Nat) (n : Nat) : Prop := (∀ i, i < n → ChainAt k ns i) ∧ ¬ Opens gs (bef ns n)
theorem bef_succ (ns : List Nat) (i : Nat) : bef ns (i + 1) = ns.getD i 0 := by unfold bef; rw [if_neg (by omega)]; rfl
theorem bef_lt {q : Nat} {ns : List Nat} (h : ∀ i, i < ns.length → ns.getD i 0 < 2 ^ q) (i : Nat) (hi : i ≤ ns.length) : bef ns i < 2 ^ q := by
  unfold bef
  split
  · exact Nat.two_pow_pos q
  · exact h _ (by omega)
section
variable {S : Ids} {H0 : AH}
theorem l07Group (m : Int) (hm : 1 ≤ m ∧ m ≤ 7) {id : Nat} (hv : Has3 S H0 id 0 [.int .i64 m]) {a c} {xs : List Int} (hl : xs.length ≤ 1048576) (hs : KI.Sl S H0 (.slice a xs.length c) xs) : Spec Try.prog S H0 178 [.pointer (some ⟨id, 0, none⟩), .slice a xs.length c] (fun v => v = .bool (tv (Rises 0 (m - 1) xs))) := by
  refine Spec.of1 Try.func178 rfl (by kernel_rfl) rfl (fun H _ => ?_)
  have hv := hv.up (S' := Low H.n) (H' := H)
  refine KW.ldF 0 hv rfl rfl rfl rfl rfl rfl rfl rfl rfl ?_
  have e : IntKind.i64.wrap (m - 1) = m - 1 := wr (by omega) (by omega)
  refine KW.callE rfl rfl rfl rfl rfl ((by show Spec _ _ _ _ [.slice a xs.length c, .int .i64 0, .int .i64 (IntKind.i64.wrap _)] _; rw [e]; exact l00Rises _ _ hl hs.up)) (fun _ _ => ?_)
  exact KW.ret rfl rfl rfl rfl (rfl)
theorem l07Groups (m : Int) (hm : 1 ≤ m ∧ m ≤ 7) {id : Nat} (hv : Has3 S H0 id 0 [.int .i64 m]) {a c} {xs : List (List Int)} (hB : B_Int64SS xs) (hs : KI.sl.Sl S H0 (.slice a xs.length c) xs) : Spec Try.prog S H0 179 [.pointer (some ⟨id, 0, none⟩), .slice a xs.length c] (fun v => v = .bool (tv (∀ g ∈ xs, Rises 0 (m - 1) g))) := by
  refine Spec.of1 Try.func179 rfl (by kernel_rfl) rfl (fun H _ => ?_)
  have hv := hv.up (S' := Low H.n) (H' := H)
  have hl := hB.len
  refine KW.lp rfl rfl (fun i : Nat => [(0, .pointer (some ⟨id, 0, none⟩)), (1, .slice a xs.length c), (5, .int .i64 i)]) (fun i => i ≤ xs.length ∧ ∀ j, j < i → ∀ x, xs[j]? = some x → Rises 0 (m - 1) x) (fun i => xs.length - i) (0) (⟨by omega, fun j h => absurd h (by omega)⟩) ⟨rfl, rfl, rfl, trivial⟩ (fun i hi bE n => ?_)
  obtain ⟨hi, hj⟩ := hi
  refine KW.cnd rfl rfl (fun k1 => ?_) (fun k1 => ?_)
  · refine KW.getL hs.up rfl rfl rfl rfl rfl rfl rfl rfl rfl rfl rfl rfl rfl rfl rfl rfl (by omega) (k1) (fun y ay cy hy hsy => ?_)
    have hy : xs[i]? = some y := hy
    have hym := List.mem_of_getElem? hy
    refine KW.callE rfl rfl rfl rfl rfl (l07Group m hm hv (hB.each y hym) hsy) (fun _ _ => ?_)
    refine KW.cndB rfl rfl (fun k2 => ?_) (fun k2 => ?_)
    · exact KW.ret rfl rfl rfl rfl (by rw [tv_false (p := ∀ g ∈ xs, Rises 0 (m - 1) g) (fun hx => by rw [tv_true (hx y hym)] at k2; cases k2)]; rfl)
    have k2 := tv_iff.1 (by simpa using k2)
    refine KW.nxt rfl rfl (fun H' g => ⟨i + 1, ⟨by omega, upto hj (fun x hx => by rw [hy] at hx; cases hx; exact k2)⟩, by first | omega | (simp only; omega), ⟨rfl, rfl, congrArg (Value.int .i64) (inc64 (by omega)), trivial⟩, g⟩)
  · exact KW.ret rfl rfl rfl rfl (by rw [tv_true (p := ∀ g ∈ xs, Rises 0 (m - 1) g) (all_of (fun j hjl => hj j (by omega)))]; rfl)
theorem l07Numbers {q : Nat} (hq : q ≤ 8) {a c} {xs : List (List Int)} (hB : B_Int64SS xs) (hx : ∀ g ∈ xs, ∀ z ∈ g, 0 ≤ z ∧ z < (q : Int)) (hs : KI.sl.Sl S H0 (.slice a xs.length c) xs) : SpecM Try.prog S H0 180 [.slice a xs.length c] (MkL (numsI xs)) := by
  refine SpecM.of1 Try.func180 rfl (by kernel_rfl) rfl (fun H _ => ?_)
  have hl := hB.len
  refine KW.lit rfl rfl rfl rfl rfl rfl rfl rfl rfl rfl [] rfl rfl (fun v hv => by simp at hv) rfl ?_
  refine KW.lpM rfl rfl (fun s : Nat × Nat => [(0, .slice a xs.length c), (3, .slice (some ⟨s.2, 0, some 1⟩) (numsI (xs.take s.1)).length (numsI (xs.take s.1)).length), (4, .int .i64 s.1)]) (fun s => Low H.n) (fun s => H) (fun s => [(s.2, ⟨_, true, (numsI (xs.take s.1)).map (Value.int .i64)⟩)]) (fun s => s.1 ≤ xs.length) (fun s => xs.length - s.1) ((0, _)) (by simp) ⟨rfl, rfl, rfl, trivial⟩ rfl rfl rfl (fun s hi bE n => ?_)
  obtain ⟨i, o⟩ := s
  simp only at hi
  have hil : (numsI (xs.take i)).length ≤ i := by rw [List.length_map, List.length_take]; omega
  refine KW.cnd rfl rfl (fun k1 => ?_) (fun k1 => ?_)
  · refine KW.getL hs.up rfl rfl rfl rfl rfl rfl rfl rfl rfl rfl rfl rfl rfl rfl rfl rfl (by omega) (k1) (fun y ay cy hy hsy => ?_)
    have hy : xs[i]? = some y := hy
    have hym := List.mem_of_getElem? hy
    refine KW.callE rfl rfl rfl rfl rfl (l07Bits (m := q) hq (by have := hB.each y hym; omega) (hx y hym) hsy) (fun _ _ => ?_)
    have e := map_take_succ (fun g : List Int => ((bitsOf g : Nat) : Int)) hy
    refine KW.app1 (xs := (numsI (xs.take i)).map (Value.int .i64)) (v := .int .i64 (bitsOf y : Nat)) 0 1 rfl rfl rfl rfl rfl rfl rfl rfl rfl rfl rfl rfl rfl rfl rfl rfl rfl rfl rfl rfl rfl rfl rfl (by simp) (by show (_ + 1) * 8 ≤ _; first | omega | (simp only; omega)) (by first | omega | (simp only; omega)) ?_
    refine KW.nxt rfl rfl (fun H' g => ⟨(i + 1, _), by simp only; omega, by first | omega | (simp only; omega), ⟨rfl, by simp only [e, List.length_append, List.length_singleton]; rfl, congrArg (Value.int .i64) (inc64 (by omega)), trivial⟩, g.eqT (by simp only [e, List.map_append]; rfl)⟩)
  · obtain rfl : i = xs.length := by simp only at k1; omega
    rw [List.take_of_length_le (Nat.le_refl _)]
    refine KW.retM1 rfl rfl rfl rfl (fun H1 g => MkL.of g (j := 0) rfl (g.ge (H1 := H) (j := 0) rfl))
theorem l07Chain {q k : Nat} (hq : q ≤ 7) (hk : k < 2 ^ q) {gs chain : List (List Int)} (hl : chain.length ≤ 1048576) (hn : ∀ i, i < chain.length → (nums chain).getD i 0 < 2 ^ q) {a c a' c'} (ho : Kn.bool.Sl S H0 (.slice a (tabO gs (2 ^ q)).length c) (tabO gs (2 ^ q))) (hs : KI.Sl S H0 (.slice a' (numsI chain).length c') (numsI chain)) :
    Spec Try.prog S H0 181 [.slice a (tabO gs (2 ^ q)).length c, .int .i64 k, .slice a' (numsI chain).length c'] (fun v => v = .bool (tv (ChainC gs k (nums chain) chain.length))) := by
  refine Spec.of1 Try.func181 rfl (by kernel_rfl) rfl (fun H _ => ?_)
  have hp := small_pow (m := q) (by omega)
  have htl : (tabO gs (2 ^ q)).length = 2 ^ q := tabO_len _ _
  have hnl : (numsI chain).length = chain.length := by simp
  have hnl' : (nums chain).length = chain.length := by simp
  refine KW.lp rfl rfl (fun i : Nat => [(0, .slice a (tabO gs (2 ^ q)).length c), (1, .int .i64 k), (2, .slice a' (numsI chain).length c'), (7, .int .i64 (bef (nums chain) i : Nat)), (8, .int .i64 i)]) (fun i => i ≤ chain.length ∧ ∀ j, j < i → ChainAt k (nums chain) j) (fun i => chain.length - i) (0) (⟨by omega, fun j h => absurd h (by omega)⟩) ⟨rfl, rfl, rfl, rfl, rfl, trivial⟩ (fun i hi bE n => ?_)
  obtain ⟨hi, hj⟩ := hi
  have hb := bef_lt (q := q) (ns := nums chain) (fun i h => hn i (by omega)) i (by omega)
  refine KW.cnd rfl rfl (fun k1 => ?_) (fun k1 => ?_)
  · have k1 : (i : Int) < (numsI chain).length := k1
    have hx := numsI_at (chain := chain) (i := i) (by omega)
    have hxl := hn i (by omega)
    obtain ⟨x, hxe⟩ : ∃ x, (nums chain).getD i 0 = x := ⟨_, rfl⟩
    obtain ⟨b, hbe⟩ : ∃ b, bef (nums chain) i = b := ⟨_, rfl⟩
    rw [hxe] at hx hxl
    rw [hbe] at hb
    have bad : ¬ ChainAt k (nums chain) i → aout [Value.bool false] = .bool (tv (ChainC gs k (nums chain) chain.length)) := fun hc => by rw [tv_false (p := ChainC gs k (nums chain) chain.length) (fun hh => hc (hh.1 i (by omega)))]; rfl
    have e1 := and_i64 (a := x) (b := b) (by omega) (by omega)
    have e2 := and_i64 (a := x) (b := k) (by omega) (by omega)
    rw [hbe]
    refine KW.getI hs.up rfl rfl rfl rfl rfl rfl rfl rfl rfl rfl rfl rfl rfl rfl rfl rfl (by omega) (k1) (fun z1 hz1 => ?_)
    have hz1 : (numsI chain)[i]? = some z1 := hz1
    obtain rfl : ((x : Nat) : Int) = z1 := by rw [hx] at hz1; simpa using hz1
    refine KW.tstB rfl rfl (fun k2 => ?_) (fun k2 => ?_)
    · repeat first | refine KW.tT rfl rfl rfl ?_ | refine KW.tF rfl rfl rfl ?_
      first | refine KW.cT rfl rfl rfl ?_ | refine KW.cF rfl rfl rfl ?_
      exact KW.ret rfl rfl rfl rfl (bad (fun hc => by have := hc.1; rw [hxe, hbe] at this; simp at k2; omega))
    have k2 : x ≠ b := by simp at k2; omega
    refine KW.getI hs.up rfl rfl rfl rfl rfl rfl rfl rfl rfl rfl rfl rfl rfl rfl rfl rfl (by omega) (k1) (fun z2 hz2 => ?_)
    have hz2 : (numsI chain)[i]? = some z2 := hz2
    obtain rfl : ((x : Nat) : Int) = z2 := by rw [hx] at hz2; simpa using hz2
    refine KW.tstB rfl rfl (fun k3 => ?_) (fun k3 => ?_)
    · rw [e1] at k3
      repeat first | refine KW.tT rfl rfl rfl ?_ | refine KW.tF rfl rfl rfl ?_
      first | refine KW.cT rfl rfl rfl ?_ | refine KW.cF rfl rfl rfl ?_
      exact KW.ret rfl rfl rfl rfl (bad (fun hc => by have := hc.2.1; rw [hxe, hbe] at this; rw [this] at k3; simp at k3))
    rw [e1] at k3
    have k3 : x &&& b = b := by simp at k3; omega
    refine KW.getI hs.up rfl rfl rfl rfl rfl rfl rfl rfl rfl rfl rfl rfl rfl rfl rfl rfl (by omega) (k1) (fun z3 hz3 => ?_)
    have hz3 : (numsI chain)[i]? = some z3 := hz3
    obtain rfl : ((x : Nat) : Int) = z3 := by rw [hx] at hz3; simpa using hz3
    refine KW.cndB rfl rfl (fun k4 => ?_) (fun k4 => ?_)
    · rw [e2] at k4
      exact KW.ret rfl rfl rfl rfl (bad (fun hc => by have := hc.2.2; rw [hxe] at this; rw [this] at k4; simp at k4))
    rw [e2] at k4
    have k4 : x &&& k = 0 := by simp at k4; omega
    refine KW.getI hs.up rfl rfl rfl rfl rfl rfl rfl rfl rfl rfl rfl rfl rfl rfl rfl rfl (by omega) (k1) (fun z4 hz4 => ?_)
    have hz4 : (numsI chain)[i]? = some z4 := hz4
    obtain rfl : ((x : Nat) : Int) = z4 := by rw [hx] at hz4; simpa using hz4
    have hbs : bef (nums chain) (i + 1) = x := by rw [bef_succ, hxe]
    refine KW.nxt rfl rfl (fun H' g => ⟨i + 1, ⟨by omega, upto hj ⟨by rw [hxe, hbe]; exact k2, by rw [hxe, hbe]; exact k3, by rw [hxe]; exact k4⟩⟩, by first | omega | (simp only; omega), ⟨rfl, rfl, rfl, congrArg (Value.int .i64) (by rw [hbs]), congrArg (Value.int .i64) (inc64 (by omega)), trivial⟩, g⟩)
  · have k1 : ¬ (i : Int) < (numsI chain).length := k1
    obtain rfl : i = chain.length := by omega
    refine KW.getB ho.up rfl rfl rfl rfl rfl rfl rfl rfl rfl rfl rfl rfl rfl rfl rfl rfl (by omega) (by omega) (fun z hz => ?_)
    obtain rfl := tabO_get (q := bef (nums chain) chain.length) rfl hb hz
    refine KW.ret rfl rfl rfl rfl ?_
    show Value.bool (!tv (Opens gs (bef (nums chain) chain.length))) = _
    by_cases hO : Opens gs (bef (nums chain) chain.length)
    · rw [tv_true hO, tv_false (p := ChainC gs k (nums chain) chain.length) (fun hc => hc.2 hO)]; rfl
    · rw [tv_false hO, tv_true (p := ChainC gs k (nums chain) chain.length) ⟨hj, hO⟩]; rfl
theorem l07Right {q w : Nat} (hq : q ≤ 7) (hw : w < 2 ^ q) {gs chain : List (List Int)} (hl : chain.length ≤ 1048576) (hn : ∀ i, i < chain.length → (nums chain).getD i 0 < 2 ^ q) {i : Nat} (hi : i < chain.length) {a c a' c'} (ho : Kn.bool.Sl S H0 (.slice a (tabO gs (2 ^ q)).length c) (tabO gs (2 ^ q))) (hs : KI.Sl S H0 (.slice a' (numsI chain).length c') (numsI chain)) :
    Spec Try.prog S H0 184 [.slice a (tabO gs (2 ^ q)).length c, .slice a' (numsI chain).length c', .int .i64 i, .int .i64 w] (fun v => v = .bool (tv (Steps gs (bef (nums chain) i) ((nums chain).getD i 0) w))) := by
  refine Spec.of1 Try.func184 rfl (by kernel_rfl) rfl (fun H _ => ?_)
  have hp := small_pow (m := q) (by omega)
  have htl : (tabO gs (2 ^ q)).length = 2 ^ q := tabO_len _ _
  have hnl : (numsI chain).length = chain.length := by simp
  have hnl' : (nums chain).length = chain.length := by simp
  have hb := bef_lt (q := q) (ns := nums chain) (fun i h => hn i (by omega)) i (by omega)
  have hx := numsI_at (chain := chain) hi
  have hxl := hn i hi
  obtain ⟨x, hxe⟩ : ∃ x, (nums chain).getD i 0 = x := ⟨_, rfl⟩
  obtain ⟨b, hbe⟩ : ∃ b, bef (nums chain) i = b := ⟨_, rfl⟩
  rw [hxe] at hx hxl
  rw [hbe] at hb
  rw [hxe, hbe]
  have e1 := or_i64 (a := x) (b := w) (by omega) (by omega)
  have e2 := or_i64 (a := b) (b := w) (by omega) (by omega)
  have l1 : x ||| w < 2 ^ q := Nat.or_lt_two_pow hxl hw
  have l2 : b ||| w < 2 ^ q := Nat.or_lt_two_pow hb hw
  refine KW.cnd rfl rfl (fun k1 => ?g1) (fun k1 => ?g2)
  case' g1 =>
    have k1 : (i : Int) > 0 := k1
    have e0 : IntKind.i64.wrap ((i : Int) - 1) = ((i - 1 : Nat) : Int) := by rw [wr (by omega) (by omega)]; omega
    refine KW.getI hs.up rfl rfl rfl rfl rfl rfl rfl rfl rfl rfl rfl rfl rfl rfl rfl rfl (by rw [e0]; omega) (by rw [e0]; omega) (fun z0 hz0 => ?_)
    rw [e0] at hz0
    have hz0 : (numsI chain)[i - 1]? = some z0 := hz0
    rw [numsI_at (by omega)] at hz0
    have hb0 : bef (nums chain) i = (nums chain).getD (i - 1) 0 := by unfold bef; rw [if_neg (by omega)]
    obtain rfl : z0 = (b : Int) := by rw [← hbe, hb0]; simpa using hz0.symm
    have E2 := e2
  case' g2 =>
    have k1 : ¬ (i : Int) > 0 := k1
    have hb0 : b = 0 := by rw [← hbe]; unfold bef; rw [if_pos (by omega)]
    have E2 : IntKind.i64.wrap ((BitVec.ofInt IntKind.i64.bits (0 : Int) ||| BitVec.ofInt IntKind.i64.bits (w : Int)).toNat : Int) = ((b ||| w : Nat) : Int) := by rw [hb0]; exact or_i64 (a := 0) (b := w) (by omega) (by omega)
  all_goals
    refine KW.getI hs.up rfl rfl rfl rfl rfl rfl rfl rfl rfl rfl rfl rfl rfl rfl rfl rfl (by omega) (by omega) (fun z hz => ?_)
    have hz : (numsI chain)[i]? = some z := hz
    obtain rfl : ((x : Nat) : Int) = z := by rw [hx] at hz; simpa using hz
    refine KW.getB ho.up rfl rfl rfl rfl rfl rfl rfl rfl rfl rfl rfl rfl rfl rfl rfl rfl (by rw [e1]; omega) (by rw [e1]; omega) (fun y hy => ?_)
    obtain rfl := tabO_get e1 l1 hy
    refine KW.tstB rfl rfl (fun k2 => ?_) (fun k2 => ?_)
  all_goals first
    | (refine KW.ret rfl rfl rfl rfl ?_
       rw [tv_false (p := Steps gs b x w) (fun hc => by rw [tv_true hc.1] at k2; cases k2)]; rfl)
    | (refine KW.getB ho.up rfl rfl rfl rfl rfl rfl rfl rfl rfl rfl rfl rfl rfl rfl rfl rfl (by rw [E2]; omega) (by rw [E2]; omega) (fun y2 hy2 => ?_)
       obtain rfl := tabO_get E2 l2 hy2
       refine KW.ret rfl rfl rfl rfl ?_
       show Value.bool (!tv (Opens gs (b ||| w))) = _
       by_cases hO : Opens gs (b ||| w)
       · rw [tv_true hO, tv_false (p := Steps gs b x w) (fun hc => hc.2 hO)]; rfl
       · rw [tv_false hO, tv_true (p := Steps gs b x w) ⟨tv_iff.1 k2, hO⟩]; rfl)
end
/-- The least parts, as numbers. -/
noncomputable def lwI (gs : List (List Int)) (k : Nat) (ns : List Nat) (n : Nat) : List Int := (List.range n).map fun i => ((leastW gs k (bef ns i) (ns.getD i 0) : Nat) : Int)
def Cnd (gs : List (List Int)) (k b x v : Nat) : Prop := k &&& v = v ∧ Steps gs b x v
theorem cnd_tv {gs : List (List Int)} {k b x v : Nat} {t1 t2 : Bool} : True := trivial
section
variable {S : Ids} {H0 : AH}
theorem l07Withs {q k : Nat} (hq : q ≤ 7) (hk : k < 2 ^ q) {gs chain : List (List Int)} (hl : chain.length ≤ 1048576) (hn : ∀ i, i < chain.length → (nums chain).getD i 0 < 2 ^ q) {a c a' c'} (ho : Kn.bool.Sl S H0 (.slice a (tabO gs (2 ^ q)).length c) (tabO gs (2 ^ q))) (hs : KI.Sl S H0 (.slice a' (numsI chain).length c') (numsI chain)) :
    SpecM Try.prog S H0 158 [.slice a (tabO gs (2 ^ q)).length c, .int .i64 k, .slice a' (numsI chain).length c'] (fun n v H1 => ∃ (ok : Bool) (v' : Value), v = .tuple #[v', .bool ok] ∧ ((ok = true ∧ (∀ i, i < chain.length → ∃ w, Least gs k (bef (nums chain) i) ((nums chain).getD i 0) w true) ∧ MkL (lwI gs k (nums chain) chain.length) n v' H1) ∨ (ok = false ∧ (∃ i, i < chain.length ∧ ¬ ∃ w, Least gs k (bef (nums chain) i) ((nums chain).getD i 0) w true) ∧ ∃ a n c, v' = .slice a n c))) := by
  refine SpecM.of1 Try.func158 rfl (by kernel_rfl) rfl (fun H _ => ?_)
  have hp := small_pow (m := q) (by omega)
  have hnl : (numsI chain).length = chain.length := by simp
  refine KW.lit rfl rfl rfl rfl rfl rfl rfl rfl rfl rfl [] rfl rfl (fun v hv => by simp at hv) rfl ?_
  refine KW.lpM rfl rfl (fun s : Nat × Nat => [(0, .slice a (tabO gs (2 ^ q)).length c), (1, .int .i64 k), (2, .slice a' (numsI chain).length c'), (8, .slice (some ⟨s.2, 0, some 1⟩) (lwI gs k (nums chain) s.1).length (lwI gs k (nums chain) s.1).length), (9, .int .i64 s.1)]) (fun s => Low H.n) (fun s => H) (fun s => [(s.2, ⟨_, true, (lwI gs k (nums chain) s.1).map (Value.int .i64)⟩)]) (fun s => s.1 ≤ chain.length ∧ ∀ j, j < s.1 → ∃ w, Least gs k (bef (nums chain) j) ((nums chain).getD j 0) w true) (fun s => chain.length - s.1) ((0, _)) (⟨by simp, fun j h => absurd h (by simp)⟩) ⟨rfl, rfl, rfl, rfl, rfl, trivial⟩ rfl rfl rfl (fun s hi bE n => ?_)
  obtain ⟨i, o⟩ := s
  obtain ⟨hi, hj⟩ := hi
  simp only at hi hj
  have hll : (lwI gs k (nums chain) i).length = i := by simp [lwI]
  refine KW.cnd rfl rfl (fun k1 => ?_) (fun k1 => ?_)
  · have k1 : (i : Int) < (numsI chain).length := k1
    have hil : i < chain.length := by omega
    obtain ⟨x, hxe⟩ : ∃ x, (nums chain).getD i 0 = x := ⟨_, rfl⟩
    obtain ⟨b, hbe⟩ : ∃ b, bef (nums chain) i = b := ⟨_, rfl⟩
    -- the search
    refine KW.lp rfl rfl (fun s : Nat × Int => [(0, .slice a (tabO gs (2 ^ q)).length c), (1, .int .i64 k), (2, .slice a' (numsI chain).length c'), (8, .slice (some ⟨o, 0, some 1⟩) (lwI gs k (nums chain) i).length (lwI gs k (nums chain) i).length), (9, .int .i64 i), (10, .int .i64 s.2), (11, .int .i64 s.1)]) (fun s => s.1 ≤ k + 1 ∧ ((s.2 = -1 ∧ ∀ v, v < s.1 → ¬ (k &&& v = v ∧ Steps gs b x v)) ∨ (∃ w : Nat, s.2 = w ∧ Least gs k b x w true))) (fun s => k + 1 - s.1) ((0, -1)) (⟨by simp only; omega, .inl ⟨rfl, fun v hv => absurd hv (by simp)⟩⟩) ⟨rfl, rfl, rfl, rfl, rfl, rfl, rfl, trivial⟩ (fun s hi bE n => ?_)
    obtain ⟨w, f⟩ := s
    obtain ⟨hw, hf⟩ := hi
    simp only at hw hf
    have done : ¬ ((w : Int) ≤ k ∧ f < 0) → (f = -1 ∧ ∀ v, v ≤ k → ¬ (k &&& v = v ∧ Steps gs b x v)) ∨ (∃ w : Nat, f = w ∧ Least gs k b x w true) := fun hc => by
      rcases hf with ⟨h1, h2⟩ | h
      · exact .inl ⟨h1, fun v hv => h2 v (by omega)⟩
      · exact .inr h
    have fin : ((f = -1 ∧ ∀ v, v ≤ k → ¬ (k &&& v = v ∧ Steps gs b x v)) ∨ (∃ w : Nat, f = w ∧ Least gs k b x w true)) → True := fun _ => trivial
    refine KW.tst rfl rfl (fun k2 => ?_) (fun k2 => ?_)
    · have k2 : (w : Int) ≤ k := k2
      refine KW.cnd rfl rfl (fun k3 => ?_) (fun k3 => ?_)
      · have k3 : f < 0 := k3
        rcases hf with ⟨rfl, h2⟩ | ⟨w0, rfl, _⟩
        · have e1 := and_i64 (a := w) (b := k) (by omega) (by omega)
          refine KW.tstB rfl rfl (fun k4 => ?_) (fun k4 => ?_)
          · rw [e1] at k4
            have k4 : k &&& w = w := by rw [Nat.and_comm]; simp at k4; omega
            refine KW.callE rfl rfl rfl rfl rfl (l07Right hq (by omega) hl hn hil ho.up hs.up) (fun _ _ => ?_)
            rw [hxe, hbe]
            refine KW.cndB rfl rfl (fun k5 => ?_) (fun k5 => ?_)
            · have k5 := tv_iff.1 k5
              refine KW.nxt rfl rfl (fun H' g => ⟨(w + 1, (w : Int)), ⟨by simp only; omega, .inr ⟨w, rfl, .inl ⟨rfl, by omega, ⟨k4, k5⟩, h2⟩⟩⟩, by first | omega | (simp only; omega), ⟨rfl, rfl, rfl, rfl, rfl, rfl, congrArg (Value.int .i64) (inc64 (by omega)), trivial⟩, g⟩)
            · have k5 : ¬ Steps gs b x w := fun hx => by rw [tv_true hx] at k5; cases k5
              refine KW.nxt rfl rfl (fun H' g => ⟨(w + 1, -1), ⟨by simp only; omega, .inl ⟨rfl, upto h2 (fun hc => k5 hc.2)⟩⟩, by first | omega | (simp only; omega), ⟨rfl, rfl, rfl, rfl, rfl, rfl, congrArg (Value.int .i64) (inc64 (by omega)), trivial⟩, g⟩)
          · rw [e1] at k4
            have k4 : ¬ k &&& w = w := by rw [Nat.and_comm]; simp at k4; omega
            refine KW.cF rfl rfl (by first | (simp; done) | decide) ?_
            refine KW.nxt rfl rfl (fun H' g => ⟨(w + 1, -1), ⟨by simp only; omega, .inl ⟨rfl, upto h2 (fun hc => k4 hc.1)⟩⟩, by first | omega | (simp only; omega), ⟨rfl, rfl, rfl, rfl, rfl, rfl, congrArg (Value.int .i64) (inc64 (by omega)), trivial⟩, g⟩)
        · omega
      · have k3 : ¬ f < 0 := k3
        have hd := done (fun hc => k3 hc.2)
        rcases hd with ⟨h1, _⟩ | ⟨w0, rfl, hle⟩
        · omega
        · refine KW.no rfl rfl (by omega) ?_
          have e := range_map_succ' (fun i => ((leastW gs k (bef (nums chain) i) ((nums chain).getD i 0) : Nat) : Int)) i
          simp only [hxe, hbe, leastW_eq hle] at e
          refine KW.app1 (xs := (lwI gs k (nums chain) i).map (Value.int .i64)) (v := .int .i64 w0) 0 1 rfl rfl rfl rfl rfl rfl rfl rfl rfl rfl rfl rfl rfl rfl rfl rfl rfl rfl rfl rfl rfl rfl rfl (by simp) (by show (_ + 1) * 8 ≤ _; first | omega | (simp only; omega)) (by first | omega | (simp only; omega)) ?_
          refine KW.nxt rfl rfl (fun H' g => ⟨(i + 1, _), ⟨by simp only; omega, upto hj ⟨w0, by rw [hxe, hbe]; exact hle⟩⟩, by first | omega | (simp only; omega), ⟨rfl, rfl, rfl, by simp only [lwI, e, List.length_append, List.length_singleton]; rfl, congrArg (Value.int .i64) (inc64 (by omega)), trivial⟩, g.eqT (by simp only [lwI, e, List.map_append]; rfl)⟩)
    · have k2 : ¬ (w : Int) ≤ k := k2
      refine KW.cF rfl rfl (by first | (simp; done) | decide) ?_
      have hd := done (fun hc => k2 hc.1)
      rcases hd with ⟨rfl, hno⟩ | ⟨w0, rfl, hle⟩
      · refine KW.yes rfl rfl (show (-1 : Int) < 0 by decide) ?_
        refine KW.retM1 rfl rfl rfl rfl (fun H1 g => ⟨false, _, rfl, .inr ⟨rfl, ⟨i, hil, fun ⟨w, hw⟩ => by rw [hxe, hbe] at hw; rcases hw with ⟨_, h1, h2, _⟩ | ⟨h, _⟩; exact hno w h1 h2; cases h⟩, _, _, _, rfl⟩⟩)
      · refine KW.no rfl rfl (by omega) ?_
        have e := range_map_succ' (fun i => ((leastW gs k (bef (nums chain) i) ((nums chain).getD i 0) : Nat) : Int)) i
        simp only [hxe, hbe, leastW_eq hle] at e
        refine KW.app1 (xs := (lwI gs k (nums chain) i).map (Value.int .i64)) (v := .int .i64 w0) 0 1 rfl rfl rfl rfl rfl rfl rfl rfl rfl rfl rfl rfl rfl rfl rfl rfl rfl rfl rfl rfl rfl rfl rfl (by simp) (by show (_ + 1) * 8 ≤ _; first | omega | (simp only; omega)) (by first | omega | (simp only; omega)) ?_
        refine KW.nxt rfl rfl (fun H' g => ⟨(i + 1, _), ⟨by simp only; omega, upto hj ⟨w0, by rw [hxe, hbe]; exact hle⟩⟩, by first | omega | (simp only; omega), ⟨rfl, rfl, rfl, by simp only [lwI, e, List.length_append, List.length_singleton]; rfl, congrArg (Value.int .i64) (inc64 (by omega)), trivial⟩, g.eqT (by simp only [lwI, e, List.map_append]; rfl)⟩)
  · have k1 : ¬ (i : Int) < (numsI chain).length := k1
    obtain rfl : i = chain.length := by omega
    refine KW.retM1 rfl rfl rfl rfl (fun H1 g => ⟨true, _, rfl, .inl ⟨rfl, hj, MkL.of g (j := 0) rfl (g.ge (H1 := H) (j := 0) rfl)⟩⟩)
end
end Go.Proofs.Ytmkpfllbmdahkaa.Am
/- Echelons of rows of numbers, in plain Lean. Each holds under its own conditions. -/
set_option linter.unusedVariables false
set_option linter.unusedSimpArgs false
namespace Go.Proofs.Ytmkpfllbmdahkaa.Pl
/-- The first row from a on whose element in column c is not 0. -/
def nz (L : List (List Int)) (c a : Nat) : Nat := if h : a < L.length then (if (L[a]).getD c 0 = 0 then nz L c (a + 1) else a) else a
termination_by L.length - a
theorem nz_step {L : List (List Int)} {c a : Nat} {r : List Int} (h : L[a]? = some r) (hz : r.getD c 0 = 0) : nz L c (a + 1) = nz L c a := by
  obtain ⟨h1, rfl⟩ := List.getElem?_eq_some_iff.1 h
  rw [nz.eq_1 L c a, dif_pos h1, if_pos hz]
theorem nz_stop {L : List (List Int)} {c a : Nat} {r : List Int} (h : L[a]? = some r) (hz : r.getD c 0 ≠ 0) : nz L c a = a := by
  obtain ⟨h1, rfl⟩ := List.getElem?_eq_some_iff.1 h
  rw [nz.eq_1 L c a, dif_pos h1, if_neg hz]
theorem nz_end {L : List (List Int)} {c a : Nat} (h : L.length ≤ a) : nz L c a = a := by
  rw [nz.eq_1 L c a, dif_neg (by omega)]
theorem nz_le {L : List (List Int)} {c : Nat} : ∀ (d a : Nat), a + d = L.length → a ≤ nz L c a ∧ nz L c a ≤ L.length
  | 0, a, h => by rw [nz_end (by omega)]; omega
  | d + 1, a, h => by
    rw [nz.eq_1, dif_pos (by omega)]
    split
    · have := nz_le (L := L) (c := c) d (a + 1) (by omega); omega
    · omega
/-- A row, times an element. -/
def sc (p b : Int) (r : List Int) : List Int := r.map fun x => x * b % p
/-- A row off which another one is taken t times. -/
def tk (p t : Int) (a b : List Int) : List Int := List.zipWith (fun x y => (x + (p - t) * y) % p) a b
/-- A power of an element. -/
def pw (p a : Int) : Nat → Int
  | 0 => 1
  | n + 1 => pw p a n * a % p
/-- Two rows change places. -/
def sw (L : List (List Int)) (n a : Nat) : List (List Int) := (L.set n (L.getD a [])).set a (L.getD n [])
/-- The rows but row n, off which row r is taken: the first i of them done. -/
def tks (p : Int) (c n : Nat) (r : List Int) (L : List (List Int)) (i : Nat) : List (List Int) := L.mapIdx fun j w => if j < i ∧ j ≠ n then tk p (w.getD c 0) w r else w
/-- The row that a round takes off the others. -/
def lead (p : Int) (L : List (List Int)) (c n : Nat) : List Int := sc p (pw p (((sw L n (nz L c n)).getD n []).getD c 0) (p - 2).toNat) ((sw L n (nz L c n)).getD n [])
/-- One round: column c, n rows done. -/
def rnd (p : Int) (L : List (List Int)) (c n : Nat) : Option (List (List Int)) :=
  if nz L c n = L.length then none else some (tks p c n (lead p L c n) ((sw L n (nz L c n)).set n (lead p L c n)) L.length)
/-- All rounds over the columns before c. -/
def ech (p : Int) (L : List (List Int)) : Nat → List (List Int) × List Nat
  | 0 => (L, [])
  | c + 1 => match rnd p (ech p L c).1 c (ech p L c).2.length with
    | none => ech p L c
    | some L' => (L', (ech p L c).2 ++ [c])
/-- Rows of k elements each. -/
def Rect (p : Int) (k : Nat) (L : List (List Int)) : Prop := ∀ r ∈ L, r.length = k ∧ ∀ x ∈ r, 0 ≤ x ∧ x < p
theorem Rect.at {p : Int} {k : Nat} {L : List (List Int)} (h : Rect p k L) {i : Nat} {r : List Int} (hi : L[i]? = some r) : r.length = k ∧ ∀ x ∈ r, 0 ≤ x ∧ x < p := h r (List.mem_of_getElem? hi)
theorem Rect.set {p : Int} {k : Nat} {L : List (List Int)} (h : Rect p k L) {i : Nat} {r : List Int} (hr : r.length = k ∧ ∀ x ∈ r, 0 ≤ x ∧ x < p) : Rect p k (L.set i r) := fun s hs => by
  rcases List.mem_or_eq_of_mem_set hs with h1 | h1
  · exact h s h1
  · exact h1 ▸ hr
theorem Rect.getD {p : Int} {k : Nat} {L : List (List Int)} (h : Rect p k L) {i : Nat} (hi : i < L.length) : (L.getD i []).length = k ∧ ∀ x ∈ L.getD i [], 0 ≤ x ∧ x < p := by
  rw [List.getD_eq_getElem?_getD, List.getElem?_eq_getElem hi]
  exact h _ (List.getElem_mem hi)
theorem Rect.sw {p : Int} {k : Nat} {L : List (List Int)} (h : Rect p k L) {n a : Nat} (hn : n < L.length) (ha : a < L.length) : Rect p k (sw L n a) := (h.set (h.getD ha)).set (h.getD hn)
theorem sc_ok {p b : Int} {k : Nat} {r : List Int} (hp : 0 < p) (h : r.length = k ∧ ∀ x ∈ r, 0 ≤ x ∧ x < p) : (sc p b r).length = k ∧ ∀ x ∈ sc p b r, 0 ≤ x ∧ x < p := ⟨by simp [sc, h.1], fun x hx => by
  obtain ⟨y, _, rfl⟩ := List.mem_map.1 hx
  exact ⟨Int.emod_nonneg _ (by omega), Int.emod_lt_of_pos _ hp⟩⟩
theorem tk_ok {p t : Int} {k : Nat} {a b : List Int} (hp : 0 < p) (ha : a.length = k) (hb : b.length = k) : (tk p t a b).length = k ∧ ∀ x ∈ tk p t a b, 0 ≤ x ∧ x < p := ⟨by simp [tk, ha, hb], fun x hx => by
  obtain ⟨i, hi, rfl⟩ := List.mem_iff_getElem.1 hx
  simp only [tk, List.getElem_zipWith]
  exact ⟨Int.emod_nonneg _ (by omega), Int.emod_lt_of_pos _ hp⟩⟩
theorem pw_ok {p a : Int} (hp : 2 ≤ p) : ∀ n, 0 ≤ pw p a n ∧ pw p a n < p
  | 0 => ⟨by simp [pw], by simp only [pw]; omega⟩
  | n + 1 => ⟨Int.emod_nonneg _ (by omega), Int.emod_lt_of_pos _ (by omega)⟩
/-- Taken off 0 times a row stays. -/
theorem tk_zero {p : Int} {a b : List Int} (h : a.length = b.length) (ha : ∀ x ∈ a, 0 ≤ x ∧ x < p) : tk p 0 a b = a := by
  apply List.ext_getElem (by simp [tk, h])
  intro i h1 h2
  simp only [tk, List.getElem_zipWith, Int.sub_zero, Int.add_mul_emod_self_left]
  have := ha _ (List.getElem_mem h2)
  exact Int.emod_eq_of_lt this.1 this.2
theorem sw_len {L : List (List Int)} {n a : Nat} : (sw L n a).length = L.length := by simp [sw]
theorem tks_len {p : Int} {c n : Nat} {r : List Int} {L : List (List Int)} {i : Nat} : (tks p c n r L i).length = L.length := by simp [tks]
theorem tks_get {p : Int} {c n : Nat} {r : List Int} {L : List (List Int)} {i j : Nat} : (tks p c n r L i)[j]? = L[j]?.map fun w => if j < i ∧ j ≠ n then tk p (w.getD c 0) w r else w := by simp [tks]
theorem tks_zero {p : Int} {c n : Nat} {r : List Int} {L : List (List Int)} : tks p c n r L 0 = L := by
  apply List.ext_getElem?
  intro j
  rw [tks_get]
  cases L[j]? <;> simp
theorem tks_skip {p : Int} {c n : Nat} {r : List Int} {L : List (List Int)} : tks p c n r L (n + 1) = tks p c n r L n := by
  apply List.ext_getElem?
  intro j
  rw [tks_get, tks_get]
  cases L[j]? with
  | none => rfl
  | some w =>
    simp only [Option.map_some]
    by_cases h : j < n
    · rw [if_pos ⟨by omega, by omega⟩, if_pos ⟨h, by omega⟩]
    · rw [if_neg (by omega), if_neg (by omega)]
theorem tks_next {p : Int} {c n : Nat} {r : List Int} {L : List (List Int)} {i : Nat} {w : List Int} (hi : i ≠ n) (hw : L[i]? = some w) : tks p c n r L (i + 1) = (tks p c n r L i).set i (tk p (w.getD c 0) w r) := by
  apply List.ext_getElem?
  intro j
  have hl := (List.getElem?_eq_some_iff.1 hw).1
  rw [tks_get, List.getElem?_set, tks_get]
  by_cases h : i = j
  · subst h
    rw [if_pos rfl, if_pos (by rw [tks_len]; exact hl), hw, Option.map_some, if_pos ⟨by omega, hi⟩]
  · rw [if_neg h]
    cases L[j]? with
    | none => rfl
    | some v =>
      simp only [Option.map_some]
      by_cases h2 : j < i ∧ j ≠ n
      · rw [if_pos ⟨by omega, h2.2⟩, if_pos h2]
      · rw [if_neg (by omega), if_neg h2]
/-- Row i is as it was before the round, as long as it has not been done. -/
theorem tks_old {p : Int} {c n : Nat} {r : List Int} {L : List (List Int)} {i j : Nat} (h : i ≤ j ∨ j = n) : (tks p c n r L i)[j]? = L[j]? := by
  rw [tks_get]
  cases L[j]? with
  | none => rfl
  | some v => simp only [Option.map_some]; rw [if_neg (by omega)]
theorem tks_rect {p : Int} {c n k : Nat} {r : List Int} {L : List (List Int)} {i : Nat} (hp : 0 < p) (h : Rect p k L) (hr : r.length = k) : Rect p k (tks p c n r L i) := fun s hs => by
  obtain ⟨j, hj⟩ := List.mem_iff_getElem?.1 hs
  rw [tks_get] at hj
  obtain ⟨w, h1, rfl⟩ := Option.map_eq_some_iff.1 hj
  split
  · exact tk_ok hp (h.at h1).1 hr
  · exact h.at h1
theorem lead_ok {p : Int} {k c n : Nat} {L : List (List Int)} (hp : 0 < p) (h : Rect p k L) (hn : n < L.length) (hz : nz L c n < L.length) : (lead p L c n).length = k ∧ ∀ x ∈ lead p L c n, 0 ≤ x ∧ x < p :=
  sc_ok hp ((h.sw hn hz).getD (by rw [sw_len]; exact hn))
theorem rnd_ok {p : Int} {k c n : Nat} {L L' : List (List Int)} (hp : 0 < p) (h : Rect p k L) (hn : n ≤ L.length) (hr : rnd p L c n = some L') : Rect p k L' ∧ L'.length = L.length ∧ n < L.length := by
  unfold rnd at hr
  have h1 := nz_le (L := L) (c := c) (L.length - n) n (by omega)
  split at hr
  · cases hr
  · cases hr
    have h2 : n < L.length := by omega
    have h3 := lead_ok (c := c) hp h h2 (by omega)
    exact ⟨tks_rect hp ((h.sw h2 (by omega)).set h3) h3.1, by rw [tks_len, List.length_set, sw_len], h2⟩
theorem ech_ok {p : Int} {k : Nat} {L : List (List Int)} (hp : 0 < p) (h : Rect p k L) : ∀ c, Rect p k (ech p L c).1 ∧ (ech p L c).1.length = L.length ∧ (ech p L c).2.length ≤ L.length ∧ (ech p L c).2.length ≤ c
  | 0 => ⟨h, rfl, Nat.zero_le _, Nat.le_refl _⟩
  | c + 1 => by
    have ih := ech_ok hp h c
    rw [ech]
    split
    · exact ⟨ih.1, ih.2.1, ih.2.2.1, by omega⟩
    · rename_i L' hr
      have h1 := rnd_ok hp ih.1 (by omega) hr
      exact ⟨h1.1, h1.2.1.trans ih.2.1, by simp only [List.length_append, List.length_singleton]; omega, by simp only [List.length_append, List.length_singleton]; omega⟩
/-- When all rows are done nothing more happens. -/
theorem ech_full {p : Int} {L : List (List Int)} {c : Nat} (h : (ech p L c).2.length = L.length) (hl : (ech p L c).1.length = L.length) : ∀ d, ech p L (c + d) = ech p L c
  | 0 => rfl
  | d + 1 => by
    have ih := ech_full h hl d
    rw [← Nat.add_assoc, ech, ih]
    have : rnd p (ech p L c).1 (c + d) (ech p L c).2.length = none := by
      unfold rnd
      rw [if_pos (by rw [nz_end (by omega)]; omega)]
    rw [this]
end Go.Proofs.Ytmkpfllbmdahkaa.Pl
/- Rows in a list of one's own: one row is written, two change places. For every program. No condition beyond each theorem's own. -/
set_option linter.unusedSimpArgs false
set_option linter.unusedVariables false
namespace Go.Proofs.Ytmkpfllbmdahkaa.Am
open Go Go.RowKit Go.Proofs Go.Proofs.Ytmkpfllbmdahkaa.Pl
section
variable {S S' V : Ids} {A A' : AH} {rows : List (List Int)} {cs : List Value}
/-- One row: where it lies, that it may be written, and that the others lie elsewhere. -/
theorem RowsB.row1 (h : RowsB KI.ml S A V rows cs) {j : Nat} {x : List Int} (hx : rows[j]? = some x) :
    ∃ v W, cs[j]? = some v ∧ KI.Ml W A v x ∧ (∀ id, W id → V id) ∧ (∀ (k : Nat) y, k ≠ j → rows[k]? = some y → ∃ u X, cs[k]? = some u ∧ KI.Ml X A u y ∧ (∀ id, X id → V id ∧ ¬ W id)) ∧
      ∀ (S' : Ids) (A' : AH) x', StW W S A S' A' → KI.Ml W A' v x' → RowsB KI.ml S' A' V (rows.set j x') cs := by
  obtain ⟨W, h1, h2, h3⟩ := h.rows
  obtain ⟨v, h4, w, h5, h6⟩ := h3 j x hx
  obtain rfl : v = w := by simpa using h5
  refine ⟨v, W j, h4, h6, h1 j, fun k y hk hy => ?_, fun S' A' x' st hm => ⟨by rw [List.length_set]; exact h.len, fun id hid => (st id (h.sub id hid)).1, W, h1, h2, fun k y hy => ?_⟩⟩
  · obtain ⟨u, h7, w, h8, h9⟩ := h3 k y hy
    obtain rfl : u = w := by simpa using h8
    exact ⟨u, W k, h7, h9, fun id hid => ⟨h1 k id hid, fun hc => hk (h2 k j id hid hc)⟩⟩
  · rw [List.getElem?_set] at hy
    split at hy
    · rename_i e
      subst e
      split at hy
      · cases hy
        exact ⟨v, h4, v, rfl, hm⟩
      · cases hy
    · rename_i e
      obtain ⟨u, h7, h8⟩ := h3 k y hy
      exact ⟨u, h7, KI.ml.same (fun id hid => (st id (h.sub id (h1 k id hid))).2 (fun hc => e (h2 j k id hc hid))) h8⟩
/-- Two rows change places. -/
theorem RowsB.swap (h : RowsB KI.ml S A V rows cs) {n a : Nat} (hn : n < rows.length) (ha : a < rows.length) {v w : Value} (hv : cs[n]? = some v) (hw : cs[a]? = some w) : RowsB KI.ml S A V (sw rows n a) ((cs.set n w).set a v) := by
  obtain ⟨W, h1, h2, h3⟩ := h.rows
  have hl := h.len
  refine ⟨by simp [sw, hl], h.sub, fun j => if j = a then W n else if j = n then W a else W j, fun j id hid => ?_, fun i j id hi hj => ?_, fun j x hx => ?_⟩
  · simp only at hid
    split at hid
    · exact h1 _ _ hid
    · split at hid <;> exact h1 _ _ hid
  · simp only at hi hj
    split at hi <;> split at hj
    · omega
    · split at hj
      · have := h2 _ _ _ hi hj; omega
      · have := h2 _ _ _ hi hj; omega
    · split at hi
      · have := h2 _ _ _ hi hj; omega
      · have := h2 _ _ _ hi hj; omega
    · split at hi <;> split at hj
      · omega
      · have := h2 _ _ _ hi hj; omega
      · have := h2 _ _ _ hi hj; omega
      · exact h2 _ _ _ hi hj
  · have gn : rows[n]? = some (rows.getD n []) := by rw [List.getD_eq_getElem?_getD, List.getElem?_eq_getElem hn]; rfl
    have ga : rows[a]? = some (rows.getD a []) := by rw [List.getD_eq_getElem?_getD, List.getElem?_eq_getElem ha]; rfl
    obtain ⟨vn, n1, n2⟩ := h3 n _ gn
    obtain ⟨va, a1, a2⟩ := h3 a _ ga
    rw [hv] at n1; cases n1
    rw [hw] at a1; cases a1
    unfold sw at hx
    simp only
    rw [List.getElem?_set] at hx ⊢
    by_cases e : a = j
    · subst e
      rw [if_pos rfl, if_pos (by simp; exact ha)] at hx
      cases hx
      rw [if_pos rfl, if_pos (by simp; omega)]
      exact ⟨_, rfl, by simpa using n2⟩
    · rw [if_neg e] at hx ⊢
      rw [List.getElem?_set] at hx ⊢
      by_cases e2 : n = j
      · subst e2
        rw [if_pos rfl, if_pos hn] at hx
        cases hx
        rw [if_pos rfl, if_pos (by omega)]
        refine ⟨_, rfl, ?_⟩
        rw [if_neg (Ne.symm e), if_pos rfl]
        exact a2
      · rw [if_neg e2] at hx ⊢
        obtain ⟨u, h7, h8⟩ := h3 j x hx
        refine ⟨u, h7, ?_⟩
        rw [if_neg (Ne.symm e), if_neg (Ne.symm e2)]
        exact h8
end
section
variable {P : Program} {S : Ids} {H0 : AH} {k k1 : List It} {e e1 : Env} {T T1 : List Var} {n n1 : Nat} {l1 r1 : List Nat}
/-- The end of a writer that returns nothing. -/
theorem KW.endW {fn : Func} {H : AH} {W : Ids} {post : Value → AH → Prop} {vs : List Value} {a b : List Nat} (h : Go1 P k e T n (.done .normal) k1 e1 T1 n1 l1 r1) (hlr : l1 = r1) (hr : aresT P e1 T1 fn.results.toList = some (vs, a, b)) (hab : a = b)
    (hn : ∀ H1, Good S H0 T1 n1 H1 → H.n ≤ H1.n) (hS : ∀ id, id < H.n → ¬ W id → S id ∧ H0.m id = H.m id) (hp : ∀ H1, Good S H0 T1 n1 H1 → post (aout vs) H1) :
    KW P S H0 (Fin1 P fn (fun v H1 => H.n ≤ H1.n ∧ (∀ id, id < H.n → ¬ W id → H1.m id = H.m id) ∧ Fin' H1 ∧ post v H1)) n T k e := by
  refine KW.go h hlr (fun H1 g => ?_)
  have hv := aresT_ok (P := P) g _ hr hab
  simp only [Fin1, hv]
  exact ⟨hn H1 g, fun id hid hw => by rw [(g.froz id (hS id hid hw).1).2, (hS id hid hw).2], g.fin, hp H1 g⟩
/-- .. of a function that returns nothing. -/
theorem KW.endM {fn : Func} {H : AH} {post : Value → AH → Prop} {vs : List Value} {a b : List Nat} (h : Go1 P k e T n (.done .normal) k1 e1 T1 n1 l1 r1) (hlr : l1 = r1) (hr : aresT P e1 T1 fn.results.toList = some (vs, a, b)) (hab : a = b) (hS : ∀ id, id < H.n → S id ∧ H0.m id = H.m id)
    (hp : ∀ H1, Good S H0 T1 n1 H1 → post (aout vs) H1) :
    KW P S H0 (Fin1 P fn (fun v H1 => Ext H H1 ∧ Fin' H1 ∧ post v H1)) n T k e := by
  refine KW.go h hlr (fun H1 g => ?_)
  have hv := aresT_ok (P := P) g _ hr hab
  have hn := g.n_
  have hx : Ext H H1 := by
    refine ⟨?_, fun id hid => by rw [(g.froz id (hS id hid).1).2, (hS id hid).2]⟩
    rcases Nat.eq_zero_or_pos H.n with h | h
    · omega
    · have := (g.froz (H.n - 1) (hS _ (by omega)).1).1
      omega
  simp only [Fin1, hv]
  exact ⟨hx, g.fin, hp H1 g⟩
end
/-- The state of a loop that makes rows. -/
structure RwS where
  i : Nat
  S : Ids
  A : AH
  V : Ids
  cs : List Value
  o : Nat
structure RwI {α : Type} (f : α → List Int) (xs : List α) (H : AH) (SB : Ids) (HB : AH) (s : RwS) : Prop where
  le : s.i ≤ xs.length
  old : St SB HB s.S s.A
  b : RowsB KI.ml s.S s.A s.V ((xs.take s.i).map f) s.cs
  v : ∀ id, s.V id → H.n ≤ id
theorem RwI.start {α : Type} {f : α → List Int} {xs : List α} {H HB : AH} {SB : Ids} {o : Nat} : RwI f xs H SB HB ⟨0, SB, HB, fun _ => False, [], o⟩ := ⟨Nat.zero_le _, fun id hid => ⟨hid, rfl⟩, RowsB.nil _ _, fun _ h => h.elim⟩
theorem RwI.next {α : Type} {f : α → List Int} {xs : List α} {H HB HC : AH} {SB SC : Ids} {s : RwS} {n1 o' : Nat} {y : α} {v : Value} (h : RwI f xs H SB HB s) (t : St s.S s.A SC HC) (w : On (New n1 HC.n) HC SC HC) (low : ∀ id, s.S id → id < n1) (hn : H.n ≤ n1) (hy : xs[s.i]? = some y) (hc : KI.Ml (New n1 HC.n) HC v (f y)) : RwI f xs H SB HB ⟨s.i + 1, SC, HC, fun id => s.V id ∨ New n1 HC.n id, s.cs ++ [v], o'⟩ := by
  obtain ⟨hil, rfl⟩ := List.getElem?_eq_some_iff.1 hy
  haveI o1 : On s.S s.A SC HC := ⟨t⟩
  refine ⟨by simp only; omega, h.old.trans t, ?_, fun id hid => hid.elim (h.v id) (fun p => by have := p.1; omega)⟩
  simp only
  rw [List.take_succ_eq_append_getElem hil, List.map_append]
  exact (h.b.up (S' := SC) (A' := HC)).snoc (ml1' hc) (fun id hid => (w.st id hid).1) (fun id p q => by have := low id (h.b.sub id p); have := q.1; omega)
theorem RwI.ml {α : Type} {f : α → List Int} {xs : List α} {H HB H1 : AH} {SB : Ids} {s : RwS} {T : List Var} {n j : Nat} {ty : TypeId} (h : RwI f xs H SB HB s) (he : s.i = xs.length) (g : Good s.S s.A T n H1) (hT : T[j]? = some (s.o, ⟨ty, true, s.cs⟩)) (ho : H.n ≤ s.o) : KI.ml.Ml (New H.n H1.n) H1 (.slice (some ⟨s.o, 0, some 1⟩) xs.length xs.length) (xs.map f) := by
  have hb := h.b
  rw [he, List.take_of_length_le (Nat.le_refl _)] at hb
  have := hb.ml rfl g hT (X := New H.n H1.n) ⟨ho, (g.blk hT).2⟩ (fun id hid => ⟨h.v id hid, by have := (g.froz id (hb.sub id hid)).1; have := g.n_; omega⟩)
  simpa using this
section
variable {P : Program} {S : Ids} {H0 : AH} {Q : PostC} {k k1 : List It} {e e1 : Env} {T T1 : List Var} {n n1 : Nat} {l1 r1 : List Nat} {d1 : Tmp}
/-- x[:m]. -/
theorem KW.slTo {o : Oper} {dr : Bool} {t el : TypeId} {x y : Operand} {inf : TypeInfo} {id es len c m : Nat} (h : Go1 P k e T n (.op o dr) k1 e1 T1 n1 l1 r1) (hlr : l1 = r1) (ho : o.op = .slice t x none (some y) none) (hd : o.dst = some d1) (hx : ev e1 x = .slice (some ⟨id, 0, some es⟩) len c) (hy : ev e1 y = .int .i64 (m : Nat))
    (hu : P.underlying t = some (.slice el)) (hi : P.info? el = some inf) (he : inf.size = es) (hm : m ≤ c) (hk : KW P S H0 Q n1 T1 k1 (put1 e1 d1 (.slice (some ⟨id, 0, some es⟩) m c))) : KW P S H0 Q n T k e := by
  refine KW.pure h hlr ho hd rfl _ ?_ hk
  simp only [pop, acut, hu, hx, hi, Option.map, hy, bHi, bLo, abound]
  rw [if_pos ⟨by omega, by omega⟩]
  simp [he]
end
theorem RowsB.mlTo {S V X : Ids} {A H2 : AH} {rows : List (List Int)} {cs : List Value} {T : List Var} {n j o : Nat} {ty : TypeId} {m c : Nat} (h : RowsB KI.ml S A V rows cs) (g : Good S A T n H2) (hT : T[j]? = some (o, ⟨ty, true, cs⟩)) (hX : X o) (hV : ∀ id, V id → X id) (hm : m ≤ rows.length) (hc : m ≤ c) : KI.ml.Ml X H2 (.slice (some ⟨o, 0, some 1⟩) m c) (rows.take m) := by
  obtain ⟨W, h1, h2, h3⟩ := h.rows
  have hb := g.blk hT
  have hno := (g.vars j _ hT).2.2
  have hl := h.len
  have el : (rows.take m).length = m := by rw [List.length_take]; omega
  refine .inr ⟨o, c, _, W, by rw [el]; rfl, by rw [el]; exact hc, hX, hb.1, rfl, by rw [el]; show m * 1 ≤ cs.length; omega, fun i id hid => ⟨hV id (h1 i id hid), fun e => hno (e ▸ h.sub id (h1 i id hid))⟩, h2, fun i x hx => ?_⟩
  have hx' : rows[i]? = some x := by
    rw [List.getElem?_take] at hx
    split at hx
    · exact hx
    · cases hx
  obtain ⟨v, h4, h5⟩ := h3 i x hx'
  have e : ((cs.drop (0 + i * 1)).take 1) = [v] := by
    rw [Nat.zero_add, Nat.mul_one, List.take_one, List.head?_drop, h4]; rfl
  show KI.ml.R (W i) H2 x ((cs.drop (0 + i * 1)).take 1)
  rw [e]
  exact KI.ml.same (fun id hid => (g.froz id (h.sub id (h1 i id hid))).2) h5
end Go.Proofs.Ytmkpfllbmdahkaa.Am
/- Contracts: SequenceFor of the reference, its answer. Each holds under its own conditions. -/
set_option linter.unusedVariables false
set_option linter.unusedSimpArgs false
set_option maxRecDepth 20000
namespace Go.Proofs.Ytmkpfllbmdahkaa.Am
open Go Go.RowKit Go.Proofs
section
variable {S : Ids} {H0 : AH}
theorem l07Lists {m : Nat} (hm : m ≤ 63) {a c} {xs : List Int} (hl : xs.length ≤ 1048576) (hx : ∀ x ∈ xs, 0 ≤ x ∧ x < 4611686018427387904) (hs : KI.Sl S H0 (.slice a xs.length c) xs) : SpecM Try.prog S H0 159 [.slice a xs.length c, .int .i64 m] (MkSS (xs.map fun v => hold v.toNat m)) := by
  refine SpecM.of1 Try.func159 rfl (by kernel_rfl) rfl (fun H _ => ?_)
  refine KW.lit rfl rfl rfl rfl rfl rfl rfl rfl rfl rfl [] rfl rfl (fun v hv => by simp at hv) rfl ?_
  refine KW.lpM rfl rfl (fun s : RwS => [(0, .slice a xs.length c), (1, .int .i64 m), (5, .slice (some ⟨s.o, 0, some 1⟩) s.i s.i), (6, .int .i64 s.i)]) (fun s => s.S) (fun s => s.A) (fun s => [(s.o, ⟨_, true, s.cs⟩)]) (fun s => RwI (fun v => hold v.toNat m) xs H (Low H.n) H s) (fun s => xs.length - s.i) (⟨0, Low H.n, H, fun _ => False, [], _⟩) (RwI.start) ⟨rfl, rfl, rfl, rfl, trivial⟩ rfl rfl rfl (fun s hi bE n => ?_)
  haveI : Stp (Low H.n) H s.S s.A := ⟨hi.old⟩
  have hle := hi.le
  have hcl := hi.b.len
  rw [List.length_map, List.length_take] at hcl
  refine KW.cnd rfl rfl (fun k1 => ?_) (fun k1 => ?_)
  · refine KW.getI hs.up rfl rfl rfl rfl rfl rfl rfl rfl rfl rfl rfl rfl rfl rfl rfl rfl (by omega) (k1) (fun y hy => ?_)
    have hy : xs[s.i]? = some y := hy
    have hyb := hx y (List.mem_of_getElem? hy)
    refine KW.ids (fun hlow hvar => ?_)
    refine KW.fact (fun _ g => g.nle (H1 := H)) (fun hn0 => ?_)
    obtain ⟨z, rfl⟩ : ∃ z : Nat, y = z := ⟨y.toNat, by omega⟩
    refine KW.callN1 rfl rfl rfl rfl rfl (l06Holders (x := z) (m := m) (by omega) hm) (fun v HC SC mC _ _ hv => ?_)
    obtain ⟨a5, c5, rfl, hC⟩ := hv
    refine KW.app1 (xs := s.cs) (v := .slice a5 (hold z m).length c5) 0 1 rfl rfl rfl rfl rfl rfl rfl rfl rfl rfl rfl rfl rfl rfl rfl rfl rfl rfl rfl rfl rfl rfl rfl (by omega) (by show (_ + 1) * 24 ≤ _; omega) (by first | omega | (simp only; omega)) ?_
    exact KW.nxt rfl rfl (fun H' g => ⟨_, hi.next (inferInstance : Stp s.S s.A SC HC).st inferInstance hlow hn0 hy hC, by simp only; omega, ⟨rfl, rfl, rfl, congrArg (Value.int .i64) (inc64 (by omega)), trivial⟩, g⟩)
  · have he : s.i = xs.length := by omega
    refine KW.retM1 rfl rfl rfl rfl (fun H1 g => ?_)
    have := hi.ml he g (j := 0) rfl (g.ge (H1 := H) (j := 0) rfl)
    rw [← he] at this
    exact ⟨_, _, by rw [List.length_map, ← he]; rfl, by rw [List.length_map, ← he]; exact this⟩
theorem chain_iff {gs : List (List Int)} {k q : Nat} {chain : List (List Int)} (h0 : ¬ Opens gs 0) : (ChainC gs k (nums chain) chain.length ∧ ∀ i, i < chain.length → ∃ w, Least gs k (bef (nums chain) i) ((nums chain).getD i 0) w true) ↔ ∀ i, i < chain.length → OkAt gs k (nums chain) i := by
  constructor
  · rintro ⟨⟨h1, h2⟩, h3⟩ i hi
    -- each set lies in the last one
    have up : ∀ d j, j + d = chain.length → bef (nums chain) j &&& bef (nums chain) chain.length = bef (nums chain) j := fun d => by
      induction d with
      | zero => intro j hj; rw [show j = chain.length by omega]; exact Nat.and_self _
      | succ d ih =>
        intro j hj
        have h4 := ih (j + 1) (by omega)
        have h5 := (h1 j (by omega)).2.1
        rw [bef_succ] at h4
        have h6 : bef (nums chain) j = bef (nums chain) j &&& (nums chain).getD j 0 := by rw [Nat.and_comm]; exact h5.symm
        rw [h6, Nat.and_assoc, h4]
    have h4 := up (chain.length - (i + 1)) (i + 1) (by omega)
    rw [bef_succ] at h4
    have h5 := h1 i hi
    exact ⟨⟨h5.2.2, h5.1, h5.2.1, fun ho => h2 (opens_up ho h4)⟩, h3 i hi⟩
  · intro h
    refine ⟨⟨fun i hi => ⟨(h i hi).1.2.1, (h i hi).1.2.2.1, (h i hi).1.1⟩, ?_⟩, fun i hi => (h i hi).2⟩
    rcases Nat.eq_zero_or_pos chain.length with h4 | h4
    · rw [h4]; exact h0
    · have h5 := (h (chain.length - 1) (by omega)).1.2.2.2
      rw [show chain.length = chain.length - 1 + 1 by omega, bef_succ]
      exact h5
theorem notEmpty {m : Int} {gs : List (List Int)} (h : codeF m gs = 0) : ¬ Opens gs 0 := by
  have hf := codeF_ok h
  rintro ⟨g, hg, hb⟩
  rw [Nat.zero_and] at hb
  -- the group is empty, and so is the first one
  have hge : g = [] := by
    cases g with
    | nil => rfl
    | cons x g =>
      obtain ⟨i, hi⟩ := List.getElem?_of_mem hg
      have hx : 0 ≤ x := (hf.below _ hg x List.mem_cons_self).1
      have := (bitsOf_test (g := x :: g) (fun y hy => (hf.below _ hg y hy).1) x.toNat).2 (by have : ((x.toNat : Nat) : Int) = x := by omega
                                                                                             rw [this]; exact List.mem_cons_self)
      rw [← hb] at this
      simp at this
  subst hge
  obtain ⟨i, hi⟩ := List.getElem?_of_mem hg
  have hil := (List.getElem?_eq_some_iff.1 hi).1
  rcases Nat.eq_zero_or_pos i with h0 | h0
  · subst h0
    unfold codeF at h
    rw [if_pos (tv_true hf)] at h
    have e : gs.getD 0 [] = [] := getDL_of hi
    split at h
    · cases h
    · split at h
      · cases h
      · rw [e] at h; simp at h
  · have := (hf.grp i hil).2 h0
    rw [getDL_of hi] at this
    revert this
    cases gs.getD (i - 1) [] <;> simp [lexB]
theorem holdUp {x q m : Nat} (hx : x < 2 ^ q) (hq : q ≤ m) : hold x m = hold x q := by
  have := hold_up hx (m - q)
  rw [show q + (m - q) = m by omega] at this
  exact this
theorem spec_SequenceFor {y : T_Family} {known : List Int} {chain : List (List Int)} {ds : List Value} {a1 c1 a2 c2} (hF : B_Family y) (hK : B_Int64S known) (hC : B_Int64SS chain) (h : K_Family.R S H0 y ds) (k : K_Int64S.R S H0 known [.slice a1 known.length c1]) (k' : K_Int64SS.R S H0 chain [.slice a2 chain.length c2]) :
    SpecM Try.prog S H0 84 [.agg ds.toArray, .slice a1 known.length c1, .slice a2 chain.length c2] (MkQC (r0_SequenceFor y known chain) (r1_SequenceFor y known chain)) := by
  obtain ⟨a3, c3, rfl, h1⟩ := split_Family h
  have s1 := sl1 h1
  have s2 := sl1 k
  have s3 := sl1 k'
  obtain ⟨m, gs⟩ := y
  simp only at s1 ⊢
  have hsm : Sml gs := hF.2
  have hkl : known.length ≤ 1048576 := hK
  have hcl := hC.len
  refine SpecM.of1 Try.func84 rfl (by kernel_rfl) rfl (fun H _ => ?_)
  refine KW.callV1 rfl rfl rfl rfl rfl (fun H1 g _ => l07Family m hsm (g.blk (j := 0) rfl).2 (g.blk (j := 0) rfl).1 s1.up) (fun _ _ => ?_)
  by_cases hc : codeF m gs = 0
  · rw [hc]
    have hf := codeF_ok hc
    have hm1 := hf.h1
    have hm7 := hf.h2
    obtain ⟨q, hq⟩ : ∃ q : Nat, m = q := ⟨m.toNat, by omega⟩
    have hb : Below' q gs := by have := hf.below; rw [hq] at this; simpa using this
    have h0 := notEmpty hc
    have h5 : ¬ m > 5 := fun hx => by unfold codeF at hc; rw [if_pos (tv_true hf), if_pos hx] at hc; cases hc
    have hp := small_pow (m := q) (by omega)
    refine KW.cF rfl rfl (by first | (simp; done) | decide) ?_
    refine KW.callV1 rfl rfl rfl rfl rfl (fun H1 g _ => l07Group m ⟨hm1, hm7⟩ ((g.has (j := 0) rfl rfl).take (vs := [_])) hkl s2.up) (fun _ _ => ?_)
    by_cases hk1 : Rises 0 (m - 1) known
    · rw [tv_true hk1]
      refine KW.tF rfl rfl (by first | (simp; done) | decide) ?_
      refine KW.callV1 rfl rfl rfl rfl rfl (fun H1 g _ => l07Groups m ⟨hm1, hm7⟩ ((g.has (j := 0) rfl rfl).take (vs := [_])) hC s3.up) (fun _ _ => ?_)
      by_cases hk2 : ∀ g ∈ chain, Rises 0 (m - 1) g
      · rw [tv_true hk2]
        refine KW.cF rfl rfl (by first | (simp; done) | decide) ?_
        have hkb := rises_lt hq hk1
        have hkq : bitsOf known < 2 ^ q := bitsOf_lt (fun x hx => by have := hkb x hx; omega)
        have hnq : ∀ i, i < chain.length → (nums chain).getD i 0 < 2 ^ q := fun i hi => by
          rw [List.getD_eq_getElem?_getD, List.getElem?_map, List.getElem?_eq_getElem hi]
          exact bitsOf_lt (fun x hx => by have := rises_lt hq (hk2 _ (List.getElem_mem hi)) x hx; omega)
        refine KW.callNV1 rfl rfl rfl rfl rfl (fun H1 g _ => l07Open (m := q) (by omega) hsm hb (g.blk (j := 0) rfl).2 (by subst hq; exact (g.blk (j := 0) rfl).1) s1.up) (fun v HO SO mO _ _ hv => ?_)
        obtain ⟨a4, c4, rfl, hO⟩ := hv
        refine KW.callE rfl rfl rfl rfl rfl (l07Bits (m := q) (by omega) (by omega) hkb s2.up) (fun _ _ => ?_)
        refine KW.callN1 rfl rfl rfl rfl rfl (l07Numbers (q := q) (by omega) hC (fun g hg => rises_lt hq (hk2 g hg)) s3.up) (fun v HN SN mN _ _ hv => ?_)
        obtain ⟨a5, c5, rfl, hN⟩ := hv
        refine KW.callE rfl rfl rfl rfl rfl (l07Chain (q := q) (by omega) hkq hcl hnq hO.up hN.ups) (fun _ _ => ?_)
        have hiff := chain_iff (gs := gs) (k := bitsOf known) (q := q) (chain := chain) h0
        by_cases hch : ChainC gs (bitsOf known) (nums chain) chain.length
        · rw [tv_true hch]
          refine KW.cF rfl rfl (by first | (simp; done) | decide) ?_
          refine KW.callN1 rfl rfl rfl rfl rfl (l07Withs (q := q) (by omega) hkq hcl hnq hO.up hN.ups) (fun v HW SW mW _ _ hv => ?_)
          obtain ⟨ok, v', rfl, hW⟩ := hv
          rcases hW with ⟨rfl, hall, a6, c6, rfl, hW⟩ | ⟨rfl, hno, a6, n6, c6, rfl⟩
          · refine KW.cF rfl rfl (by first | (simp; done) | decide) ?_
            obtain ⟨e1, e0⟩ := sf_ok (y := (m, gs)) (known := known) (chain := chain) hc ⟨hk1, hk2⟩ (hiff.1 ⟨hch, hall⟩)
            rw [e1, e0]
            have hm63 : q ≤ 63 := by omega
            subst hq
            refine KW.callN1 rfl rfl rfl rfl rfl (l06Holders (x := bitsOf known) (m := q) (by omega) hm63) (fun v HK SK mK _ _ hv => ?_)
            obtain ⟨a7, c7, rfl, hKk⟩ := hv
            rw [hold_bits q hk1] at hKk ⊢
            refine KW.callN1 rfl rfl rfl rfl rfl (l07Lists (m := q) hm63 (by rw [List.length_map]; exact hcl) (fun x hx => by obtain ⟨g, hg, rfl⟩ := List.mem_map.1 hx; have := bits256 (q := q) (by omega) (rises_lt rfl (hk2 g hg)); omega) hN.ups) (fun v HL SL mL _ _ hv => ?_)
            obtain ⟨a8, c8, rfl, hL⟩ := hv
            have eL : ((numsI chain).map fun v => hold v.toNat q) = chain := by
              rw [List.map_map]
              refine Eq.trans (List.map_congr_left (g := id) fun g hg => ?_) (List.map_id _)
              show hold ((bitsOf g : Nat) : Int).toNat q = g
              rw [Int.toNat_natCast]
              exact hold_bits q (hk2 g hg)
            rw [eL] at hL ⊢
            have lwx : ∀ i, i < chain.length → leastW gs (bitsOf known) (bef (nums chain) i) ((nums chain).getD i 0) < 2 ^ q := fun i hi => by
              obtain ⟨w, hw⟩ := hall i hi
              rw [leastW_eq hw]
              rcases hw with ⟨_, h, _⟩ | ⟨h, _⟩
              · omega
              · cases h
            refine KW.callN1 rfl rfl rfl rfl rfl (l07Lists (m := q) hm63 (by simp [lwI]; exact hcl) (fun x hx => by obtain ⟨i, hi, rfl⟩ := List.mem_map.1 hx; have := lwx i (List.mem_range.1 hi); omega) hW.ups) (fun v HM SM mM _ _ hv => ?_)
            obtain ⟨a9, c9, rfl, hM⟩ := hv
            have eM : ((lwI gs (bitsOf known) (nums chain) chain.length).map fun v => hold v.toNat q) = withs gs (bitsOf known) (nums chain) chain.length := by
              unfold lwI withs withAt
              rw [List.map_map]
              refine List.map_congr_left fun i hi => ?_
              show hold ((leastW _ _ _ _ : Nat) : Int).toNat q = _
              rw [Int.toNat_natCast]
              exact (holdUp (lwx i (List.mem_range.1 hi)) (by omega)).symm
            rw [eM] at hM ⊢
            refine KW.build rfl rfl rfl rfl rfl (built_Seq3 _ _ _ _ _ _ _ _ _) ?_
            refine KW.retM1 rfl rfl rfl rfl (fun H1 g => ?_)
            have r1 : KI.Ml (New _ HK.n) H1 _ known := ml1 (g.keep (ml1' hKk))
            have r2 : KI.ml.Ml (New _ HL.n) H1 _ chain := ml1 (g.keep (ml1' hL))
            have r3 : KI.ml.Ml (New _ HM.n) H1 _ _ := ml1 (g.keep (ml1' hM))
            refine ⟨_, rfl, mpR (cs := [.slice a7 known.length c7]) (Y := New HK.n H1.n) (ml1' r1) (mpR (cs := [.slice a8 chain.length c8]) (ml1' r2) (ml1' r3) (g.inn (H := HL) (fun _ p => by have := p.1; omega)) (g.inn (H := HM) (fun _ p => by have := p.1; omega)) (fun id p r => by have := p.2; have := r.1; omega)) (g.inn (H := HK) (fun _ p => by have := p.1; omega)) (fun id p => ⟨by have := p.1; omega, p.2⟩) (fun id p r => by have := p.2; have := r.1; omega)⟩
          · refine KW.cT rfl rfl (by first | (simp; done) | decide) ?_
            obtain ⟨e1, e0⟩ := sf_proof (y := (m, gs)) (known := known) (chain := chain) hc ⟨hk1, hk2⟩ (fun hall => by obtain ⟨i, hi, hn⟩ := hno; exact hn (hall i hi).2)
            rw [e1, e0]
            refine KW.build rfl rfl rfl rfl rfl (built_Seq0) ?_
            refine KW.retM1 rfl rfl rfl rfl (fun H1 g => ?_)
            exact MkQC.nil rfl
        · rw [tv_false hch]
          refine KW.cT rfl rfl (by first | (simp; done) | decide) ?_
          obtain ⟨e1, e0⟩ := sf_proof (y := (m, gs)) (known := known) (chain := chain) hc ⟨hk1, hk2⟩ (fun hall => hch (hiff.2 hall).1)
          rw [e1, e0]
          refine KW.build rfl rfl rfl rfl rfl (built_Seq0) ?_
          refine KW.retM1 rfl rfl rfl rfl (fun H1 g => ?_)
          exact MkQC.nil rfl
      · rw [tv_false hk2]
        refine KW.cT rfl rfl (by first | (simp; done) | decide) ?_
        obtain ⟨e1, e0⟩ := sf_range (y := (m, gs)) (known := known) (chain := chain) hc (fun hx => hk2 hx.2)
        rw [e1, e0]
        refine KW.build rfl rfl rfl rfl rfl (built_Seq0) ?_
        refine KW.retM1 rfl rfl rfl rfl (fun H1 g => ?_)
        exact MkQC.nil rfl
    · rw [tv_false hk1]
      refine KW.tT rfl rfl (by first | (simp; done) | decide) ?_
      refine KW.cT rfl rfl (by first | (simp; done) | decide) ?_
      obtain ⟨e1, e0⟩ := sf_range (y := (m, gs)) (known := known) (chain := chain) hc (fun hx => hk1 hx.1)
      rw [e1, e0]
      refine KW.build rfl rfl rfl rfl rfl (built_Seq0) ?_
      refine KW.retM1 rfl rfl rfl rfl (fun H1 g => ?_)
      exact MkQC.nil rfl
  · refine KW.cndB rfl rfl (fun k2 => ?_) (fun k2 => ?_)
    · obtain ⟨e1, e0⟩ := sf_code (y := (m, gs)) (known := known) (chain := chain) hc
      rw [e1, e0]
      refine KW.build rfl rfl rfl rfl rfl (built_Seq0) ?_
      refine KW.retM1 rfl rfl rfl rfl (fun H1 g => ?_)
      exact MkQC.nil rfl
    · exact absurd (by simpa using k2) hc
theorem bound_SequenceFor {y : T_Family} {known : List Int} {chain : List (List Int)} (hF : B_Family y) (hK : B_Int64S known) (hC : B_Int64SS chain) : B_Sequence (r0_SequenceFor y known chain) := by
  unfold r0_SequenceFor
  split
  · rename_i h
    unfold r1_SequenceFor at h
    split at h
    · rename_i hc
      split at h
      · rename_i h2
        have h2 := tv_iff.1 h2
        split at h
        · rename_i h3
          have h3 := tv_iff.1 h3
          have hf := codeF_ok hc
          obtain ⟨q, hq⟩ : ∃ q : Nat, y.1 = q := ⟨y.1.toNat, by have := hf.h1; omega⟩
          have hq7 : q ≤ 7 := by have := hf.h2; omega
          have hp := small_pow (m := q) (by omega)
          -- the numbers of the chain rise
          have up : ∀ i, i ≤ chain.length → i ≤ bef (nums chain) i := fun i => by
            induction i with
            | zero => intro _; exact Nat.zero_le _
            | succ i ih =>
              intro hi
              have h4 := ih (by omega)
              have h5 := (h3 i (by omega)).1
              rw [bef_succ]
              have h6 : bef (nums chain) i ≤ (nums chain).getD i 0 := by rw [← h5.2.2.1]; exact Nat.and_le_left
              have h7 := h5.2.1
              omega
          have h8 := up chain.length (Nat.le_refl _)
          have h9 := bef_lt (q := q) (ns := nums chain) (fun i hi => by
            have hi : i < chain.length := by simpa using hi
            rw [List.getD_eq_getElem?_getD, List.getElem?_map, List.getElem?_eq_getElem hi]
            exact bitsOf_lt (fun x hx => by have := rises_lt hq (h2.2 _ (List.getElem_mem hi)) x hx; omega)) chain.length (by simp)
          refine ⟨hK, hC, ⟨?_, ?_⟩⟩
          · show (withs _ _ _ _).length ≤ _
            simp [withs]; omega
          · have hs : ∀ n, sum (lens (withs y.2 (bitsOf known) (nums chain) n)) ≤ 7 * n := fun n => by
              induction n with
              | zero => exact Nat.le_refl _
              | succ n ih =>
                have e : withs y.2 (bitsOf known) (nums chain) (n + 1) = withs y.2 (bitsOf known) (nums chain) n ++ [withAt y.2 (bitsOf known) (nums chain) n] := by unfold withs; rw [List.range_succ, List.map_append]; rfl
                have ha : ∀ (l : List Nat) (x : Nat), sum (l ++ [x]) = sum l + x := fun l x => by
                  induction l with
                  | nil => simp [sum]
                  | cons z l ih => simp only [List.cons_append, sum, ih]; omega
                have hw : (withAt y.2 (bitsOf known) (nums chain) n).length ≤ 7 := hold_len _ _
                rw [e]
                simp only [lens, List.map_append, List.map_cons, List.map_nil] at ih ⊢
                rw [ha]
                omega
            have := hs chain.length
            show sum (lens (withs _ _ _ _)) ≤ _
            omega
        · cases h
      · cases h
    · rename_i hc
      exact absurd h hc
  · exact ⟨by show 0 ≤ _; omega, ⟨by show 0 ≤ _; omega, by show 0 ≤ _; omega⟩, ⟨by show 0 ≤ _; omega, by show 0 ≤ _; omega⟩⟩
end
end Go.Proofs.Ytmkpfllbmdahkaa.Am
/- Chains of groups in plain Lean: the longest one behind a set, and the best one of all. Each holds under its own conditions. -/
set_option linter.unusedVariables false
set_option linter.unusedSimpArgs false
set_option maxRecDepth 20000
namespace Go.Proofs.Ytmkpfllbmdahkaa.Am
open Go Go.RowKit Go.Proofs
/-- x may stand behind b. -/
def Lk (gs : List (List Int)) (k b x : Nat) : Prop := Chd gs k b x ∧ ∃ w, Least gs k b x w true
theorem Lk.lt {gs : List (List Int)} {k b x : Nat} (h : Lk gs k b x) : b < x := by
  have h1 := h.1.2.1
  have h2 := h.1.2.2.1
  have h3 : x &&& b ≤ x := Nat.and_le_left
  omega
/-- The first of the longest chains whose first set is one of the n behind b; r tells how it goes on. -/
noncomputable def lngL (gs : List (List Int)) (k b : Nat) (r : Nat → List Nat) : Nat → List Nat
  | 0 => []
  | n + 1 => if tv (Lk gs k b (b + 1 + n)) = true ∧ (lngL gs k b r n).length < (r (b + 1 + n)).length + 1 then (b + 1 + n) :: r (b + 1 + n) else lngL gs k b r n
noncomputable def lng (gs : List (List Int)) (k q : Nat) : Nat → Nat → List Nat
  | 0, _ => []
  | f + 1, b => lngL gs k b (lng gs k q f) (2 ^ q - 1 - b)
/-- A chain that may stand behind b. -/
def Chn (gs : List (List Int)) (k : Nat) : Nat → List Nat → Prop
  | _, [] => True
  | b, x :: r => Lk gs k b x ∧ Chn gs k x r
theorem lngL_ok {gs : List (List Int)} {k b N : Nat} {r : Nat → List Nat} (hr : ∀ x, b < x → x < N → Chn gs k x (r x) ∧ ∀ y ∈ r x, y < N) : ∀ n, b + n < N → Chn gs k b (lngL gs k b r n) ∧ ∀ y ∈ lngL gs k b r n, y < N
  | 0, _ => ⟨trivial, fun y hy => by simp [lngL] at hy⟩
  | n + 1, h => by
    unfold lngL
    split
    · rename_i hc
      have h1 := hr (b + 1 + n) (by omega) (by omega)
      refine ⟨⟨tv_iff.1 hc.1, h1.1⟩, fun y hy => ?_⟩
      rcases List.mem_cons.1 hy with rfl | hy
      · omega
      · exact h1.2 y hy
    · exact lngL_ok hr n (by omega)
theorem lng_ok {gs : List (List Int)} {k q : Nat} : ∀ f b, b < 2 ^ q → Chn gs k b (lng gs k q f b) ∧ ∀ y ∈ lng gs k q f b, y < 2 ^ q
  | 0, b, _ => ⟨trivial, fun y hy => by simp [lng] at hy⟩
  | f + 1, b, h => by
    unfold lng
    exact lngL_ok (fun x _ hx => lng_ok f x hx) _ (by omega)
theorem Chn.len {gs : List (List Int)} {k N : Nat} : ∀ {b : Nat} {xs : List Nat}, Chn gs k b xs → (∀ y ∈ xs, y < N) → b < N → xs.length + b < N
  | b, [], _, _, hb => by simpa using hb
  | b, x :: r, h, hx, hb => by
    have h1 := h.1.lt
    have h2 := h.2.len (fun y hy => hx y (List.mem_cons_of_mem _ hy)) (hx x (List.mem_cons_self ..))
    simp only [List.length_cons]
    omega
/-- The last set of a chain. -/
def lastB (b : Nat) (xs : List Nat) : Nat := if xs.length = 0 then b else xs.getD (xs.length - 1) 0
theorem lastB_cons (b x : Nat) (r : List Nat) : lastB b (x :: r) = lastB x r := by
  unfold lastB
  cases r with
  | nil => simp
  | cons y r => simp
theorem Chn.snoc_iff {gs : List (List Int)} {k x : Nat} : ∀ {b : Nat} {xs : List Nat}, Chn gs k b (xs ++ [x]) ↔ Chn gs k b xs ∧ Lk gs k (lastB b xs) x
  | b, [] => by simp [Chn, lastB]
  | b, y :: r => by
    rw [lastB_cons]
    show (Lk gs k b y ∧ Chn gs k y (r ++ [x])) ↔ (Lk gs k b y ∧ Chn gs k y r) ∧ _
    rw [Chn.snoc_iff, and_assoc]
theorem chn_iff {gs : List (List Int)} {k : Nat} : ∀ {b : Nat} {ns : List Nat}, Chn gs k b ns ↔ ∀ i, i < ns.length → Lk gs k (if i = 0 then b else ns.getD (i - 1) 0) (ns.getD i 0)
  | b, [] => by simp [Chn]
  | b, x :: r => by
    show (Lk gs k b x ∧ Chn gs k x r) ↔ _
    rw [chn_iff]
    constructor
    · rintro ⟨h1, h2⟩ i hi
      cases i with
      | zero => simpa using h1
      | succ i =>
        have h3 := h2 i (by simpa using hi)
        rw [if_neg (by omega)]
        cases i with
        | zero => simpa using h3
        | succ i => simpa using h3
    · intro h
      refine ⟨by simpa using h 0 (by simp), fun i hi => ?_⟩
      have h3 := h (i + 1) (by simpa using hi)
      rw [if_neg (by omega)] at h3
      cases i with
      | zero => simpa using h3
      | succ i => simpa using h3
theorem chn_ok {gs : List (List Int)} {k : Nat} {ns : List Nat} : Chn gs k 0 ns ↔ ∀ i, i < ns.length → OkAt gs k ns i := chn_iff
/-- How many holders a group has. -/
def ones (n : Nat) : Nat := ((List.range 7).filter fun i => n.testBit i).length
theorem ones_step : ∀ b, b < 128 → 0 < b → ones b = 1 + ones (b &&& (b - 1)) := by decide
theorem ones_pos : ∀ b, b < 128 → 0 < b → 0 < ones b := by decide
theorem ones_le (b : Nat) : ones b ≤ 7 := Nat.le_trans (List.length_filter_le _ _) (by simp)
theorem ones_zero : ones 0 = 0 := by decide
/-- The best that has been found: what is known, the chain, its worth; f tells whether something has been found. -/
structure Bst where
  k : Nat
  ch : List Nat
  w : Nat
  f : Bool
noncomputable def worth (gs : List (List Int)) (k n : Nat) : Nat := if tv (Opens gs k) = true then n + 1 else n
theorem worth_le {gs : List (List Int)} {k a b : Nat} (h : a ≤ b) : worth gs k a ≤ worth gs k b := by unfold worth; split <;> omega
theorem worth_lt {gs : List (List Int)} {k a b : Nat} (h : a < b) : worth gs k a < worth gs k b := by unfold worth; split <;> omega
noncomputable def tryS (gs : List (List Int)) (s : Bst) (k : Nat) (ch : List Nat) : Bst :=
  if s.f = true ∧ worth gs k ch.length * ones s.k ≤ s.w * ones k then s else ⟨k, ch, worth gs k ch.length, true⟩
theorem tryS_two {gs : List (List Int)} {s : Bst} {k : Nat} {a b : List Nat} (hk : 0 < ones k) : tryS gs (tryS gs s k a) k b = tryS gs s k (if a.length < b.length then b else a) := by
  by_cases h1 : s.f = true ∧ worth gs k a.length * ones s.k ≤ s.w * ones k
  · have e1 : tryS gs s k a = s := if_pos h1
    rw [e1]
    split
    · rfl
    · rename_i h2
      rw [e1]
      have h3 := worth_le (gs := gs) (k := k) (a := b.length) (b := a.length) (by omega)
      exact if_pos ⟨h1.1, Nat.le_trans (Nat.mul_le_mul_right _ h3) h1.2⟩
  · have e1 : tryS gs s k a = ⟨k, a, worth gs k a.length, true⟩ := if_neg h1
    rw [e1]
    split
    · rename_i h2
      have h3 := worth_lt (gs := gs) (k := k) h2
      have e2 : tryS gs s k b = ⟨k, b, worth gs k b.length, true⟩ := if_neg (fun hc => h1 ⟨hc.1, Nat.le_trans (Nat.mul_le_mul_right _ (Nat.le_of_lt h3)) hc.2⟩)
      rw [e2]
      refine if_neg (fun hc => ?_)
      have h4 : worth gs k b.length * ones k ≤ worth gs k a.length * ones k := hc.2
      exact absurd (Nat.le_of_mul_le_mul_right h4 hk) (by omega)
    · rename_i h2
      rw [e1]
      have h3 := worth_le (gs := gs) (k := k) (a := b.length) (b := a.length) (by omega)
      exact if_pos ⟨rfl, Nat.mul_le_mul_right _ h3⟩
/-- One set more behind a chain. -/
theorem tryS_next {gs : List (List Int)} {s : Bst} {k b n : Nat} {ch : List Nat} {r : Nat → List Nat} (hk : 0 < ones k) (hl : Lk gs k b (b + 1 + n)) : tryS gs (tryS gs s k (ch ++ lngL gs k b r n)) k ((ch ++ [b + 1 + n]) ++ r (b + 1 + n)) = tryS gs s k (ch ++ lngL gs k b r (n + 1)) := by
  rw [tryS_two hk]
  congr 1
  have e : lngL gs k b r (n + 1) = if tv (Lk gs k b (b + 1 + n)) = true ∧ (lngL gs k b r n).length < (r (b + 1 + n)).length + 1 then (b + 1 + n) :: r (b + 1 + n) else lngL gs k b r n := rfl
  rw [e]
  by_cases h : (lngL gs k b r n).length < (r (b + 1 + n)).length + 1
  · rw [if_pos (by simp only [List.length_append, List.length_cons, List.length_nil]; omega), if_pos ⟨tv_true hl, h⟩, List.append_assoc]
    rfl
  · rw [if_neg (by simp only [List.length_append, List.length_cons, List.length_nil]; omega), if_neg (fun hc => h hc.2)]
theorem lngL_skip {gs : List (List Int)} {k b n : Nat} {r : Nat → List Nat} (hl : ¬ Lk gs k b (b + 1 + n)) : lngL gs k b r (n + 1) = lngL gs k b r n := if_neg (fun hc => hl (tv_iff.1 hc.1))
/-- The best when n sets have been taken as known. -/
noncomputable def bestS (gs : List (List Int)) (q : Nat) : Nat → Bst
  | 0 => ⟨0, [], 0, false⟩
  | n + 1 => tryS gs (bestS gs q n) (n + 1) (lng gs (n + 1) q (2 ^ q) 0)
theorem tryS_f {gs : List (List Int)} {s : Bst} {k : Nat} {ch : List Nat} : (tryS gs s k ch).f = true := by
  unfold tryS
  split
  · rename_i h; exact h.1
  · rfl
/-- What is known of the best. -/
structure BOk (gs : List (List Int)) (N : Nat) (s : Bst) : Prop where
  k : s.k < N
  ch : Chn gs s.k 0 s.ch
  lt : ∀ y ∈ s.ch, y < N
  w : s.w ≤ N
  pos : s.f = true → 0 < s.k
theorem tryS_ok {gs : List (List Int)} {s : Bst} {N k : Nat} {ch : List Nat} (h : BOk gs N s) (hk : k < N) (h0 : 0 < k) (hc : Chn gs k 0 ch) (hl : ∀ y ∈ ch, y < N) : BOk gs N (tryS gs s k ch) := by
  unfold tryS
  split
  · exact h
  · refine ⟨hk, hc, hl, ?_, fun _ => h0⟩
    have := hc.len hl (by omega)
    show worth gs k ch.length ≤ N
    unfold worth
    split <;> omega
theorem bestS_ok {gs : List (List Int)} {q : Nat} : ∀ n, n < 2 ^ q → BOk gs (2 ^ q) (bestS gs q n)
  | 0, h => ⟨h, trivial, fun y hy => by simp [bestS] at hy, Nat.zero_le _, fun h => by cases h⟩
  | n + 1, h => by
    have h1 := lng_ok (gs := gs) (k := n + 1) (q := q) (2 ^ q) 0 (by omega)
    exact tryS_ok (bestS_ok n (by omega)) h (by omega) h1.1 h1.2
/-- The groups with some numbers. -/
abbrev grpsQ (q : Nat) (ns : List Nat) : List (List Int) := ns.map fun x => hold x q
theorem bits_hold {x q : Nat} (hx : x < 2 ^ q) : bitsOf (hold x q) = x := by
  refine Nat.eq_of_testBit_eq fun i => ?_
  rw [Bool.eq_iff_iff, bitsOf_test (fun y hy => by obtain ⟨j, rfl, _⟩ := hold_mem hy; omega)]
  constructor
  · intro h
    obtain ⟨j, hj, _, hb⟩ := hold_mem h
    rw [show i = j by omega]; exact hb
  · intro h
    refine List.mem_map.2 ⟨i, List.mem_filter.2 ⟨List.mem_range.2 ?_, h⟩, rfl⟩
    rcases Nat.lt_or_ge i q with h1 | h1
    · exact h1
    · rw [Nat.testBit_lt_two_pow (Nat.lt_of_lt_of_le hx (Nat.pow_le_pow_right (by decide) h1))] at h; cases h
theorem nums_grps {q : Nat} : ∀ {ns : List Nat}, (∀ y ∈ ns, y < 2 ^ q) → nums (grpsQ q ns) = ns
  | [], _ => rfl
  | x :: r, h => by
    show bitsOf (hold x q) :: nums (grpsQ q r) = _
    rw [bits_hold (h x (List.mem_cons_self ..)), nums_grps (fun y hy => h y (List.mem_cons_of_mem _ hy))]
theorem hold_rises (x : Nat) : ∀ n : Nat, Rises 0 ((n : Int) - 1) (hold x n)
  | 0 => fun i hi => by simp [hold] at hi
  | n + 1 => by
    have ih := hold_rises x n
    rw [hold_next]
    split
    · intro i hi
      have hi : i < (hold x n).length + 1 := by simpa using hi
      have hl : ∀ j, j < (hold x n).length → (hold x n ++ [(n : Int)]).getD j 0 = (hold x n).getD j 0 := fun j hj => by
        rw [List.getD_eq_getElem?_getD, List.getD_eq_getElem?_getD, List.getElem?_append_left hj]
      have hz : (hold x n ++ [(n : Int)]).getD (hold x n).length 0 = n := by
        rw [List.getD_eq_getElem?_getD]; simp
      unfold RiseAt
      by_cases e : i = (hold x n).length
      · rw [e, hz]
        refine ⟨⟨by omega, by omega⟩, fun h0 => ?_⟩
        rw [hl _ (by omega)]
        have h3 := ih ((hold x n).length - 1) (by omega)
        have := h3.1.2
        omega
      · have h3 := ih i (by omega)
        rw [hl i (by omega)]
        refine ⟨⟨h3.1.1, by have := h3.1.2; omega⟩, fun h0 => ?_⟩
        rw [hl _ (by omega)]
        exact h3.2 h0
    · intro i hi
      have h3 := ih i hi
      exact ⟨⟨h3.1.1, by have := h3.1.2; omega⟩, h3.2⟩
end Go.Proofs.Ytmkpfllbmdahkaa.Am
/- Contracts: how many holders a group has, what a chain is worth. Each holds under its own conditions. -/
set_option linter.unusedVariables false
set_option linter.unusedSimpArgs false
set_option maxRecDepth 40000
namespace Go.Proofs.Ytmkpfllbmdahkaa.Am
open Go Go.RowKit Go.Proofs
theorem wrap_u64 (v : Int) : 0 ≤ IntKind.u64.wrap v := Int.emod_nonneg _ (by decide)
section
variable {S : Ids} {H0 : AH}
theorem onesCount64 {x : Nat} (hx : x < 128) : Spec Try.prog S H0 253 [.int .u64 x] (fun v => v = .int .i64 (ones x)) := by
  refine Spec.of1 Try.func253 rfl (by kernel_rfl) rfl (fun H _ => ?_)
  refine KW.ret rfl rfl rfl rfl ?_
  refine congrArg (Value.int .i64) ?_
  revert x
  apply of_decide_eq_true
  kernel_rfl
theorem onesCount {x : Nat} (hx : x < 128) : Spec Try.prog S H0 219 [.int .u64 x] (fun v => v = .int .i64 (ones x)) := by
  refine Spec.of1 Try.func219 rfl (by kernel_rfl) rfl (fun H _ => ?_)
  refine KW.cF rfl rfl (by first | (simp; done) | decide) ?_
  refine KW.callE rfl rfl rfl rfl rfl (onesCount64 hx) (fun _ _ => ?_)
  exact KW.ret rfl rfl rfl rfl (rfl)
theorem size {x : Nat} (hx : x < 128) : Spec Try.prog S H0 163 [.int .u64 x] (fun v => v = .int .i64 (ones x)) := by
  refine Spec.of1 Try.func163 rfl (by kernel_rfl) rfl (fun H _ => ?_)
  refine KW.callE rfl rfl rfl rfl rfl (onesCount hx) (fun _ _ => ?_)
  exact KW.ret rfl rfl rfl rfl (rfl)
theorem number {m : Nat} (hm : m ≤ 7) (h : Int) {k n : Nat} (hk : k < 256) (hn : n ≤ 1000) {gs : List (List Int)} (hsm : Sml gs) (hbe : Below' m gs) {a c} (hs : KI.sl.Sl S H0 (.slice a gs.length c) gs) :
    Spec Try.prog S H0 162 [familyV h (.slice a gs.length c), .int .u64 k, .int .i64 n] (fun v => v = .int .i64 (worth gs k n)) := by
  refine Spec.of1 Try.func162 rfl (by kernel_rfl) rfl (fun H _ => ?_)
  refine KW.callE rfl rfl rfl rfl rfl (opens hm h (q := k) (by omega) hsm hbe hs.up) (fun _ _ => ?_)
  refine KW.cndB rfl rfl (fun k1 => ?_) (fun k1 => ?_)
  · exact KW.ret rfl rfl rfl rfl (by rw [worth, if_pos k1]; exact congrArg (Value.int .i64) (wr (by omega) (by omega)))
  · exact KW.ret rfl rfl rfl rfl (by rw [worth, if_neg (by simpa using k1)]; rfl)
theorem l07Count {x : Nat} (hx : x < 128) : Spec Try.prog S H0 232 [.int .i64 x] (fun v => v = .int .i64 (ones x)) := by
  refine Spec.of1 Try.func232 rfl (by kernel_rfl) rfl (fun H _ => ?_)
  refine KW.lp rfl rfl (fun s : Nat × Nat => [(0, .int .i64 s.1), (3, .int .i64 s.2)]) (fun s => s.1 < 128 ∧ s.2 + ones s.1 = ones x) (fun s => s.1) ((x, 0)) (⟨hx, Nat.zero_add _⟩) ⟨rfl, rfl, trivial⟩ (fun s hi bE n => ?_)
  obtain ⟨b, c⟩ := s
  obtain ⟨h1, h2⟩ := hi
  simp only at h1 h2
  have hc := ones_le x
  refine KW.cnd rfl rfl (fun k1 => ?_) (fun k1 => ?_)
  · have k1 : (b : Int) > 0 := k1
    have h3 := ones_step b h1 (by omega)
    have h4 : b &&& (b - 1) ≤ b - 1 := Nat.and_le_right
    have e1 : IntKind.i64.wrap ((b : Int) - 1) = ((b - 1 : Nat) : Int) := by rw [wr (by omega) (by omega)]; omega
    refine KW.nxt rfl rfl (fun H' g => ⟨(b &&& (b - 1), c + 1), ⟨by simp only; omega, by simp only; omega⟩, by first | omega | (simp only; omega), ⟨by show Value.int .i64 (IntKind.i64.wrap ((BitVec.ofInt IntKind.i64.bits (b : Int) &&& BitVec.ofInt IntKind.i64.bits (IntKind.i64.wrap ((b : Int) - 1))).toNat : Int)) = _; rw [e1, and_i64 (by omega) (by omega)], congrArg (Value.int .i64) (inc64 (by omega)), trivial⟩, g⟩)
  · have k1 : ¬ (b : Int) > 0 := k1
    obtain rfl : b = 0 := by omega
    exact KW.ret rfl rfl rfl rfl (by rw [← h2, ones_zero]; rfl)
theorem l07Worth {q k n : Nat} (hq : q ≤ 7) (hk : k < 2 ^ q) (hn : n ≤ 1000) {gs : List (List Int)} {a c} (ho : Kn.bool.Sl S H0 (.slice a (tabO gs (2 ^ q)).length c) (tabO gs (2 ^ q))) :
    Spec Try.prog S H0 185 [.slice a (tabO gs (2 ^ q)).length c, .int .i64 k, .int .i64 n] (fun v => v = .int .i64 (worth gs k n)) := by
  refine Spec.of1 Try.func185 rfl (by kernel_rfl) rfl (fun H _ => ?_)
  have hp := small_pow (m := q) (by omega)
  have hl := tabO_len gs (2 ^ q)
  refine KW.getB ho.up rfl rfl rfl rfl rfl rfl rfl rfl rfl rfl rfl rfl rfl rfl rfl rfl (by omega) (by rw [hl]; omega) (fun y hy => ?_)
  have hy := tabO_at hk (y := y) (by simpa using hy)
  subst hy
  refine KW.cndB rfl rfl (fun k1 => ?_) (fun k1 => ?_)
  · exact KW.ret rfl rfl rfl rfl (by rw [worth, if_pos k1]; exact congrArg (Value.int .i64) (wr (by omega) (by omega)))
  · exact KW.ret rfl rfl rfl rfl (by rw [worth, if_neg (by simpa using k1)]; rfl)
end
end Go.Proofs.Ytmkpfllbmdahkaa.Am
/- A variable of one's own becomes frozen; rows that are made in place join a list of rows. For every program. No condition beyond each theorem's own. -/
set_option linter.unusedSimpArgs false
set_option linter.unusedVariables false
namespace Go.Proofs.Ytmkpfllbmdahkaa.Am
open Go Go.RowKit
/-- The variable j and those behind it are given up; what stands in j is frozen. -/
theorem KW.freeze {P : Program} {S : Ids} {H0 : AH} {Q : PostC} {k : List It} {e : Env} {T : List Var} {n : Nat} (j : Nat) {o : Nat} {b : Blk} (hj : T[j]? = some (o, b))
    (hk : ∀ (A' : AH) (S' : Ids), A'.n = n → (∀ id, S' id ↔ S id ∨ id = o) → Stp S H0 S' A' → A'.m o = some b → o < n → ¬ S o → (∀ id, S id → id < n) → KW P S' A' Q n (T.take j) k e) : KW P S H0 Q n T k e := fun H g => by
  have hv := g.vars j _ hj
  have get : ∀ {i : Nat} {u : Var}, (T.take j)[i]? = some u → i < j ∧ T[i]? = some u := fun {i u} hi => by
    rw [List.getElem?_take] at hi
    split at hi
    · exact ⟨by assumption, hi⟩
    · cases hi
  refine hk H (fun id => S id ∨ id = o) g.n_ (fun id => Iff.rfl) ⟨fun id hid => ⟨.inl hid, (g.froz id hid).2⟩⟩ hv.1 hv.2.1 hv.2.2 (fun id hid => (g.froz id hid).1) H ?_
  refine ⟨g.n_, g.fin, fun id hid => ⟨?_, rfl⟩, fun i u hi => ?_, fun i1 i2 u w h1 h2 he => g.dist i1 i2 u w (get h1).2 (get h2).2 he⟩
  · rcases hid with hid | rfl
    · exact (g.froz id hid).1
    · exact hv.2.1
  · obtain ⟨h1, h2⟩ := get hi
    have h3 := g.vars i u h2
    refine ⟨h3.1, h3.2.1, fun h => ?_⟩
    rcases h with h | h
    · exact h3.2.2 h
    · have := g.dist i j u _ h2 hj h; omega
theorem RwI.nextX {α : Type} {f : α → List Int} {xs : List α} {H HB HC : AH} {SB SC X : Ids} {s : RwS} {o' : Nat} {y : α} {v : Value} (h : RwI f xs H SB HB s) (t : St s.S s.A SC HC) (hX : ∀ id, X id → SC id ∧ H.n ≤ id ∧ ¬ s.S id) (hy : xs[s.i]? = some y) (hc : KI.Ml X HC v (f y)) : RwI f xs H SB HB ⟨s.i + 1, SC, HC, fun id => s.V id ∨ X id, s.cs ++ [v], o'⟩ := by
  obtain ⟨hil, rfl⟩ := List.getElem?_eq_some_iff.1 hy
  haveI o1 : On s.S s.A SC HC := ⟨t⟩
  refine ⟨by simp only; omega, h.old.trans t, ?_, fun id hid => hid.elim (h.v id) (fun p => (hX id p).2.1)⟩
  simp only
  rw [List.take_succ_eq_append_getElem hil, List.map_append]
  exact (h.b.up (S' := SC) (A' := HC)).snoc (ml1' hc) (fun id hid => (hX id hid).1) (fun id p q => (hX id q).2.2 (h.b.sub id p))
/-- A row that has been frozen. -/
theorem row_ml {A : AH} {o : Nat} {ty : TypeId} {xs : List Int} (h : A.m o = some ⟨ty, true, xs.map (Value.int .i64)⟩) : KI.Ml (fun id => id = o) A (.slice (some ⟨o, 0, some 1⟩) xs.length xs.length) xs := int_ml rfl h rfl rfl (Nat.le_refl _)
end Go.Proofs.Ytmkpfllbmdahkaa.Am
/- Contracts: the longest chain behind a set. Each holds under its own conditions. -/
set_option linter.unusedVariables false
set_option linter.unusedSimpArgs false
set_option maxRecDepth 20000
namespace Go.Proofs.Ytmkpfllbmdahkaa.Am
open Go Go.RowKit Go.Proofs
/-- The cells of a frozen list of rows. -/
theorem sl_rows {S : Ids} {H0 : AH} {a : Option Addr} {c : Nat} {xs : List (List Int)} (h : KI.sl.Sl S H0 (.slice a xs.length c) xs) : ∃ ys : List Value, ys.length = xs.length ∧ (∀ v ∈ ys, v.oneCell' = true) ∧ (∀ (i : Nat) x, xs[i]? = some x → ∃ v, ys[i]? = some v ∧ KI.Sl S H0 v x) ∧ ∀ {T : List Var} {n : Nat} {H : AH}, Good S H0 T n H → acells H (.slice a xs.length c) 1 = some (xs.length, ys) := by
  rcases h with ⟨rfl, _⟩ | ⟨id, k, c1, b, h1, h2, h3, h4, h5, h6⟩
  · exact ⟨[], rfl, fun v hv => by simp at hv, fun i x h => by simp at h, fun _ => by simp [acells]⟩
  · cases xs with
    | nil => exact ⟨[], rfl, fun v hv => by simp at hv, fun i x h => by simp at h, fun _ => by simp [acells]⟩
    | cons y xs =>
      cases h1
      have h5 : k + (xs.length + 1) * 1 ≤ b.cells.length := h5
      have hlen : ((b.cells.drop k).take (xs.length + 1)).length = xs.length + 1 := by simp; omega
      have hat : ∀ (i : Nat) x, (y :: xs)[i]? = some x → ∃ v, ((b.cells.drop k).take (xs.length + 1))[i]? = some v ∧ KI.Sl S H0 v x := fun i x hx => by
        have hi := (List.getElem?_eq_some_iff.1 hx).1
        simp only [List.length_cons] at hi
        obtain ⟨v, hv⟩ : ∃ v, b.cells[k + i * 1]? = some v := ⟨b.cells[k + i * 1]'(by omega), List.getElem?_eq_getElem (by omega)⟩
        obtain ⟨w, hw, h7⟩ := h6 i x hx
        have e : (b.cells.drop (k + i * 1)).take 1 = [v] := by rw [List.take_one, List.head?_drop, hv]; rfl
        have hw : (b.cells.drop (k + i * 1)).take 1 = [w] := hw
        rw [e] at hw
        cases hw
        exact ⟨v, by rw [List.getElem?_take, if_pos (by omega), List.getElem?_drop]; simpa using hv, h7⟩
      refine ⟨_, hlen, fun v hv => ?_, hat, fun {T n H} g => ?_⟩
      · obtain ⟨i, hi, rfl⟩ := List.getElem_of_mem hv
        rw [hlen] at hi
        obtain ⟨w, hw, hs⟩ := hat i ((y :: xs)[i]'(by simpa using hi)) (List.getElem?_eq_getElem _)
        rw [List.getElem?_eq_getElem (by rw [hlen]; exact hi)] at hw
        cases hw
        rcases hs with ⟨_, _, _, e, _⟩ | ⟨_, _, _, _, e, _⟩ <;> rw [e] <;> rfl
      · have hb : H.m id = some b := ((g.froz id h3).2).trans h4
        show acells H (.slice (some ⟨id, k, some 1⟩) (xs.length + 1) c) 1 = _
        simp only [acells, if_true, hb]
        rw [if_pos (by omega), Nat.mul_one]
        rfl
/-- A frozen block of rows. -/
theorem rows_sl {X : Ids} {A : AH} {o : Nat} {ty : TypeId} {rw : Bool} {zs : List Value} {xs : List (List Int)} (hX : X o) (hm : A.m o = some ⟨ty, rw, zs⟩) (hl : zs.length = xs.length) (h : ∀ (i : Nat) x, xs[i]? = some x → ∃ v, zs[i]? = some v ∧ KI.Sl X A v x) : KI.sl.Sl X A (.slice (some ⟨o, 0, some 1⟩) xs.length xs.length) xs := by
  refine .inr ⟨o, 0, _, _, rfl, Nat.le_refl _, hX, hm, by show 0 + xs.length * 1 ≤ zs.length; omega, fun i x hx => ?_⟩
  obtain ⟨v, hv, hs⟩ := h i x hx
  refine ⟨v, ?_, hs⟩
  show (zs.drop (0 + i * 1)).take 1 = [v]
  rw [List.take_one, List.head?_drop, show 0 + i * 1 = i by omega, hv]
  rfl
theorem Kn.Sl.stX {α : Type} {d : Kn α} {S S' : Ids} {H H' : AH} {s : Value} {xs : List α} (h : d.Sl S H s xs) (t : ∀ id, S id → S' id ∧ H'.m id = H.m id) : d.Sl S' H' s xs := (h.same fun id hid => (t id hid).2).more fun id hid => (t id hid).1
/-- A list of groups that has been made, to be read. -/
def MkSl (xs : List (List Int)) (n : Nat) (v : Value) (H1 : AH) : Prop := ∃ a c, v = .slice a xs.length c ∧ KI.sl.Sl (New n H1.n) H1 (.slice a xs.length c) xs
structure LgS where
  j : Nat
  S : Ids
  A : AH
  a : Option Addr
  c : Nat
structure LgI (xs : List (List Int)) (N : Nat) (H : AH) (s : LgS) : Prop where
  le : s.j ≤ N
  old : St (Low H.n) H s.S s.A
  sl : KI.sl.Sl (fun id => s.S id ∧ H.n ≤ id) s.A (.slice s.a xs.length s.c) xs
theorem longest {q : Nat} (hq : q ≤ 5) {k : Nat} (hk : k < 2 ^ q) {gs : List (List Int)} (hsm : Sml gs) (hbe : Below' q gs) {a c} : ∀ (f b : Nat) (S : Ids) (H0 : AH), KI.sl.Sl S H0 (.slice a gs.length c) gs → 2 ^ q - b ≤ f → b < 2 ^ q →
    SpecM Try.prog S H0 161 [familyV q (.slice a gs.length c), .int .u64 k, .int .u64 b] (MkSl (grpsQ q (lng gs k q f b)))
  | 0, b, S, H0, _, hf, hb => by omega
  | f + 1, b, S, H0, hs, hf, hb => by
    refine SpecM.of1 Try.func161 rfl (by kernel_rfl) rfl (fun H _ => ?_)
    have hp := small_pow (m := q) (by omega)
    refine KW.lit rfl rfl rfl rfl rfl rfl rfl rfl rfl rfl [] rfl rfl (fun v hv => by simp at hv) rfl ?_
    refine KW.freeze 1 rfl (fun A0 S0 hn0 hS0 st0 hm0 ho0 hnS0 hlow0 => ?_)
    refine KW.lpM rfl rfl (fun s : LgS => [(1, .int .u64 k), (2, .int .u64 b), (3, .pointer (some ⟨H.n, 0, some 0⟩)), (7, .slice s.a (grpsQ q (lngL gs k b (lng gs k q f) s.j)).length s.c), (8, .int .u64 (b + 1 + s.j : Nat))]) (fun s => s.S) (fun s => s.A) (fun s => [(H.n, ⟨93, true, [.int .i64 q, .slice a gs.length c]⟩)]) (fun s => LgI (grpsQ q (lngL gs k b (lng gs k q f) s.j)) (2 ^ q - 1 - b) H s) (fun s => 2 ^ q - 1 - b - s.j) (⟨0, S0, A0, some ⟨H.n + 1, 0, some 1⟩, 0⟩) (⟨Nat.zero_le _, st0.st, .inl ⟨rfl, _, _, rfl, fun h => by cases h⟩⟩) ⟨rfl, rfl, rfl, rfl, congrArg (Value.int .u64) (incu64 (by omega)), trivial⟩ rfl rfl rfl (fun s hi bE n => ?_)
    obtain ⟨j, S1, A1, a1, c1⟩ := s
    obtain ⟨h1, h2, h3⟩ := hi
    simp only at h1 h2 h3
    haveI : Stp (Low H.n) H S1 A1 := ⟨h2⟩
    have ok1 := lngL_ok (gs := gs) (k := k) (b := b) (N := 2 ^ q) (r := lng gs k q f) (fun x _ hx => lng_ok f x hx) j (by omega)
    have l1 := ok1.1.len ok1.2 hb
    refine KW.callE rfl rfl rfl rfl rfl (everybody (m := q) (by omega)) (fun _ _ => ?_)
    refine KW.cnd rfl rfl (fun k1 => ?_) (fun k1 => ?_)
    · have k1 : ((b + 1 + j : Nat) : Int) ≤ ((2 ^ q - 1 : Nat) : Int) := k1
      have hx : b + 1 + j < 2 ^ q := by omega
      have skip : ¬ Lk gs k b (b + 1 + j) → KI.sl.Sl (fun id => S1 id ∧ H.n ≤ id) A1 (.slice a1 (grpsQ q (lngL gs k b (lng gs k q f) (j + 1))).length c1) (grpsQ q (lngL gs k b (lng gs k q f) (j + 1))) ∧ lngL gs k b (lng gs k q f) (j + 1) = lngL gs k b (lng gs k q f) j := fun hx => by
        rw [lngL_skip hx]; exact ⟨h3, rfl⟩
      refine KW.callE rfl rfl rfl rfl rfl (chained (m := q) (by omega) q (k := k) (b := b) (x := b + 1 + j) (by omega) (by omega) (by omega) hsm hbe hs.up) (fun _ _ => ?_)
      by_cases hch : Chd gs k b (b + 1 + j)
      · rw [tv_true hch]
        refine KW.cF rfl rfl (by first | (simp; done) | decide) ?_
        refine KW.call rfl rfl rfl rfl rfl (least (m := q) (by omega) q (k := k) (b := b) (x := b + 1 + j) (by omega) (by omega) (by omega) hsm hbe hs.up) (fun v n3 _ hv => ?_)
        obtain ⟨w, ok, rfl, hlw⟩ := hv
        cases ok with
        | false =>
          have nl : ¬ Lk gs k b (b + 1 + j) := fun hc => by
            obtain ⟨_, w', hw'⟩ := hc
            have := (hlw.one hw').2
            cases this
          refine KW.cT rfl rfl (by first | (simp; done) | decide) ?_
          refine KW.nxt rfl rfl (fun H' g => ⟨⟨j + 1, S1, A1, a1, c1⟩, ⟨by simp only; omega, h2, (skip nl).1⟩, by first | omega | (simp only; omega), ⟨rfl, rfl, rfl, congrArg (fun z => Value.slice a1 (grpsQ q z).length c1) (skip nl).2.symm, congrArg (Value.int .u64) (incu64 (by omega)), trivial⟩, g⟩)
        | true =>
          have hlk : Lk gs k b (b + 1 + j) := ⟨hch, w, hlw⟩
          have okr := lng_ok (gs := gs) (k := k) (q := q) f (b + 1 + j) hx
          have lr := okr.1.len okr.2 hx
          refine KW.fact (fun _ g => g.nle (H1 := H)) (fun hnle => ?_)
          refine KW.ids (fun hlow hvar => ?_)
          refine KW.cF rfl rfl (by first | (simp; done) | decide) ?_
          refine KW.callN1 rfl rfl rfl rfl rfl (longest hq hk hsm hbe f (b + 1 + j) S1 A1 hs.up (by omega) hx) (fun v HC SC mC _ _ hv => ?_)
          obtain ⟨a5, c5, rfl, hC⟩ := hv
          have gl1 : (grpsQ q (lngL gs k b (lng gs k q f) j)).length = (lngL gs k b (lng gs k q f) j).length := List.length_map ..
          have gl2 : (grpsQ q (lng gs k q f (b + 1 + j))).length = (lng gs k q f (b + 1 + j)).length := List.length_map ..
          have wl : IntKind.i64.wrap (((grpsQ q (lng gs k q f (b + 1 + j))).length : Int) + 1) = (((grpsQ q (lng gs k q f (b + 1 + j))).length + 1 : Nat) : Int) := inc64 (by omega)
          refine KW.cnd rfl rfl (fun k2 => ?_) (fun k2 => ?_)
          · have k2 : IntKind.i64.wrap (((grpsQ q (lng gs k q f (b + 1 + j))).length : Int) + 1) > ((grpsQ q (lngL gs k b (lng gs k q f) j)).length : Int) := k2
            have lt : (lngL gs k b (lng gs k q f) j).length < (lng gs k q f (b + 1 + j)).length + 1 := by rw [wl] at k2; omega
            have eL : lngL gs k b (lng gs k q f) (j + 1) = (b + 1 + j) :: lng gs k q f (b + 1 + j) := if_pos ⟨tv_true hlk, lt⟩
            have gl3 : (grpsQ q (lngL gs k b (lng gs k q f) (j + 1))).length = (lng gs k q f (b + 1 + j)).length + 1 := by rw [eL]; simp
            refine KW.callN1 rfl rfl rfl rfl rfl (group (x := b + 1 + j) (by omega)) (fun v HG SG mG _ _ hv => ?_)
            obtain ⟨a6, c6, rfl, hG⟩ := hv
            rw [holdUp hx (show q ≤ 7 by omega)] at hG ⊢
            refine KW.lit rfl rfl rfl rfl rfl rfl rfl rfl rfl rfl [.slice a6 (hold (b + 1 + j) q).length c6] rfl rfl (fun v hv => by simp at hv; subst hv; rfl) rfl ?_
            have tC : On (New n3 HC.n) HC SG HG := inferInstance
            have tG : On (New HC.n HG.n) HG SG HG := inferInstance
            haveI : On (fun id => SG id ∧ H.n ≤ id) HG SG HG := ⟨fun id h => ⟨h.1, rfl⟩⟩
            have hC2 : KI.sl.Sl (fun id => SG id ∧ H.n ≤ id) HG (.slice a5 (grpsQ q (lng gs k q f (b + 1 + j))).length c5) (grpsQ q (lng gs k q f (b + 1 + j))) := hC.stX (fun id hid => ⟨⟨(tC.st id hid).1, Nat.le_trans hnle hid.1⟩, (tC.st id hid).2⟩)
            have hG2 : KI.Sl (fun id => SG id ∧ H.n ≤ id) HG (.slice a6 (hold (b + 1 + j) q).length c6) (hold (b + 1 + j) q) := (hG.sl).stX (fun id hid => ⟨⟨(tG.st id hid).1, by have := hid.1; omega⟩, (tG.st id hid).2⟩)
            obtain ⟨ys, y1, y2, y3, y4⟩ := sl_rows hC2
            refine KW.appV 1 rfl rfl rfl rfl rfl rfl rfl rfl rfl rfl (fun H1 g => y4 (g.back (S0 := fun id => SG id ∧ H.n ≤ id) (H0 := HG))) y1 rfl y2 (by show (1 + _) * 24 ≤ _; omega) (by show 1 + _ ≤ _; omega) (show 1 + _ = (grpsQ q (lngL gs k b (lng gs k q f) (j + 1))).length by omega) (fun o9 n9 m9 => ?_)
            refine KW.freeze 1 rfl (fun A9 S9 hn9 hS9 st9 hm9 ho9 hnS9 hlow9 => ?_)
            have tA : On (Low H.n) H SG HG := inferInstance
            have hoH : H.n ≤ o9 := by
              rcases Nat.lt_or_ge o9 H.n with h | h
              · exact absurd (tA.st o9 h).1 hnS9
              · exact h
            have up9 : ∀ id, (SG id ∧ H.n ≤ id) → (S9 id ∧ H.n ≤ id) ∧ A9.m id = HG.m id := fun id hid => ⟨⟨(st9.st id hid.1).1, hid.2⟩, (st9.st id hid.1).2⟩
            have fin := rows_sl (X := fun id => S9 id ∧ H.n ≤ id) (xs := grpsQ q (lngL gs k b (lng gs k q f) (j + 1))) ⟨(hS9 o9).2 (.inr rfl), hoH⟩ hm9 (by rw [gl3]; simp [y1]) (fun i x hx => by
              rw [eL] at hx
              cases i with
              | zero =>
                simp at hx
                subst hx
                exact ⟨_, rfl, hG2.stX up9⟩
              | succ i =>
                obtain ⟨v, hv, hsv⟩ := y3 i x (by simpa using hx)
                exact ⟨v, by simpa using hv, hsv.stX up9⟩)
            refine KW.nxt rfl rfl (fun H' g => ⟨⟨j + 1, S9, A9, some ⟨o9, 0, some 1⟩, _⟩, ⟨by simp only; omega, (inferInstance : On (Low H.n) H S9 A9).st, fin⟩, by first | omega | (simp only; omega), ⟨rfl, rfl, rfl, rfl, congrArg (Value.int .u64) (incu64 (by omega)), trivial⟩, g⟩)
          · have k2 : ¬ IntKind.i64.wrap (((grpsQ q (lng gs k q f (b + 1 + j))).length : Int) + 1) > ((grpsQ q (lngL gs k b (lng gs k q f) j)).length : Int) := k2
            have lt : ¬ (lngL gs k b (lng gs k q f) j).length < (lng gs k q f (b + 1 + j)).length + 1 := by rw [wl] at k2; omega
            have eL : lngL gs k b (lng gs k q f) (j + 1) = lngL gs k b (lng gs k q f) j := if_neg (fun hc => lt hc.2)
            have t1 : Stp S1 A1 SC HC := inferInstance
            refine KW.nxt rfl rfl (fun H' g => ⟨⟨j + 1, SC, HC, a1, c1⟩, ⟨by simp only; omega, h2.trans t1.st, by simp only [eL]; exact h3.stX (fun id hid => ⟨⟨(t1.st id hid.1).1, hid.2⟩, (t1.st id hid.1).2⟩)⟩, by first | omega | (simp only; omega), ⟨rfl, rfl, rfl, congrArg (fun z => Value.slice a1 (grpsQ q z).length c1) eL.symm, congrArg (Value.int .u64) (incu64 (by omega)), trivial⟩, g⟩)
      · have nl : ¬ Lk gs k b (b + 1 + j) := fun hc => hch hc.1
        rw [tv_false hch]
        refine KW.cT rfl rfl (by first | (simp; done) | decide) ?_
        refine KW.nxt rfl rfl (fun H' g => ⟨⟨j + 1, S1, A1, a1, c1⟩, ⟨by simp only; omega, h2, (skip nl).1⟩, by first | omega | (simp only; omega), ⟨rfl, rfl, rfl, congrArg (fun z => Value.slice a1 (grpsQ q z).length c1) (skip nl).2.symm, congrArg (Value.int .u64) (incu64 (by omega)), trivial⟩, g⟩)
    · have k1 : ¬ ((b + 1 + j : Nat) : Int) ≤ ((2 ^ q - 1 : Nat) : Int) := k1
      have hj : j = 2 ^ q - 1 - b := by omega
      refine KW.retM1 rfl rfl rfl rfl (fun H1 g => ?_)
      subst hj
      exact ⟨_, _, rfl, h3.stX (fun id hid => ⟨⟨hid.2, by have := (g.froz id hid.1).1; have := g.n_; omega⟩, (g.froz id hid.1).2⟩)⟩
end Go.Proofs.Ytmkpfllbmdahkaa.Am
/- Contracts: the best sequence of the program. Each holds under its own conditions. -/
set_option linter.unusedVariables false
set_option linter.unusedSimpArgs false
set_option maxRecDepth 20000
set_option maxHeartbeats 1000000
namespace Go.Proofs.Ytmkpfllbmdahkaa.Am
open Go Go.RowKit Go.Proofs
noncomputable def seqB (gs : List (List Int)) (q : Nat) (s : Bst) : T_Sequence := (hold s.k q, grpsQ q s.ch, withs gs s.k s.ch s.ch.length)
noncomputable def bestQ (y : T_Family) : Bst := bestS y.2 y.1.toNat (2 ^ y.1.toNat - 1)
noncomputable def r0_BestSequence (y : T_Family) : T_Sequence := if codeF y.1 y.2 = 0 then seqB y.2 y.1.toNat (bestQ y) else ([], [], [])
noncomputable def r1_BestSequence (y : T_Family) : Int := if codeF y.1 y.2 = 0 then (bestQ y).w else 0
noncomputable def r2_BestSequence (y : T_Family) : Int := codeF y.1 y.2
def MkQ3 (r : T_Sequence) (w code : Int) (n : Nat) (v : Value) (H1 : AH) : Prop := ∃ cs : List Value, v = .tuple #[.agg cs.toArray, .int .i64 w, .int .i64 code] ∧ M_Sequence.R (New n H1.n) H1 r cs
theorem mul_le {a b c d : Nat} (h1 : a ≤ c) (h2 : b ≤ d) : a * b ≤ c * d := Nat.mul_le_mul h1 h2
theorem wmul {a b : Nat} (ha : a ≤ 1000) (hb : b ≤ 1000) : IntKind.i64.wrap ((a : Int) * b) = ((a * b : Nat) : Int) := by
  have := mul_le ha hb
  rw [wr (by rw [← Int.natCast_mul]; omega) (by rw [← Int.natCast_mul]; omega), Int.natCast_mul]
theorem key0 {w o : Nat} (hw : w ≤ 1000) (ho : 0 < o) (ho' : o ≤ 1000) : IntKind.i64.wrap ((w : Int) * 1) > IntKind.i64.wrap (-1 * (o : Int)) := by
  rw [wr (by omega) (by omega), wr (by omega) (by omega)]; omega
theorem key1 {a b c d : Nat} (ha : a ≤ 1000) (hb : b ≤ 1000) (hc : c ≤ 1000) (hd : d ≤ 1000) : IntKind.i64.wrap ((a : Int) * b) > IntKind.i64.wrap ((c : Int) * d) ↔ ¬ a * b ≤ c * d := by
  rw [wmul ha hb, wmul hc hd]; omega
/-- What stands in the variables when j sets have been taken as known. -/
structure BqS where
  j : Nat
  S : Ids
  A : AH
  a1 : Option Addr
  n1 : Nat
  c1 : Nat
  a2 : Option Addr
  n2 : Nat
  c2 : Nat
  a3 : Option Addr
  n3 : Nat
  c3 : Nat
  most : Int
  size : Int
structure BqI (gs : List (List Int)) (q : Nat) (H : AH) (s : BqS) : Prop where
  le : s.j < 2 ^ q
  old : St (Low H.n) H s.S s.A
  form : (s.j = 0 ∧ s.most = -1 ∧ s.size = 1) ∨ (0 < s.j ∧ s.most = (bestS gs q s.j).w ∧ s.size = ones (bestS gs q s.j).k ∧ M_Sequence.R (fun id => s.S id ∧ H.n ≤ id) s.A (seqB gs q (bestS gs q s.j)) [.slice s.a1 s.n1 s.c1, .slice s.a2 s.n2 s.c2, .slice s.a3 s.n3 s.c3])
theorem bestS_f {gs : List (List Int)} {q j : Nat} (h : 0 < j) : (bestS gs q j).f = true := by
  cases j with
  | zero => omega
  | succ j => exact tryS_f
theorem seq_stX {S S' : Ids} {H H' : AH} {x : T_Sequence} {cs : List Value} (h : M_Sequence.R S H x cs) (t : ∀ id, S id → S' id ∧ H'.m id = H.m id) : M_Sequence.R S' H' x cs := (M_Sequence).more (fun id hid => (t id hid).1) ((M_Sequence).same (fun id hid => (t id hid).2) h)
/-- The groups of a chain, as SequenceFor takes them. -/
theorem sf_grps {m : Int} {q : Nat} (hq : m = q) {gs : List (List Int)} (hc : codeF m gs = 0) {k : Nat} (hk : k < 2 ^ q) {ch : List Nat} (h1 : Chn gs k 0 ch) (h2 : ∀ y ∈ ch, y < 2 ^ q) : r1_SequenceFor (m, gs) (hold k q) (grpsQ q ch) = 0 ∧ r0_SequenceFor (m, gs) (hold k q) (grpsQ q ch) = (hold k q, grpsQ q ch, withs gs k ch ch.length) := by
  have e1 : bitsOf (hold k q) = k := bits_hold hk
  have e2 : nums (grpsQ q ch) = ch := nums_grps h2
  have el : (grpsQ q ch).length = ch.length := List.length_map ..
  have h := sf_ok (y := (m, gs)) (known := hold k q) (chain := grpsQ q ch) hc ⟨by subst hq; exact hold_rises k q, fun g hg => by obtain ⟨x, _, rfl⟩ := List.mem_map.1 hg; subst hq; exact hold_rises x q⟩ (fun i hi => by rw [e1, e2]; exact chn_ok.1 h1 i (by rw [← el]; exact hi))
  simp only [e1, e2, el] at h
  exact h
theorem sml_short : ∀ {xs : List (List Int)}, (∀ g ∈ xs, g.length ≤ 7) → sum (lens xs) ≤ 7 * xs.length
  | [], _ => Nat.le_refl _
  | x :: xs, h => by
    have h1 := sml_short (fun g hg => h g (List.mem_cons_of_mem _ hg))
    have h2 := h x (List.mem_cons_self ..)
    simp only [lens, List.map_cons, sum, List.length_cons] at h1 ⊢
    omega
theorem grps_sml {q : Nat} {ch : List Nat} (h : ch.length ≤ 256) (hq : q ≤ 7) : B_Int64SS (grpsQ q ch) := by
  have el : (grpsQ q ch).length = ch.length := List.length_map ..
  have h1 := sml_short (xs := grpsQ q ch) (fun g hg => by obtain ⟨x, _, rfl⟩ := List.mem_map.1 hg; exact Nat.le_trans (hold_len x q) hq)
  exact ⟨by omega, by omega⟩
section
variable {S : Ids} {H0 : AH}
theorem impl_BestSequence {y : T_Family} {ds : List Value} (hF : B_Family y) (h : K_Family.R S H0 y ds) :
    SpecM Try.prog S H0 69 [.agg ds.toArray] (MkQ3 (r0_BestSequence y) (r1_BestSequence y) (r2_BestSequence y)) := by
  obtain ⟨a3, c3, rfl, h1⟩ := split_Family h
  have s1 := sl1 h1
  obtain ⟨m, gs⟩ := y
  simp only at s1 ⊢
  have hsm : Sml gs := hF.2
  refine SpecM.of1 Try.func69 rfl (by kernel_rfl) rfl (fun H _ => ?_)
  refine KW.callE rfl rfl rfl rfl rfl (rankedCode m hsm s1.up) (fun n9 m9 => ?_)
  by_cases hc : codeF m gs = 0
  · have hf := codeF_ok hc
    have hm1 := hf.h1
    have hm7 := hf.h2
    obtain ⟨q, hq⟩ : ∃ q : Nat, m = q := ⟨m.toNat, by omega⟩
    have hb : Below' q gs := by have := hf.below; rw [hq] at this; simpa using this
    have h5 : ¬ m > 5 := fun hx => by unfold codeF at hc; rw [if_pos (tv_true hf), if_pos hx] at hc; cases hc
    have hp : 2 ^ q ≤ 32 := by
      have := Nat.pow_le_pow_right (n := 2) (by decide) (show q ≤ 5 by omega)
      simpa using this
    have hq0 : 2 ≤ 2 ^ q := by
      have := Nat.pow_le_pow_right (n := 2) (by decide) (show 1 ≤ q by omega)
      simpa using this
    subst hq
    have hqq : ((q : Int), gs).1.toNat = q := by simp
    have e0 : r0_BestSequence ((q : Int), gs) = seqB gs q (bestS gs q (2 ^ q - 1)) := by unfold r0_BestSequence bestQ; rw [if_pos hc, hqq]
    have e1 : r1_BestSequence ((q : Int), gs) = (bestS gs q (2 ^ q - 1)).w := by unfold r1_BestSequence bestQ; rw [if_pos hc, hqq]
    have e2 : r2_BestSequence ((q : Int), gs) = 0 := hc
    rw [e0, e1, e2, hc]
    refine KW.cF rfl rfl (by first | (simp; done) | decide) ?_
    refine KW.build rfl rfl rfl rfl rfl (built_Seq0) ?_
    refine KW.lpM rfl rfl (fun s : BqS => [(1, .pointer (some ⟨H.n, 0, some 0⟩)), (2, .pointer (some ⟨H.n + 1, 0, some 1⟩)), (6, .pointer (some ⟨n9, 0, some 2⟩)), (7, .int .i64 s.most), (8, .int .i64 s.size), (9, .int .u64 (s.j + 1 : Nat))]) (fun s => s.S) (fun s => s.A) (fun s => [(H.n, ⟨93, true, [.int .i64 q, .slice a3 gs.length c3]⟩), (H.n + 1, ⟨90, true, [.slice none 0 0, .slice none 0 0, .slice none 0 0]⟩), (n9, ⟨90, true, [.slice s.a1 s.n1 s.c1, .slice s.a2 s.n2 s.c2, .slice s.a3 s.n3 s.c3]⟩)]) (fun s => BqI gs q H s) (fun s => 2 ^ q - s.j) (⟨0, Low H.n, H, none, 0, 0, none, 0, 0, none, 0, 0, -1, 1⟩) (⟨by simp only; omega, fun id hid => ⟨hid, rfl⟩, .inl ⟨rfl, rfl, rfl⟩⟩) ⟨rfl, rfl, rfl, rfl, rfl, rfl, trivial⟩ rfl rfl rfl (fun s hi bE n => ?_)
    obtain ⟨j, S1, A1, a1, n1, c1, a2, n2, c2, a4, n4, c4, most, sz⟩ := s
    obtain ⟨g1, g2, g3⟩ := hi
    simp only at g1 g2 g3
    haveI : Stp (Low H.n) H S1 A1 := ⟨g2⟩
    have okb := bestS_ok (gs := gs) (q := q) j g1
    refine KW.callE rfl rfl rfl rfl rfl (everybody (m := q) (by omega)) (fun _ _ => ?_)
    refine KW.cnd rfl rfl (fun k1 => ?_) (fun k1 => ?_)
    · have k1 : ((j + 1 : Nat) : Int) ≤ ((2 ^ q - 1 : Nat) : Int) := k1
      have hx : j + 1 < 2 ^ q := by omega
      have okr := lng_ok (gs := gs) (k := j + 1) (q := q) (2 ^ q) 0 (by omega)
      have lr := okr.1.len okr.2 (by omega)
      refine KW.callN1 rfl rfl rfl rfl rfl (longest (k := j + 1) (by omega) hx hsm hb (2 ^ q) 0 S1 A1 s1.up (by omega) (by omega)) (fun v HC SC mC _ _ hv => ?_)
      obtain ⟨a5, c5, rfl, hC⟩ := hv
      have gl : (grpsQ q (lng gs (j + 1) q (2 ^ q) 0)).length = (lng gs (j + 1) q (2 ^ q) 0).length := List.length_map ..
      refine KW.callE rfl rfl rfl rfl rfl (number (m := q) (by omega) q (k := j + 1) (n := (grpsQ q (lng gs (j + 1) q (2 ^ q) 0)).length) (by omega) (by omega) hsm hb s1.up) (fun _ _ => ?_)
      refine KW.callE rfl rfl rfl rfl rfl (size (x := j + 1) (by omega)) (fun _ _ => ?_)
      have wk : worth gs (j + 1) (grpsQ q (lng gs (j + 1) q (2 ^ q) 0)).length ≤ 1000 := by unfold worth; split <;> omega
      have o1 := ones_pos (j + 1) (by omega) (by omega)
      have o2 := ones_le (j + 1)
      have key : IntKind.i64.wrap ((worth gs (j + 1) (grpsQ q (lng gs (j + 1) q (2 ^ q) 0)).length : Int) * sz) > IntKind.i64.wrap (most * (ones (j + 1) : Int)) ↔ ¬ ((bestS gs q j).f = true ∧ worth gs (j + 1) (lng gs (j + 1) q (2 ^ q) 0).length * ones (bestS gs q j).k ≤ (bestS gs q j).w * ones (j + 1)) := by
        rcases g3 with ⟨rfl, rfl, rfl⟩ | ⟨h0, rfl, rfl, hM⟩
        · exact ⟨fun _ hx => (by cases hx.1), fun _ => key0 wk o1 (by omega)⟩
        · have := okb.w
          have := ones_le (bestS gs q j).k
          rw [key1 wk (by omega) (by omega) (by omega), bestS_f h0, gl]
          simp
      refine KW.cnd rfl rfl (fun k2 => ?_) (fun k2 => ?_)
      · have k2 := key.1 k2
        have eN : bestS gs q (j + 1) = ⟨j + 1, lng gs (j + 1) q (2 ^ q) 0, worth gs (j + 1) (lng gs (j + 1) q (2 ^ q) 0).length, true⟩ := if_neg k2
        refine KW.callN1 rfl rfl rfl rfl rfl (group (x := j + 1) (by omega)) (fun v HG SG mG _ _ hv => ?_)
        obtain ⟨a6, c6, rfl, hG⟩ := hv
        rw [holdUp hx (show q ≤ 7 by omega)] at hG ⊢
        obtain ⟨f1, f0⟩ := sf_grps rfl hc hx okr.1 okr.2
        refine KW.fact (fun _ g => g.nle (H1 := H)) (fun hnle => ?_)
        refine KW.callN1 rfl rfl rfl rfl rfl (impl_SequenceFor (y := ((q : Int), gs)) (known := hold (j + 1) q) (chain := grpsQ q (lng gs (j + 1) q (2 ^ q) 0)) hF (Nat.le_trans (hold_len _ _) (by omega)) (grps_sml (by omega) (by omega)) (On.R h) (sl1' hG.ups) (sl1' hC.up)) (fun v HQ SQ mQ _ _ hv => ?_)
        obtain ⟨cs, rfl, hQ⟩ := hv
        rw [f0] at hQ
        obtain ⟨b1, d1, b2, d2, b3, d3, rfl⟩ := formM_Sequence hQ
        have tQ : On (New HG.n HQ.n) HQ SQ HQ := inferInstance
        refine KW.callE rfl rfl rfl rfl rfl (size (x := j + 1) (by omega)) (fun _ _ => ?_)
        refine KW.nxt rfl rfl (fun H' g => ⟨⟨j + 1, SQ, HQ, b1, _, d1, b2, _, d2, b3, _, d3, _, _⟩, ⟨by simp only; omega, (inferInstance : On (Low H.n) H SQ HQ).st, .inr ⟨by simp only; omega, by simp only [eN, gl], by simp only [eN], by simp only [eN]; exact seq_stX hQ (fun id hid => ⟨⟨(tQ.st id hid).1, Nat.le_trans hnle hid.1⟩, (tQ.st id hid).2⟩)⟩⟩, by first | omega | (simp only; omega), ⟨rfl, rfl, rfl, rfl, rfl, congrArg (Value.int .u64) (incu64 (by omega)), trivial⟩, g⟩)
      · have k2 : (bestS gs q j).f = true ∧ worth gs (j + 1) (lng gs (j + 1) q (2 ^ q) 0).length * ones (bestS gs q j).k ≤ (bestS gs q j).w * ones (j + 1) := Decidable.of_not_not (fun hx => k2 (key.2 hx))
        have eN : bestS gs q (j + 1) = bestS gs q j := if_pos k2
        have tC : Stp S1 A1 SC HC := inferInstance
        have fI : BqI gs q H ⟨j + 1, SC, HC, a1, n1, c1, a2, n2, c2, a4, n4, c4, most, sz⟩ := by
          rcases g3 with ⟨rfl, _, _⟩ | ⟨h0, e3, e4, hM⟩
          · exact absurd k2.1 (by simp [bestS])
          · exact ⟨by simp only; omega, g2.trans tC.st, .inr ⟨by simp only; omega, by simp only [eN]; exact e3, by simp only [eN]; exact e4, by simp only [eN]; exact seq_stX hM (fun id hid => ⟨⟨(tC.st id hid.1).1, hid.2⟩, (tC.st id hid.1).2⟩)⟩⟩
        refine KW.nxt rfl rfl (fun H' g => ⟨⟨j + 1, SC, HC, a1, n1, c1, a2, n2, c2, a4, n4, c4, most, sz⟩, fI, by first | omega | (simp only; omega), ⟨rfl, rfl, rfl, rfl, rfl, congrArg (Value.int .u64) (incu64 (by omega)), trivial⟩, g⟩)
    · have k1 : ¬ ((j + 1 : Nat) : Int) ≤ ((2 ^ q - 1 : Nat) : Int) := k1
      have hj : j = 2 ^ q - 1 := by omega
      rcases g3 with ⟨h0, _⟩ | ⟨h0, rfl, rfl, hM⟩
      · omega
      subst hj
      refine KW.retM1 rfl rfl rfl rfl (fun H1 g => ?_)
      exact ⟨_, rfl, seq_stX hM (fun id hid => ⟨⟨hid.2, by have := (g.froz id hid.1).1; have := g.n_; omega⟩, (g.froz id hid.1).2⟩)⟩
  · have e0 : r0_BestSequence (m, gs) = ([], [], []) := if_neg hc
    have e1 : r1_BestSequence (m, gs) = 0 := if_neg hc
    have e2 : r2_BestSequence (m, gs) = codeF m gs := rfl
    rw [e0, e1, e2]
    refine KW.cT rfl rfl (by simpa using hc) ?_
    refine KW.build rfl rfl rfl rfl rfl (built_Seq0) ?_
    refine KW.retM1 rfl rfl rfl rfl (fun H1 g => ?_)
    exact ⟨_, rfl, seqNil⟩
end
end Go.Proofs.Ytmkpfllbmdahkaa.Am
/- Contracts: the search of the reference for the best sequence. Each holds under its own conditions. -/
set_option linter.unusedVariables false
set_option linter.unusedSimpArgs false
set_option maxRecDepth 20000
set_option maxHeartbeats 1000000
namespace Go.Proofs.Ytmkpfllbmdahkaa.Am
open Go Go.RowKit Go.Proofs
abbrev numI (ns : List Nat) : List Int := ns.map fun x : Nat => (x : Int)
theorem numsI_grps {q : Nat} : ∀ {ns : List Nat}, (∀ y ∈ ns, y < 2 ^ q) → numsI (grpsQ q ns) = numI ns
  | [], _ => rfl
  | x :: r, h => by
    show ((bitsOf (hold x q) : Nat) : Int) :: numsI (grpsQ q r) = _
    rw [bits_hold (h x (List.mem_cons_self ..)), numsI_grps (fun y hy => h y (List.mem_cons_of_mem _ hy))]
    rfl
/-- What stands in the variable of the search. -/
def BSt (ao : Option Addr) (lo co : Nat) (X : Ids) (A : AH) (id : Nat) (st : Bst) : Prop := ∃ ac cc, A.m id = some ⟨171, true, [.slice ao lo co, .int .i64 st.k, .slice ac (numI st.ch).length cc, .int .i64 st.w, .bool st.f]⟩ ∧ KI.Sl X A (.slice ac (numI st.ch).length cc) (numI st.ch)
theorem nextOk {gs : List (List Int)} {q k x : Nat} {ch : List Nat} (h0 : ¬ Opens gs 0) (hc : Chn gs k 0 ch) (hl : ∀ y ∈ ch ++ [x], y < 2 ^ q) : (ChainC gs k (ch ++ [x]) (ch ++ [x]).length ∧ ∀ i, i < (ch ++ [x]).length → ∃ w, Least gs k (bef (ch ++ [x]) i) ((ch ++ [x]).getD i 0) w true) ↔ Lk gs k (lastB 0 ch) x := by
  have h := chain_iff (gs := gs) (k := k) (q := q) (chain := grpsQ q (ch ++ [x])) h0
  rw [nums_grps hl, List.length_map] at h
  rw [h, ← chn_ok, Chn.snoc_iff]
  exact ⟨fun h => h.2, fun h => ⟨hc, h⟩⟩
section
variable {S : Ids} {H0 : AH}
theorem chainN {q k : Nat} (hq : q ≤ 7) (hk : k < 2 ^ q) {gs : List (List Int)} {ns : List Nat} (hl : ns.length ≤ 256) (hn : ∀ y ∈ ns, y < 2 ^ q) {a c a' c'} (ho : Kn.bool.Sl S H0 (.slice a (tabO gs (2 ^ q)).length c) (tabO gs (2 ^ q))) (hs : KI.Sl S H0 (.slice a' (numI ns).length c') (numI ns)) :
    Spec Try.prog S H0 181 [.slice a (tabO gs (2 ^ q)).length c, .int .i64 k, .slice a' (numI ns).length c'] (fun v => v = .bool (tv (ChainC gs k ns ns.length))) := by
  have el : (grpsQ q ns).length = ns.length := List.length_map ..
  have h := l07Chain (S := S) (H0 := H0) (gs := gs) (chain := grpsQ q ns) (a := a) (c := c) (a' := a') (c' := c') hq hk (by omega) (fun i hi => by
    rw [nums_grps hn, List.getD_eq_getElem?_getD, List.getElem?_eq_getElem (by omega)]
    exact hn _ (List.getElem_mem _)) ho (by rw [numsI_grps hn]; exact hs)
  rw [numsI_grps hn, nums_grps hn, el] at h
  exact h
theorem withsN {q k : Nat} (hq : q ≤ 7) (hk : k < 2 ^ q) {gs : List (List Int)} {ns : List Nat} (hl : ns.length ≤ 256) (hn : ∀ y ∈ ns, y < 2 ^ q) {a c a' c'} (ho : Kn.bool.Sl S H0 (.slice a (tabO gs (2 ^ q)).length c) (tabO gs (2 ^ q))) (hs : KI.Sl S H0 (.slice a' (numI ns).length c') (numI ns)) :
    SpecM Try.prog S H0 158 [.slice a (tabO gs (2 ^ q)).length c, .int .i64 k, .slice a' (numI ns).length c'] (fun n v H1 => ∃ (ok : Bool) (v' : Value), v = .tuple #[v', .bool ok] ∧ ((ok = true ∧ (∀ i, i < ns.length → ∃ w, Least gs k (bef ns i) (ns.getD i 0) w true) ∧ MkL (lwI gs k ns ns.length) n v' H1) ∨ (ok = false ∧ (∃ i, i < ns.length ∧ ¬ ∃ w, Least gs k (bef ns i) (ns.getD i 0) w true) ∧ ∃ a n c, v' = .slice a n c))) := by
  have el : (grpsQ q ns).length = ns.length := List.length_map ..
  have h := l07Withs (S := S) (H0 := H0) (gs := gs) (chain := grpsQ q ns) (a := a) (c := c) (a' := a') (c' := c') hq hk (by omega) (fun i hi => by
    rw [nums_grps hn, List.getD_eq_getElem?_getD, List.getElem?_eq_getElem (by omega)]
    exact hn _ (List.getElem_mem _)) ho (by rw [numsI_grps hn]; exact hs)
  rw [numsI_grps hn, nums_grps hn, el] at h
  exact h
/-- A copy, with the block that it stands in. -/
theorem l00OwnB {a c} {xs : List Int} (hl : xs.length ≤ 1048576) (hs : KI.Sl S H0 (.slice a xs.length c) xs) : SpecM Try.prog S H0 125 [.slice a xs.length c] (fun n v H1 => ∃ o, v = .slice (some ⟨o, 0, some 1⟩) xs.length xs.length ∧ New n H1.n o ∧ H1.m o = some ⟨2, true, xs.map (Value.int .i64)⟩) := by
  refine SpecM.of1 Try.func125 rfl (by kernel_rfl) rfl (fun H _ => ?_)
  refine KW.lit rfl rfl rfl rfl rfl rfl rfl rfl rfl rfl [] rfl rfl (fun v hv => by simp at hv) rfl ?_
  refine KW.appV 0 rfl rfl rfl rfl rfl rfl rfl rfl rfl rfl (fun H1 g => acells_I hs.up g) (by simp) (by simp) (fun v hv => by obtain ⟨_, _, rfl⟩ := List.mem_map.1 hv; rfl) (by show (_ + _) * 8 ≤ _; simp only [List.length_cons, List.length_nil]; omega) (by simp only [List.length_cons, List.length_nil]; omega) (show 0 + xs.length = xs.length from by omega) (fun oa _ _ => ?_)
  refine KW.retM1 rfl rfl rfl rfl (fun H1 g => ⟨_, rfl, ⟨g.ge (H1 := H) (j := 0) rfl, (g.blk (j := 0) rfl).2⟩, (g.blk (j := 0) rfl).1⟩)
theorem try_ {q : Nat} (hq : q ≤ 5) {gs : List (List Int)} {k : Nat} (hk : k < 2 ^ q) {ch : List Nat} (hcl : ch.length ≤ 256) {X Y : Ids} {id : Nat} {st : Bst} (hst : BOk gs (2 ^ q) st) {ao co a c} (hS : S id) (hX : ∀ i, X i → S i ∧ i ≠ id) (hY : ∀ i, Y i → S i ∧ i ≠ id) (hb : BSt ao (tabO gs (2 ^ q)).length co X H0 id st) (ho : Kn.bool.Sl Y H0 (.slice ao (tabO gs (2 ^ q)).length co) (tabO gs (2 ^ q))) (hs : KI.Sl Y H0 (.slice a (numI ch).length c) (numI ch)) :
    SpecW Try.prog S H0 (fun i => i = id) 216 [.pointer (some ⟨id, 0, none⟩), .int .i64 k, .slice a (numI ch).length c] (fun n v H1 => BSt ao (tabO gs (2 ^ q)).length co (fun i => X i ∨ New n H1.n i) H1 id (tryS gs st k ch)) := by
  obtain ⟨ac, cc, hm, hc⟩ := hb
  have hp : 2 ^ q ≤ 32 := by
    have := Nat.pow_le_pow_right (n := 2) (by decide) (show q ≤ 5 by omega)
    simpa using this
  have hnl : (numI ch).length = ch.length := List.length_map ..
  refine SpecW.of Try.func216 rfl (by kernel_rfl) rfl hS hm (fun H hfin hfz => ?_)
  have fx : ∀ i, S i ∧ i ≠ id → (Low H.n i ∧ i ≠ id) ∧ H.m i = H0.m i := fun i hi => ⟨⟨(hfz i hi.1).1, hi.2⟩, (hfz i hi.1).2⟩
  have hcX := hc.stX (S' := X) (H' := H) (fun i hi => ⟨hi, (fx i (hX i hi)).2⟩)
  have ho := ho.stX (fun i hi => fx i (hY i hi))
  have hs := hs.stX (fun i hi => fx i (hY i hi))
  obtain ⟨sk, sch, sw, sf⟩ := st
  have wb := hst.w
  have kb := hst.k
  simp only at hcX wb kb
  refine KW.ldT 0 rfl rfl rfl rfl rfl rfl rfl ?_
  have ew : worth gs k (numI ch).length = worth gs k ch.length := by rw [hnl]
  refine KW.callE rfl rfl rfl rfl rfl ((by have h := l07Worth (q := q) (k := k) (n := (numI ch).length) (by omega) hk (by omega) ho; rw [ew] at h; exact h)) (fun n4 m4 => ?_)
  have wk : worth gs k ch.length ≤ 1000 := by unfold worth; split <;> omega
  have o1 := ones_le sk
  have o2 := ones_le k
  cases sf with
  | true =>
    refine KW.ldT 0 rfl rfl rfl rfl rfl rfl rfl ?_
    refine KW.tT rfl rfl (by first | (simp; done) | decide) ?_
    refine KW.ldT 0 rfl rfl rfl rfl rfl rfl rfl ?_
    refine KW.callE rfl rfl rfl rfl rfl (l07Count (x := sk) (by omega)) (fun n6 m6 => ?_)
    refine KW.ldT 0 rfl rfl rfl rfl rfl rfl rfl ?_
    refine KW.callE rfl rfl rfl rfl rfl (l07Count (x := k) (by omega)) (fun n5 m5 => ?_)
    refine KW.cnd rfl rfl (fun k1 => ?_) (fun k1 => ?_)
    · have k1 : IntKind.i64.wrap ((worth gs k ch.length : Int) * (ones sk : Int)) ≤ IntKind.i64.wrap ((sw : Int) * (ones k : Int)) := k1
      rw [wmul (by omega) (by omega), wmul (by omega) (by omega)] at k1
      have eT : tryS gs ⟨sk, sch, sw, true⟩ k ch = ⟨sk, sch, sw, true⟩ := if_pos ⟨rfl, by simp only; omega⟩
      rw [eT]
      refine KW.retW rfl rfl rfl rfl (fun H1 g => by have := g.n_; omega) (fun i hi hw => ⟨⟨hi, hw⟩, rfl⟩) (fun H1 g => ⟨_, _, (g.blk (j := 0) rfl).1, ?_⟩)
      exact hcX.stX (fun i hi => ⟨.inl hi, (g.froz i (fx i (hX i hi)).1).2⟩)
    · have k1 : ¬ IntKind.i64.wrap ((worth gs k ch.length : Int) * (ones sk : Int)) ≤ IntKind.i64.wrap ((sw : Int) * (ones k : Int)) := k1
      rw [wmul (by omega) (by omega), wmul (by omega) (by omega)] at k1
      have eT : tryS gs ⟨sk, sch, sw, true⟩ k ch = ⟨k, ch, worth gs k ch.length, true⟩ := if_neg (fun hx => k1 (by have := hx.2; simp only at this; omega))
      refine KW.st1 0 rfl rfl rfl rfl rfl rfl rfl rfl rfl rfl rfl rfl (by simp) ?_
      refine KW.st1 0 rfl rfl rfl rfl rfl rfl rfl rfl rfl rfl rfl rfl (by simp) ?_
      refine KW.callN1 rfl rfl rfl rfl rfl (l00Own (by omega) hs) (fun v HO SO mO _ _ hv => ?_)
      obtain ⟨a5, c5, rfl, hO⟩ := hv
      have tO : Stp (fun i => Low H.n i ∧ i ≠ id) H SO HO := inferInstance
      have wO : On (New n5 HO.n) HO SO HO := inferInstance
      refine KW.st1 0 rfl rfl rfl rfl rfl rfl rfl rfl rfl rfl rfl rfl (by simp) ?_
      refine KW.st1 0 rfl rfl rfl rfl rfl rfl rfl rfl rfl rfl rfl rfl (by simp) ?_
      rw [eT]
      refine KW.endW rfl rfl rfl rfl (fun H1 g => by have := g.n_; omega) (fun i hi hw => tO.st i ⟨hi, hw⟩) (fun H1 g => ⟨_, _, (g.blk (j := 0) rfl).1, ?_⟩)
      exact hO.sl.stX (fun i hi => ⟨.inr ⟨by have := hi.1; omega, by have := hi.2; have := g.n_; omega⟩, (g.froz i (wO.st i hi).1).2.trans (wO.st i hi).2⟩)
  | false =>
    refine KW.ldT 0 rfl rfl rfl rfl rfl rfl rfl ?_
    refine KW.tF rfl rfl (by first | (simp; done) | decide) ?_
    refine KW.cF rfl rfl (by first | (simp; done) | decide) ?_
    have eT : tryS gs ⟨sk, sch, sw, false⟩ k ch = ⟨k, ch, worth gs k ch.length, true⟩ := if_neg (fun hx => by cases hx.1)
    refine KW.st1 0 rfl rfl rfl rfl rfl rfl rfl rfl rfl rfl rfl rfl (by simp) ?_
    refine KW.st1 0 rfl rfl rfl rfl rfl rfl rfl rfl rfl rfl rfl rfl (by simp) ?_
    refine KW.callN1 rfl rfl rfl rfl rfl (l00Own (by omega) hs) (fun v HO SO mO _ _ hv => ?_)
    obtain ⟨a5, c5, rfl, hO⟩ := hv
    have tO : Stp (fun i => Low H.n i ∧ i ≠ id) H SO HO := inferInstance
    have wO : On (New n4 HO.n) HO SO HO := inferInstance
    refine KW.st1 0 rfl rfl rfl rfl rfl rfl rfl rfl rfl rfl rfl rfl (by simp) ?_
    refine KW.st1 0 rfl rfl rfl rfl rfl rfl rfl rfl rfl rfl rfl rfl (by simp) ?_
    rw [eT]
    refine KW.endW rfl rfl rfl rfl (fun H1 g => by have := g.n_; omega) (fun i hi hw => tO.st i ⟨hi, hw⟩) (fun H1 g => ⟨_, _, (g.blk (j := 0) rfl).1, ?_⟩)
    exact hO.sl.stX (fun i hi => ⟨.inr ⟨by have := hi.1; omega, by have := hi.2; have := g.n_; omega⟩, (g.froz i (wO.st i hi).1).2.trans (wO.st i hi).2⟩)
end
end Go.Proofs.Ytmkpfllbmdahkaa.Am
/- Contract: the walk of the reference over all chains. It holds under its own conditions. -/
set_option linter.unusedVariables false
set_option linter.unusedSimpArgs false
set_option maxRecDepth 20000
set_option maxHeartbeats 1000000
namespace Go.Proofs.Ytmkpfllbmdahkaa.Am
open Go Go.RowKit Go.Proofs
theorem BSt.stX {ao : Option Addr} {lo co : Nat} {X X' : Ids} {A A' : AH} {id : Nat} {st : Bst} (h : BSt ao lo co X A id st) (hid : A'.m id = A.m id) (t : ∀ i, X i → X' i ∧ A'.m i = A.m i) : BSt ao lo co X' A' id st := by
  obtain ⟨ac, cc, hm, hc⟩ := h
  exact ⟨ac, cc, hid.trans hm, hc.stX t⟩
theorem BSt.has {ao : Option Addr} {lo co : Nat} {X S : Ids} {A : AH} {id : Nat} {st : Bst} (h : BSt ao lo co X A id st) (hS : S id) : ∃ vs : List Value, Has3 S A id 0 (.slice ao lo co :: vs) := by
  obtain ⟨ac, cc, hm, hc⟩ := h
  exact ⟨_, hS, _, hm, fun i v hv => by simpa using hv⟩
theorem Chn.app {gs : List (List Int)} {k : Nat} : ∀ {b : Nat} {xs ys : List Nat}, Chn gs k b xs → Chn gs k (lastB b xs) ys → Chn gs k b (xs ++ ys)
  | b, [], ys, _, h => h
  | b, x :: r, ys, h, h' => by
    rw [lastB_cons] at h'
    exact ⟨h.1, h.2.app h'⟩
theorem lastB_lt {N b : Nat} {xs : List Nat} (hb : b < N) (h : ∀ y ∈ xs, y < N) : lastB b xs < N := by
  unfold lastB
  split
  · exact hb
  · rw [List.getD_eq_getElem?_getD, List.getElem?_eq_getElem (by omega)]
    exact h _ (List.getElem_mem _)
theorem lastB_snoc (b x : Nat) (xs : List Nat) : lastB b (xs ++ [x]) = x := by
  unfold lastB
  rw [if_neg (by simp)]
  simp [List.getD_eq_getElem?_getD]
structure WkS where
  j : Nat
  S : Ids
  A : AH
structure WkI (gs : List (List Int)) (ao : Option Addr) (lo co : Nat) (X : Ids) (H : AH) (id : Nat) (N : Nat) (st : Bst) (s : WkS) : Prop where
  le : s.j ≤ N
  sid : s.S id
  old : ∀ i, Low H.n i ∧ i ≠ id → s.S i ∧ s.A.m i = H.m i
  b : BSt ao lo co (fun i => (X i ∨ H.n ≤ i) ∧ s.S i) s.A id st
theorem walk {q : Nat} (hq : q ≤ 5) {gs : List (List Int)} (h0 : ¬ Opens gs 0) {k : Nat} (hk : k < 2 ^ q) (hk0 : 0 < k) {ao : Option Addr} {co : Nat} : ∀ (f : Nat) (ch : List Nat) (S : Ids) (H0 : AH) (X Y : Ids) (id : Nat) (st : Bst) (a : Option Addr) (c : Nat), Chn gs k 0 ch → (∀ y ∈ ch, y < 2 ^ q) → 2 ^ q - lastB 0 ch ≤ f → BOk gs (2 ^ q) st → S id → (∀ i, X i → S i ∧ i ≠ id) → (∀ i, Y i → S i ∧ i ≠ id) → BSt ao (tabO gs (2 ^ q)).length co X H0 id st → Kn.bool.Sl Y H0 (.slice ao (tabO gs (2 ^ q)).length co) (tabO gs (2 ^ q)) → KI.Sl Y H0 (.slice a (numI ch).length c) (numI ch) →
    SpecW Try.prog S H0 (fun i => i = id) 157 [.pointer (some ⟨id, 0, none⟩), .int .i64 k, .slice a (numI ch).length c] (fun n v H1 => BSt ao (tabO gs (2 ^ q)).length co (fun i => X i ∨ New n H1.n i) H1 id (tryS gs st k (ch ++ lng gs k q f (lastB 0 ch))))
  | 0, ch, S, H0, X, Y, id, st, a, c, hch, hlt, hf, hst, hS, hX, hY, hb, ho, hs => by
    have := lastB_lt (b := 0) (xs := ch) (Nat.two_pow_pos q) hlt
    omega
  | f + 1, ch, S, H0, X, Y, id, st, a, c, hch, hlt, hf, hst, hS, hX, hY, hb, ho, hs => by
    have hlb := lastB_lt (b := 0) (xs := ch) (Nat.two_pow_pos q) hlt
    have hcl := hch.len hlt (Nat.two_pow_pos q)
    have hp : 2 ^ q ≤ 32 := by
      have := Nat.pow_le_pow_right (n := 2) (by decide) (show q ≤ 5 by omega)
      simpa using this
    have hnl : (numI ch).length = ch.length := List.length_map ..
    have htl := tabO_len gs (2 ^ q)
    have o1 := ones_pos k (by omega) hk0
    refine SpecW.of0 Try.func157 rfl (by kernel_rfl) rfl (fun H hfin hfz => ?_)
    have hid : id < H.n := (hfz id hS).1
    have fx : ∀ i, S i → Low H.n i ∧ H.m i = H0.m i := fun i hi => hfz i hi
    have hbH : BSt ao (tabO gs (2 ^ q)).length co X H id st := hb.stX (fx id hS).2 (fun i hi => ⟨hi, (fx i (hX i hi).1).2⟩)
    have hoH := ho.stX (S' := fun i => Low H.n i ∧ i ≠ id) (H' := H) (fun i hi => ⟨⟨(fx i (hY i hi).1).1, (hY i hi).2⟩, (fx i (hY i hi).1).2⟩)
    have hsH := hs.stX (S' := fun i => Low H.n i ∧ i ≠ id) (H' := H) (fun i hi => ⟨⟨(fx i (hY i hi).1).1, (hY i hi).2⟩, (fx i (hY i hi).1).2⟩)
    have hXH : ∀ i, X i → Low H.n i ∧ i ≠ id := fun i hi => ⟨(fx i (hX i hi).1).1, (hX i hi).2⟩
    refine KW.callW (W := fun i => i = id) (fun i hi => by subst hi; exact hid) rfl rfl rfl rfl rfl (try_ hq hk (by omega) hst (S := Low H.n) hid hXH (fun i hi => hi) hbH hoH hsH) (fun v H1 S1 hn1 st1 hw1 hb1 => ?_)
    have old1 : ∀ i, Low H.n i ∧ i ≠ id → S1 i ∧ H1.m i = H.m i := fun i hi => ⟨(st1 i hi.1).1, (st1 i hi.1).2 hi.2⟩
    have b1 : WkI gs ao (tabO gs (2 ^ q)).length co X H id (2 ^ q - 1 - lastB 0 ch) (tryS gs st k (ch ++ lngL gs k (lastB 0 ch) (lng gs k q f) 0)) ⟨0, S1, H1⟩ := ⟨Nat.zero_le _, (st1 id hid).1, old1, by
      show BSt _ _ _ _ _ _ (tryS gs st k (ch ++ []))
      rw [List.append_nil]
      refine hb1.stX rfl (fun i hi => ⟨?_, rfl⟩)
      rcases hi with hi | hi
      · exact ⟨.inl hi, (st1 i (hXH i hi).1).1⟩
      · exact ⟨.inr hi.1, hw1 i hi⟩⟩
    have hs1 := hsH.stX old1
    refine KW.cnd rfl rfl (fun k1 => ?gin) (fun k1 => ?gout)
    case' gin =>
      have k1 : ((numI ch).length : Int) > 0 := k1
      have ei : IntKind.i64.wrap (((numI ch).length : Int) - 1) = ((ch.length - 1 : Nat) : Int) := by rw [wr (by omega) (by omega)]; omega
      refine KW.getI hs1 rfl rfl rfl rfl rfl rfl rfl rfl rfl rfl rfl rfl rfl rfl rfl rfl (by omega) (by omega) (fun y hy => ?_)
      have hy1 : y = (lastB 0 ch : Nat) := by
        rw [ei, Int.toNat_natCast, List.getElem?_map] at hy
        unfold lastB
        rw [if_neg (by omega), List.getD_eq_getElem?_getD]
        cases hz : ch[ch.length - 1]? with
        | none => rw [hz] at hy; cases hy
        | some z => rw [hz] at hy; cases hy; rfl
      subst hy1
    case' gout =>
      have k1 : ¬ ((numI ch).length : Int) > 0 := k1
      have hl0 : lastB 0 ch = 0 := by rw [List.eq_nil_of_length_eq_zero (show ch.length = 0 by omega)]; rfl
    all_goals
      refine KW.lpM rfl rfl (fun s : WkS => [(0, .pointer (some ⟨id, 0, none⟩)), (1, .int .i64 k), (2, .slice a (numI ch).length c), (7, .int .i64 (lastB 0 ch + 1 + s.j : Nat))]) (fun s => s.S) (fun s => s.A) (fun _ => []) (fun s => WkI gs ao (tabO gs (2 ^ q)).length co X H id (2 ^ q - 1 - lastB 0 ch) (tryS gs st k (ch ++ lngL gs k (lastB 0 ch) (lng gs k q f) s.j)) s) (fun s => 2 ^ q - s.j) ⟨0, S1, H1⟩ b1 ⟨rfl, rfl, rfl, by first | exact congrArg (Value.int .i64) (inc64 (by omega)) | (simp only [hl0]; rfl), trivial⟩ rfl rfl rfl (fun s hi bE n => ?_)
      obtain ⟨j, S2, A2⟩ := s
      have hi0 := hi
      obtain ⟨g1, g2, g3, g4⟩ := hi
      simp only at g1 g2 g3 g4
      have ho2 := hoH.stX g3
      have hs2 := hsH.stX g3
      obtain ⟨vs2, hv2⟩ := g4.has g2
      refine KW.ids (fun hlow hvar => ?_)
      have hnn : H.n ≤ n := by
        rcases Nat.lt_or_ge n H.n with h | h
        · by_cases e : n = id
          · have := hlow id g2; omega
          · have := hlow n (g3 n ⟨h, e⟩).1; omega
        · exact h
      refine KW.ldF 0 hv2 rfl rfl rfl rfl rfl rfl rfl rfl rfl ?_
      refine KW.cnd rfl rfl (fun k2 => ?jin) (fun k2 => ?jout)
      case jin =>
        have k2 : ((lastB 0 ch + 1 + j : Nat) : Int) < ((tabO gs (2 ^ q)).length : Int) := k2
        have hx : lastB 0 ch + 1 + j < 2 ^ q := by omega
        obtain ⟨x, hxe⟩ : ∃ x, x = lastB 0 ch + 1 + j := ⟨_, rfl⟩
        have hnl2 : ∀ y ∈ ch ++ [x], y < 2 ^ q := fun y hy => by
          rcases List.mem_append.1 hy with hy | hy
          · exact hlt y hy
          · rw [List.mem_singleton.1 hy]; omega
        have hl2 : (ch ++ [x]).length ≤ 256 := by rw [List.length_append]; simp only [List.length_cons, List.length_nil]; omega
        have okl := lngL_ok (gs := gs) (k := k) (b := lastB 0 ch) (N := 2 ^ q) (r := lng gs k q f) (fun x _ hx => lng_ok f x hx) j (by omega)
        have okj : BOk gs (2 ^ q) (tryS gs st k (ch ++ lngL gs k (lastB 0 ch) (lng gs k q f) j)) := tryS_ok hst hk hk0 (hch.app okl.1) (fun y hy => (List.mem_append.1 hy).elim (hlt y) (okl.2 y))
        have skp : ∀ (S' : Ids) (A' : AH), (∀ i, S2 i → S' i ∧ A'.m i = A2.m i) → ¬ Lk gs k (lastB 0 ch) x → WkI gs ao (tabO gs (2 ^ q)).length co X H id (2 ^ q - 1 - lastB 0 ch) (tryS gs st k (ch ++ lngL gs k (lastB 0 ch) (lng gs k q f) (j + 1))) ⟨j + 1, S', A'⟩ := fun S' A' t hn => by
          rw [lngL_skip (by rw [← hxe]; exact hn)]
          exact ⟨by simp only; omega, (t id g2).1, fun i hi => ⟨(t i (g3 i hi).1).1, (t i (g3 i hi).1).2.trans (g3 i hi).2⟩, g4.stX (t id g2).2 (fun i hi => ⟨⟨hi.1, (t i hi.2).1⟩, (t i hi.2).2⟩)⟩
        refine KW.callN1 rfl rfl rfl rfl rfl (l00OwnB (by omega) hs2) (fun v HO SO mO _ _ hv => ?_)
        obtain ⟨o3, rfl, hno3, hmo3⟩ := hv
        have tO : Stp S2 A2 SO HO := inferInstance
        have wO : On (New n HO.n) HO SO HO := inferInstance
        have hS3 : SO o3 := (wO.st o3 hno3).1
        have hn3 : n ≤ o3 := hno3.1
        refine KW.thaw o3 _ hS3 hmo3 ?_
        refine KW.app1 (xs := (numI ch).map (Value.int .i64)) (v := .int .i64 (lastB 0 ch + 1 + j : Nat)) 0 1 rfl rfl rfl rfl rfl rfl rfl rfl rfl rfl rfl rfl rfl rfl rfl rfl rfl rfl rfl rfl rfl rfl rfl (by simp) (by show (_ + 1) * 8 ≤ _; omega) (by omega) ?_
        refine KW.freeze 0 rfl (fun A9 S9 hn9 hS9 st9 hm9 ho9 hnS9 hlow9 => ?_)
        have hyc : (numI ch).map (Value.int .i64) ++ [.int .i64 ((lastB 0 ch + 1 + j : Nat) : Int)] = (numI (ch ++ [x])).map (Value.int .i64) := by simp [hxe]
        have hyw : (numI (ch ++ [x])).length = (numI ch).length + 1 := by simp
        rw [hyc] at hm9
        rw [← hyw]
        have t9 : ∀ i, S2 i → S9 i ∧ A9.m i = A2.m i := fun i hi => by
          have h1 := tO.st i hi
          have h2 := hlow i hi
          have h3 := st9.st i ⟨h1.1, by omega⟩
          exact ⟨h3.1, h3.2.trans h1.2⟩
        have hidl := hlow id g2
        have hnx := (row_ml hm9).sl.stX (S' := fun i => S9 i ∧ i ≠ id) (H' := A9) (fun i hi => ⟨⟨(hS9 i).2 (.inr hi), fun e => hnS9 (by rw [← hi, e]; exact ⟨(tO.st id g2).1, by omega⟩)⟩, rfl⟩)
        have ho9 := hoH.stX (S' := fun i => S9 i ∧ i ≠ id) (H' := A9) (fun i hi => ⟨⟨(t9 i (g3 i hi).1).1, hi.2⟩, (t9 i (g3 i hi).1).2.trans (g3 i hi).2⟩)
        have b9 : BSt ao (tabO gs (2 ^ q)).length co (fun i => (X i ∨ H.n ≤ i) ∧ S9 i) A9 id _ := g4.stX (t9 id g2).2 (fun i hi => ⟨⟨hi.1, (t9 i hi.2).1⟩, (t9 i hi.2).2⟩)
        obtain ⟨vs9, hv9⟩ := b9.has (t9 id g2).1
        refine KW.ldF 0 hv9 rfl rfl rfl rfl rfl rfl rfl rfl rfl ?_
        refine KW.callE rfl rfl rfl rfl rfl (chainN (by omega) hk hl2 hnl2 (ho9.stX (fun i hi => ⟨hi.1, rfl⟩)) (hnx.stX (fun i hi => ⟨hi.1, rfl⟩))) (fun _ _ => ?_)
        by_cases hcc : ChainC gs k (ch ++ [x]) (ch ++ [x]).length
        · rw [tv_true hcc]
          refine KW.cF rfl rfl (by first | (simp; done) | decide) ?_
          refine KW.ldF 0 hv9 rfl rfl rfl rfl rfl rfl rfl rfl rfl ?_
          refine KW.callN1 rfl rfl rfl rfl rfl (withsN (by omega) hk hl2 hnl2 (ho9.stX (fun i hi => ⟨hi.1, rfl⟩)) (hnx.stX (fun i hi => ⟨hi.1, rfl⟩))) (fun v HW SW mW _ _ hv => ?_)
          obtain ⟨ok, v', rfl, hW⟩ := hv
          have tW : Stp S9 A9 SW HW := inferInstance
          have tT : ∀ i, S2 i → SW i ∧ HW.m i = A2.m i := fun i hi => ⟨(tW.st i (t9 i hi).1).1, (tW.st i (t9 i hi).1).2.trans (t9 i hi).2⟩
          rcases hW with ⟨rfl, hw, a8, c8, rfl, _⟩ | ⟨rfl, ⟨i0, hi0, hni⟩, a8, n8, c8, rfl⟩
          · have hlk : Lk gs k (lastB 0 ch) x := (nextOk h0 hch hnl2).1 ⟨hcc, hw⟩
            have hlk' : Lk gs k (lastB 0 ch) (lastB 0 ch + 1 + j) := by rw [← hxe]; exact hlk
            refine KW.cT rfl rfl (by first | (simp; done) | decide) ?_
            refine KW.callW (W := fun i => i = id) (fun i hi => by subst hi; exact (tT _ g2).1) rfl rfl rfl rfl rfl (walk hq h0 hk hk0 f (ch ++ [x]) SW HW (fun i => (X i ∨ H.n ≤ i) ∧ SW i) (fun i => SW i ∧ i ≠ id) id _ _ _ (Chn.snoc_iff.2 ⟨hch, hlk⟩) hnl2 (by rw [lastB_snoc]; omega) okj (tT id g2).1 (fun i hi => ⟨hi.2, fun e => by subst e; exact hi.1.elim (fun h => (hXH _ h).2 rfl) (fun h => by omega)⟩) (fun i hi => hi) (b9.stX (tW.st id (t9 id g2).1).2 (fun i hi => ⟨⟨hi.1, (tW.st i hi.2).1⟩, (tW.st i hi.2).2⟩)) (ho9.stX (fun i hi => ⟨⟨(tW.st i hi.1).1, hi.2⟩, (tW.st i hi.1).2⟩)) (hnx.stX (fun i hi => ⟨⟨(tW.st i hi.1).1, hi.2⟩, (tW.st i hi.1).2⟩))) (fun v5 H5 S5 hn5 st5 hw5 hb5 => ?_)
            rw [lastB_snoc, hxe, tryS_next o1 hlk'] at hb5
            have fI : WkI gs ao (tabO gs (2 ^ q)).length co X H id (2 ^ q - 1 - lastB 0 ch) (tryS gs st k (ch ++ lngL gs k (lastB 0 ch) (lng gs k q f) (j + 1))) ⟨j + 1, S5, H5⟩ :=
              ⟨by simp only; omega, (st5 id (tT id g2).1).1, fun i hi => ⟨(st5 i (tT i (g3 i hi).1).1).1, ((st5 i (tT i (g3 i hi).1).1).2 hi.2).trans ((tT i (g3 i hi).1).2.trans (g3 i hi).2)⟩, hb5.stX rfl (fun i hi => by
                rcases hi with hi | hi
                · exact ⟨⟨hi.1, (st5 i hi.2).1⟩, rfl⟩
                · exact ⟨⟨.inr (by have := hi.1; omega), hw5 i hi⟩, rfl⟩)⟩
            refine KW.nxt rfl rfl (fun H' g => ⟨⟨j + 1, S5, H5⟩, fI, by first | omega | (simp only; omega), ⟨rfl, rfl, rfl, congrArg (Value.int .i64) (inc64 (by omega)), trivial⟩, g⟩)
          · refine KW.cF rfl rfl (by first | (simp; done) | decide) ?_
            refine KW.nxt rfl rfl (fun H' g => ⟨⟨j + 1, SW, HW⟩, skp SW HW tT (fun hc => hni (((nextOk h0 hch hnl2).2 hc).2 i0 hi0)), by first | omega | (simp only; omega), ⟨rfl, rfl, rfl, congrArg (Value.int .i64) (inc64 (by omega)), trivial⟩, g⟩)
        · rw [tv_false hcc]
          refine KW.cT rfl rfl (by first | (simp; done) | decide) ?_
          refine KW.nxt rfl rfl (fun H' g => ⟨⟨j + 1, S9, A9⟩, skp S9 A9 t9 (fun hc => hcc ((nextOk h0 hch hnl2).2 hc).1), by first | omega | (simp only; omega), ⟨rfl, rfl, rfl, congrArg (Value.int .i64) (inc64 (by omega)), trivial⟩, g⟩)
      case jout =>
        have k2 : ¬ ((lastB 0 ch + 1 + j : Nat) : Int) < ((tabO gs (2 ^ q)).length : Int) := k2
        have ej : j = 2 ^ q - 1 - lastB 0 ch := by omega
        refine KW.endW rfl rfl rfl rfl (fun H9 g => by have := g.n_; omega) (fun i hi hw => g3 i ⟨hi, hw⟩) (fun H9 g => ?_)
        subst ej
        exact g4.stX (g.froz id g2).2 (fun i hi => ⟨hi.1.elim .inl (fun h => .inr ⟨h, by have := (g.froz i hi.2).1; have := g.n_; omega⟩), (g.froz i hi.2).2⟩)
end Go.Proofs.Ytmkpfllbmdahkaa.Am
/- Writers that some loads do not wait for: stores and appends. For every program. No condition beyond each theorem's own. -/
set_option linter.unusedSimpArgs false
set_option linter.unusedVariables false
namespace Go.Proofs.Ytmkpfllbmdahkaa.Am
open Go Go.RowKit
/-- What such a load reads is another variable, or frozen. -/
def Ap (S : Ids) (T : List Var) (e : Env) (j : Nat) (u : Tmp) : Prop := (∃ i b id k s, e u = .pointer (some ⟨id, k, s⟩) ∧ T[i]? = some (id, b) ∧ i ≠ j) ∨ ∃ id k s, e u = .pointer (some ⟨id, k, s⟩) ∧ S id
def AllL (S : Ids) (T : List Var) (e : Env) (j : Nat) : List Tmp → Prop
  | [] => True
  | u :: L => Ap S T e j u ∧ AllL S T e j L
section
variable {P : Program} {S : Ids} {H0 : AH} {Q : PostC} {k k1 k2 : List It} {e e1 e2 : Env} {T T1 T2 : List Var} {n n1 n2 : Nat} {l1 r1 l2 r2 : List Nat} {d1 d2 : Tmp}
theorem AllL.out {L : List Tmp} {j : Nat} {H H1 : AH} {v0 : Var} (g : Good S H0 T n H) (hj : T[j]? = some v0 ∨ j = T.length) (hL : AllL S T e j L) (hH : ∀ id, id < n → (∀ v, T[j]? = some v → id ≠ v.1) → H1.m id = H.m id) : ∀ t ∈ L, ∀ id k s, e t = .pointer (some ⟨id, k, s⟩) → H1.m id = H.m id := by
  induction L with
  | nil => intro t ht; cases ht
  | cons u L ih =>
    intro t ht id k s he
    rcases List.mem_cons.1 ht with rfl | ht
    · rcases hL.1 with ⟨i, b, id', k', s', h1, h2, h3⟩ | ⟨id', k', s', h1, h2⟩
      · rw [h1] at he
        cases he
        exact hH id (g.vars i _ h2).2.1 (fun v hv heq => h3 (g.dist i j _ v h2 hv heq))
      · rw [h1] at he
        cases he
        exact hH id (g.froz id h2).1 (fun v hv heq => (g.vars j v hv).2.2 (heq ▸ h2))
    · exact ih hL.2 t ht id k s he
theorem KEvt.heapL {o : Oper} {dr : Bool} {c : Cf} {L : List Tmp} (v : Value) (T' : List Var) (n' : Nat) (hc : opClass o.op = 1 ∨ opClass o.op = 2) (hp : ∀ H, Good S H0 c.T c.n H → ∃ tag H1, hop P tag o.op c.e H = some (v, H1) ∧ Good S H0 T' n' H1 ∧ ∀ t ∈ L, ∀ id k s, c.e t = .pointer (some ⟨id, k, s⟩) → H1.m id = H.m id) (hk : KW P S H0 Q n' T' c.k (put c.e o.dst v)) : KEvt P S H0 Q (.opL o dr L) c := by
  intro H g
  obtain ⟨tag, H1, h1, g1, h2⟩ := hp H g
  refine ⟨0, v, H1, ?_, h2, hk H1 g1⟩
  unfold evOp
  split
  · rename_i hop; rw [hop] at hc; simp [opClass] at hc
  · split
    · rename_i h0; omega
    · exact ⟨tag, h1⟩
/-- A store to a variable. -/
theorem KW.stZ {o : Oper} {dr : Bool} {L : List Tmp} {t : TypeId} {x y : Operand} {id kk : Nat} {sp : Option Nat} {b b' : Blk} (j : Nat) (h : Go1 P k e T n (.opL o dr L) k1 e1 T1 n1 l1 r1) (hlr : l1 = r1) (ho : o.op = .store t x y) (hd : o.dst = none) (hx : ev e1 x = .pointer (some ⟨id, kk, sp⟩)) (hT : T1[j]? = some (id, b)) (hs : bstore P b t kk (ev e1 y) = some b') (hL : AllL S T1 e1 j L)
    (hk : KW P S H0 Q n1 (T1.set j (id, b')) k1 e1) : KW P S H0 Q n T k e := by
  refine KW.go h hlr (KEvt.heapL (c := ⟨_, _, _, _, _, _⟩) undef (T1.set j (id, b')) n1 (by rw [ho]; exact .inr rfl) (fun H g => ⟨none, H.set id b', ?_, g.set hT _, AllL.out g (.inl hT) hL (fun i hi hne => ?_)⟩) (by rw [hd]; exact hk))
  · rw [ho]
    simp only [hop, hx, bstore_ok (g.blk hT).1 hs]
  · have := hne _ hT
    simp [AH.set, this]
theorem KW.appNL {o : Oper} {dr : Bool} {L : List Tmp} {t el : TypeId} {x y : Operand} {inf : TypeInfo} {m : Nat} {ys : List Value} (h : Go1 P k e T n (.opL o dr L) k1 e1 T1 n1 l1 r1) (hlr : l1 = r1) (ho : o.op = .call { callee := .builtin .append, args := #[x, y], argTypes := #[t, t] }) (hd : o.dst = some d1) (hx : ev e1 x = .slice none 0 0)
    (hu : P.underlying t = some (.slice el)) (hi : P.info? el = some inf) (hs : inf.size = 1) (hzo : zeroOkL P el = true) (hy : ∀ H, Good S H0 T1 n1 H → acells H (ev e1 y) 1 = some (m, ys)) (hone : ∀ v ∈ ys, v.oneCell' = true) (hm : m ≠ 0) (hb : m * inf.bytes ≤ 140737488355328) (hml : m ≤ 9223372036854775807) (hL : AllL S T1 e1 T1.length L)
    (hk : KW P S H0 Q (n1 + 1) (T1 ++ [(n1, ⟨el, true, ys⟩)]) k1 (put1 e1 d1 (.slice (some ⟨n1, 0, some 1⟩) m m))) : KW P S H0 Q n T k e := by
  refine KW.go h hlr (KEvt.heapL (c := ⟨_, _, _, _, _, _⟩) _ _ _ (by rw [ho]; exact .inr rfl) (fun H g => ⟨none, _, ?_, g.push _, AllL.out (v0 := (0, ⟨0, true, []⟩)) g (.inr rfl) hL (fun i hi _ => ?_)⟩) (by rw [hd, put1_eq]; exact hk))
  · rw [ho]
    have h1 := hy H g
    simp only [hop, aappend, hu, hi, hs, hx, h1]
    rw [if_pos trivial, if_pos ⟨zeroOkL_ok hzo, by omega, List.all_eq_true.2 hone⟩, if_neg hm, if_pos ⟨hml, hb⟩, g.n_]
  · have hn := g.n_
    have hi : i < n1 := hi
    have : ¬ i = H.n := by omega
    simp [AH.push, this]
theorem KW.appTL {o : Oper} {dr : Bool} {L : List Tmp} {t el : TypeId} {x y : Operand} {inf : TypeInfo} {m len c id : Nat} {xs ys : List Value} (j : Nat) (h : Go1 P k e T n (.opL o dr L) k1 e1 T1 n1 l1 r1) (hlr : l1 = r1) (ho : o.op = .call { callee := .builtin .append, args := #[x, y], argTypes := #[t, t] }) (hd : o.dst = some d1) (hx : ev e1 x = .slice (some ⟨id, 0, some 1⟩) len c) (hT : T1[j]? = some (id, ⟨el, true, xs⟩))
    (hu : P.underlying t = some (.slice el)) (hi : P.info? el = some inf) (hs : inf.size = 1) (hzo : zeroOkL P el = true) (hy : ∀ H, Good S H0 T1 n1 H → acells H (ev e1 y) 1 = some (m, ys)) (hlen : xs.length = len) (hone : ∀ v ∈ ys, v.oneCell' = true) (hm : m ≠ 0) (hb : (len + m) * inf.bytes ≤ 140737488355328) (hml : len + m ≤ 9223372036854775807) (hL : AllL S T1 e1 j L)
    (hk : KW P S H0 Q (n1 + 1) (T1.set j (n1, ⟨el, true, xs ++ ys⟩)) k1 (put1 e1 d1 (.slice (some ⟨n1, 0, some 1⟩) (len + m) (len + m)))) : KW P S H0 Q n T k e := by
  refine KW.go h hlr (KEvt.heapL (c := ⟨_, _, _, _, _, _⟩) _ _ _ (by rw [ho]; exact .inr rfl) (fun H g => ⟨none, _, ?_, g.move hT _, AllL.out g (.inl hT) hL (fun i hi hne => ?_)⟩) (by rw [hd, put1_eq]; exact hk))
  · rw [ho]
    have h1 := hy H g
    have h2 := (g.blk hT).1
    simp only [hop, aappend, hu, hi, hs, hx, h1, h2]
    rw [if_pos trivial, if_pos ⟨zeroOkL_ok hzo, by omega, List.all_eq_true.2 hone⟩, if_neg hm, if_pos ⟨trivial, trivial, trivial, by omega, hml, hb⟩]
    simp only [List.drop_zero, Nat.mul_one, AH.kill, g.n_]
    rw [List.take_of_length_le (by omega)]
  · have hn := g.n_
    have hi : i < n1 := hi
    have h3 : ¬ i = H.n := by omega
    have h4 := hne _ hT
    simp [AH.push, AH.kill, h3, h4]
/-- One element more, to a slice that one has made. -/
theorem KW.app1L (j m0 : Nat) {o o' : Oper} {dr dr' : Bool} {L : List Tmp} {t el t' : TypeId} {m : Nat} {parts : Array (Nat × Operand)} {inf : TypeInfo} {z : Value} {x y : Operand} {len c id : Nat} {xs : List Value} {v : Value} (h : Go1 P k e T n (.op o dr) k1 e1 T1 n1 l1 r1) (hlr : l1 = r1) (ho : o.op = .buildSlice t m parts) (hd : o.dst = some d1)
    (hu : P.underlying t = some (.slice el)) (hi : P.info? el = some inf) (hs : inf.size = 1) (hz : inf.zero = some z) (hz1 : z.cells = #[z]) (hzo : zeroOkL P el = true) (hp : (parts.toList.map fun p => (p.1, ev e1 p.2)) = [(0, v)]) (hm : m = 1) (hv : v.cells = #[v]) (ho1 : v.oneCell' = true)
    (h' : Go1 P k1 (put1 e1 d1 (.slice (some ⟨n1, 0, some 1⟩) 1 1)) (T1 ++ [(n1, ⟨el, true, [v]⟩)]) (n1 + 1) (.opL o' dr' L) k2 e2 T2 n2 l2 r2) (hlr' : l2 = r2) (ho' : o'.op = .call { callee := .builtin .append, args := #[x, y], argTypes := #[t', t'] }) (hd' : o'.dst = some d2) (hx' : ev e2 x = .slice (some ⟨id, 0, some 1⟩) len c) (hT : T2[j]? = some (id, ⟨el, true, xs⟩))
    (hu' : P.underlying t' = some (.slice el)) (hy' : ev e2 y = .slice (some ⟨n1, 0, some 1⟩) 1 1) (hT2 : T2[m0]? = some (n1, ⟨el, true, [v]⟩)) (hlen : xs.length = len) (hb : (len + 1) * inf.bytes ≤ 140737488355328) (hml : len + 1 ≤ 9223372036854775807) (hL : AllL S T2 e2 j L)
    (hk : KW P S H0 Q (n2 + 1) ((T2.set j (n2, ⟨el, true, xs ++ [v]⟩)).take m0) k2 (put1 e2 d2 (.slice (some ⟨n2, 0, some 1⟩) (len + 1) (len + 1)))) : KW P S H0 Q n T k e :=
  KW.lit h hlr ho hd hu hi hs hz hz1 hzo [v] (by rw [hp]; rfl) hm (fun u hu => by rw [List.mem_singleton.1 hu]; exact hv) rfl
    (KW.appTL (ys := [v]) (m := 1) j h' hlr' ho' hd' hx' hT hu' hi hs hzo (fun H g => by rw [hy']; exact acells_T (g.blk hT2).1 rfl rfl) hlen (fun u hu => by rw [List.mem_singleton.1 hu]; exact ho1) (by decide) hb hml hL (KW.take m0 hk))
/-- .. to nil: what has been appended stays behind the rest. -/
theorem KW.app0L {o o' : Oper} {dr dr' : Bool} {L : List Tmp} {t el t' : TypeId} {m : Nat} {parts : Array (Nat × Operand)} {inf : TypeInfo} {z : Value} {x y : Operand} {v : Value} (m0 : Nat) (h : Go1 P k e T n (.op o dr) k1 e1 T1 n1 l1 r1) (hlr : l1 = r1) (ho : o.op = .buildSlice t m parts) (hd : o.dst = some d1)
    (hu : P.underlying t = some (.slice el)) (hi : P.info? el = some inf) (hs : inf.size = 1) (hz : inf.zero = some z) (hz1 : z.cells = #[z]) (hzo : zeroOkL P el = true) (hp : (parts.toList.map fun p => (p.1, ev e1 p.2)) = [(0, v)]) (hm : m = 1) (hv : v.cells = #[v]) (ho1 : v.oneCell' = true)
    (h' : Go1 P k1 (put1 e1 d1 (.slice (some ⟨n1, 0, some 1⟩) 1 1)) (T1 ++ [(n1, ⟨el, true, [v]⟩)]) (n1 + 1) (.opL o' dr' L) k2 e2 T2 n2 l2 r2) (hlr' : l2 = r2) (ho' : o'.op = .call { callee := .builtin .append, args := #[x, y], argTypes := #[t', t'] }) (hd' : o'.dst = some d2) (hx' : ev e2 x = .slice none 0 0)
    (hu' : P.underlying t' = some (.slice el)) (hy' : ev e2 y = .slice (some ⟨n1, 0, some 1⟩) 1 1) (hT2 : T2[m0]? = some (n1, ⟨el, true, [v]⟩)) (hb : inf.bytes ≤ 140737488355328) (hL : AllL S T2 e2 T2.length L)
    (hk : KW P S H0 Q (n2 + 1) (T2 ++ [(n2, ⟨el, true, [v]⟩)]) k2 (put1 e2 d2 (.slice (some ⟨n2, 0, some 1⟩) 1 1))) : KW P S H0 Q n T k e :=
  KW.lit h hlr ho hd hu hi hs hz hz1 hzo [v] (by rw [hp]; rfl) hm (fun u hu => by rw [List.mem_singleton.1 hu]; exact hv) rfl
    (KW.appNL (ys := [v]) (m := 1) h' hlr' ho' hd' hx' hu' hi hs hzo (fun H g => by rw [hy']; exact acells_T (g.blk hT2).1 rfl rfl) (fun u hu => by rw [List.mem_singleton.1 hu]; exact ho1) (by decide) (by omega) (by decide) hL hk)
end
end Go.Proofs.Ytmkpfllbmdahkaa.Am
/- Contracts: the best sequence of the reference. Each holds under its own conditions. -/
set_option linter.unusedVariables false
set_option linter.unusedSimpArgs false
set_option maxRecDepth 20000
set_option maxHeartbeats 1000000
namespace Go.Proofs.Ytmkpfllbmdahkaa.Am
open Go Go.RowKit Go.Proofs
theorem built_Best (a : Option Addr) (n c : Nat) : Try.prog.built 171 [(0, .slice a n c)] = some #[.slice a n c, .int .i64 0, .slice none 0 0, .int .i64 0, .bool false] := by kernel_rfl
structure BwS where
  j : Nat
  S : Ids
  A : AH
  a : Option Addr
  c : Nat
structure BwI (gs : List (List Int)) (q : Nat) (SO : Ids) (HO : AH) (lw : Nat) (s : BwS) : Prop where
  le : s.j < 2 ^ q
  old : ∀ i, SO i → s.S i ∧ s.A.m i = HO.m i
  sl : KI.Sl (fun i => lw ≤ i ∧ s.S i) s.A (.slice s.a (numI (bestS gs q s.j).ch).length s.c) (numI (bestS gs q s.j).ch)
section
variable {S : Ids} {H0 : AH}
theorem spec_BestSequence {y : T_Family} {ds : List Value} (hF : B_Family y) (h : K_Family.R S H0 y ds) :
    SpecM Try.prog S H0 67 [.agg ds.toArray] (MkQ3 (r0_BestSequence y) (r1_BestSequence y) (r2_BestSequence y)) := by
  obtain ⟨a3, c3, rfl, h1⟩ := split_Family h
  have s1 := sl1 h1
  obtain ⟨m, gs⟩ := y
  simp only at s1 ⊢
  have hsm : Sml gs := hF.2
  refine SpecM.of1L [11] Try.func67 rfl (by kernel_rfl) (by kernel_rfl) rfl (fun H _ => ?_)
  refine KW.callV1 rfl rfl rfl rfl rfl (fun H1 g _ => l07Family m hsm (g.blk (j := 0) rfl).2 (g.blk (j := 0) rfl).1 s1.up) (fun _ _ => ?_)
  by_cases hc : codeF m gs = 0
  · have hf := codeF_ok hc
    have hm1 := hf.h1
    have hm7 := hf.h2
    obtain ⟨q, hq⟩ : ∃ q : Nat, m = q := ⟨m.toNat, by omega⟩
    have hb : Below' q gs := by have := hf.below; rw [hq] at this; simpa using this
    have h5 : ¬ m > 5 := fun hx => by unfold codeF at hc; rw [if_pos (tv_true hf), if_pos hx] at hc; cases hc
    have h0 := notEmpty hc
    have hp : 2 ^ q ≤ 32 := by
      have := Nat.pow_le_pow_right (n := 2) (by decide) (show q ≤ 5 by omega)
      simpa using this
    have hq0 : 2 ≤ 2 ^ q := by
      have := Nat.pow_le_pow_right (n := 2) (by decide) (show 1 ≤ q by omega)
      simpa using this
    subst hq
    have hqq : ((q : Int), gs).1.toNat = q := by simp
    have e0 : r0_BestSequence ((q : Int), gs) = seqB gs q (bestS gs q (2 ^ q - 1)) := by unfold r0_BestSequence bestQ; rw [if_pos hc, hqq]
    have e1 : r1_BestSequence ((q : Int), gs) = (bestS gs q (2 ^ q - 1)).w := by unfold r1_BestSequence bestQ; rw [if_pos hc, hqq]
    have e2 : r2_BestSequence ((q : Int), gs) = 0 := hc
    have htl := tabO_len gs (2 ^ q)
    rw [e0, e1, e2, hc]
    refine KW.cF rfl rfl (by first | (simp; done) | decide) ?_
    refine KW.callNV1 rfl rfl rfl rfl rfl (fun H1 g _ => l07Open (m := q) (by omega) hsm hb (g.blk (j := 0) rfl).2 (g.blk (j := 0) rfl).1 s1.up) (fun v HO SO mO _ _ hv => ?_)
    obtain ⟨ao, co, rfl, hO⟩ := hv
    refine KW.build rfl rfl rfl rfl rfl (built_Best _ _ _) ?_
    have tO : On (Low H.n) H SO HO := inferInstance
    have hO1 := hO.up (S' := SO) (H' := HO)
    refine KW.ids (fun hlow hvar => ?_)
    refine KW.fact (fun _ g => g.nle (H1 := H)) (fun hnle => ?_)
    refine KW.lpM rfl rfl (fun s : BwS => [(1, .pointer (some ⟨H.n, 0, some 0⟩)), (2, .pointer (some ⟨H.n + 1, 0, some 1⟩)), (6, .pointer (some ⟨HO.n, 0, some 2⟩)), (7, .int .i64 (s.j + 1 : Nat))]) (fun s => s.S) (fun s => s.A) (fun s => [(H.n, ⟨93, true, [.int .i64 q, .slice a3 gs.length c3]⟩), (H.n + 1, ⟨90, true, [.slice none 0 0, .slice none 0 0, .slice none 0 0]⟩), (HO.n, ⟨171, true, [.slice ao (tabO gs (2 ^ q)).length co, .int .i64 (bestS gs q s.j).k, .slice s.a (numI (bestS gs q s.j).ch).length s.c, .int .i64 (bestS gs q s.j).w, .bool (bestS gs q s.j).f]⟩)]) (fun s => BwI gs q SO HO H.n s) (fun s => 2 ^ q - s.j) (⟨0, SO, HO, none, 0⟩) (⟨by simp only; omega, fun i hi => ⟨hi, rfl⟩, .inl ⟨rfl, _, _, rfl, fun _ => rfl⟩⟩) ⟨rfl, rfl, rfl, rfl, trivial⟩ rfl rfl rfl (fun s hi bE n => ?_)
    obtain ⟨j, S3, A3, ac, cc⟩ := s
    obtain ⟨g1, g3, g4⟩ := hi
    simp only at g1 g3 g4
    have okb := bestS_ok (gs := gs) (q := q) j g1
    refine KW.cnd rfl rfl (fun k2 => ?_) (fun k2 => ?_)
    · have k2 : ((j + 1 : Nat) : Int) < ((tabO gs (2 ^ q)).length : Int) := k2
      refine KW.lit rfl rfl rfl rfl rfl rfl rfl rfl rfl rfl [] rfl rfl (fun v hv => by simp at hv) rfl ?_
      refine KW.freeze 2 rfl (fun A2 S2 hn2 hS2 st2 hm2 ho2 hnS2 hlow2 => ?_)
      have t2 : ∀ i, SO i → S2 i ∧ A2.m i = HO.m i := fun i hi => ⟨(st2.st i (g3 i hi).1).1, (st2.st i (g3 i hi).1).2.trans (g3 i hi).2⟩
      have hSO : ¬ SO HO.n := fun hx => hnS2 (g3 _ hx).1
      have hb2 : BSt ao (tabO gs (2 ^ q)).length co (fun i => H.n ≤ i ∧ S2 i ∧ i ≠ HO.n) A2 HO.n (bestS gs q j) := ⟨ac, cc, hm2, g4.stX (fun i hi => ⟨⟨hi.1, (st2.st i hi.2).1, fun e => hnS2 (e ▸ hi.2)⟩, (st2.st i hi.2).2⟩)⟩
      have hk : j + 1 < 2 ^ q := by omega
      have hop2 : Kn.bool.Sl (fun i => S2 i ∧ i ≠ HO.n) A2 (.slice ao (tabO gs (2 ^ q)).length co) (tabO gs (2 ^ q)) := hO1.stX (fun i hi => ⟨⟨(t2 i hi).1, fun e => hSO (e ▸ hi)⟩, (t2 i hi).2⟩)
      have hsid : S2 HO.n := (hS2 _).2 (.inr rfl)
      refine KW.callW (W := fun i => i = HO.n) (fun i hi => by subst hi; exact hsid) rfl rfl rfl rfl rfl (walk (by omega) h0 hk (by omega) (2 ^ q) [] S2 A2 (fun i => H.n ≤ i ∧ S2 i ∧ i ≠ HO.n) (fun i => S2 i ∧ i ≠ HO.n) HO.n (bestS gs q j) _ _ trivial (fun y hy => by simp at hy) (Nat.sub_le _ _) okb hsid (fun i hi => hi.2) (fun i hi => hi) hb2 hop2 (.inl ⟨rfl, _, _, rfl, fun h => by cases h⟩)) (fun v5 H5 S5 hn5 st5 hw5 hb5 => ?_)
      have e5 : tryS gs (bestS gs q j) (j + 1) ([] ++ lng gs (j + 1) q (2 ^ q) (lastB 0 [])) = bestS gs q (j + 1) := rfl
      rw [e5] at hb5
      obtain ⟨ac5, cc5, hm5, hs5⟩ := hb5
      refine KW.thaw HO.n _ (st5 _ hsid).1 hm5 ?_
      have hH : ∀ i, SO i → (S5 i ∧ i ≠ HO.n) ∧ H5.m i = HO.m i := fun i hi => by
        have hne : i ≠ HO.n := fun e => hSO (e ▸ hi)
        exact ⟨⟨(st5 i (t2 i hi).1).1, hne⟩, ((st5 i (t2 i hi).1).2 hne).trans (t2 i hi).2⟩
      refine KW.nxt rfl rfl (fun H' g => ⟨⟨j + 1, _, _, ac5, cc5⟩, ⟨by simp only; omega, hH, hs5.stX (fun i hi => ⟨hi.elim (fun p => ⟨p.1, (st5 i p.2.1).1, p.2.2⟩) (fun p => ⟨by have := p.1; omega, hw5 i p, by have := p.1; omega⟩), rfl⟩)⟩, by first | omega | (simp only; omega), ⟨rfl, rfl, rfl, congrArg (Value.int .i64) (inc64 (by omega)), trivial⟩, g⟩)
    · have k2 : ¬ ((j + 1 : Nat) : Int) < ((tabO gs (2 ^ q)).length : Int) := k2
      obtain rfl : j = 2 ^ q - 1 := by omega
      haveI : Stp SO HO S3 A3 := ⟨g3⟩
      refine KW.fact (fun _ g => g.nle (H1 := H)) (fun hnle2 => ?_)
      have hcl := okb.ch.len okb.lt (Nat.two_pow_pos q)
      have hok := chn_ok.1 okb.ch
      have hoS : Kn.bool.Sl S3 A3 (.slice ao (tabO gs (2 ^ q)).length co) (tabO gs (2 ^ q)) := hO1.stX g3
      have hsS := g4.stX (S' := S3) (H' := A3) (fun i hi => ⟨hi.2, rfl⟩)
      have ekch : ∀ i, i < (bestS gs q (2 ^ q - 1)).ch.length → leastW gs (bestS gs q (2 ^ q - 1)).k (bef (bestS gs q (2 ^ q - 1)).ch i) ((bestS gs q (2 ^ q - 1)).ch.getD i 0) < 2 ^ q := fun i hi => by
        obtain ⟨w, hw⟩ := (hok i hi).2
        have hkk := okb.k
        rw [leastW_eq hw]
        rcases hw with ⟨_, h, _⟩ | ⟨h, _⟩
        · omega
        · cases h
      have hkk := okb.k
      have hlt := okb.lt
      unfold seqB
      generalize bestS gs q (2 ^ q - 1) = B at *
      refine KW.callN1 rfl rfl rfl rfl rfl (withsN (q := q) (by omega) hkk (by omega) hlt hoS hsS) (fun v HW SW mW _ _ hv => ?_)
      obtain ⟨ok, v', rfl, hW⟩ := hv
      rcases hW with ⟨rfl, hall, a6, c6, rfl, hW⟩ | ⟨rfl, ⟨i0, hi0, hni⟩, _⟩
      case inr => exact (hni (hok i0 hi0).2).elim
      refine KW.callN1 rfl rfl rfl rfl rfl (l06Holders (x := B.k) (m := q) (by omega) (by omega)) (fun v HK SK mK _ _ hv => ?_)
      obtain ⟨a7, c7, rfl, hKk⟩ := hv
      refine KW.callN1 rfl rfl rfl rfl rfl (l07Lists (m := q) (xs := numI B.ch) (by omega) (by rw [List.length_map]; omega) (fun x hx => by obtain ⟨z, hz, rfl⟩ := List.mem_map.1 hx; have := hlt z hz; omega) hsS.up) (fun v HL SL mL _ _ hv => ?_)
      obtain ⟨a8, c8, rfl, hL⟩ := hv
      have eL : ((numI B.ch).map fun v => hold v.toNat q) = grpsQ q B.ch := by
        rw [List.map_map]
        exact List.map_congr_left fun z hz => by show hold ((z : Nat) : Int).toNat q = _; rw [Int.toNat_natCast]
      rw [eL] at hL ⊢
      refine KW.callN1 rfl rfl rfl rfl rfl (l07Lists (m := q) (by omega) (by simp [lwI]; omega) (fun x hx => by obtain ⟨i, hi, rfl⟩ := List.mem_map.1 hx; have := ekch i (List.mem_range.1 hi); omega) hW.ups) (fun v HM SM mM _ _ hv => ?_)
      obtain ⟨a9, c9, rfl, hM⟩ := hv
      have eM : ((lwI gs B.k B.ch B.ch.length).map fun v => hold v.toNat q) = withs gs B.k B.ch B.ch.length := by
        unfold lwI withs withAt
        rw [List.map_map]
        refine List.map_congr_left fun i hi => ?_
        show hold ((leastW _ _ _ _ : Nat) : Int).toNat q = _
        rw [Int.toNat_natCast]
        exact (holdUp (ekch i (List.mem_range.1 hi)) (by omega)).symm
      rw [eM] at hM ⊢
      refine KW.build rfl rfl rfl rfl rfl (built_Seq3 _ _ _ _ _ _ _ _ _) ?_
      refine KW.stZ 1 rfl rfl rfl rfl rfl rfl rfl ⟨.inl ⟨2, _, _, _, _, rfl, rfl, by decide⟩, trivial⟩ ?_
      refine KW.retM1 rfl rfl rfl rfl (fun H1 g => ?_)
      have r1 : KI.Ml (New _ HK.n) H1 _ (hold B.k q) := ml1 (g.keep (ml1' hKk))
      have r2 : KI.ml.Ml (New _ HL.n) H1 _ (grpsQ q B.ch) := ml1 (g.keep (ml1' hL))
      have r3 : KI.ml.Ml (New _ HM.n) H1 _ _ := ml1 (g.keep (ml1' hM))
      refine ⟨_, rfl, mpR (cs := [.slice a7 (hold B.k q).length c7]) (Y := New HK.n H1.n) (ml1' r1) (mpR (cs := [.slice a8 (grpsQ q B.ch).length c8]) (ml1' r2) (ml1' r3) (g.inn (H := HL) (fun _ p => by have := p.1; omega)) (g.inn (H := HM) (fun _ p => by have := p.1; omega)) (fun id p r => by have := p.2; have := r.1; omega)) (g.inn (H := HK) (fun _ p => by have := p.1; omega)) (fun id p => ⟨by have := p.1; omega, p.2⟩) (fun id p r => by have := p.2; have := r.1; omega)⟩
  · have e0 : r0_BestSequence (m, gs) = ([], [], []) := if_neg hc
    have e1 : r1_BestSequence (m, gs) = 0 := if_neg hc
    have e2 : r2_BestSequence (m, gs) = codeF m gs := rfl
    rw [e0, e1, e2]
    refine KW.cT rfl rfl (by simpa using hc) ?_
    refine KW.build rfl rfl rfl rfl rfl (built_Seq0) ?_
    refine KW.retM1 rfl rfl rfl rfl (fun H1 g => ?_)
    exact ⟨_, rfl, seqNil⟩
theorem bound_BestSequence {y : T_Family} (hF : B_Family y) : B_Sequence (r0_BestSequence y) := by
  unfold r0_BestSequence
  split
  · rename_i hc
    have hf := codeF_ok hc
    have h5 : ¬ y.1 > 5 := fun hx => by unfold codeF at hc; rw [if_pos (tv_true hf), if_pos hx] at hc; cases hc
    have hm1 := hf.h1
    have hq : y.1.toNat ≤ 5 := by omega
    have hp : 2 ^ y.1.toNat ≤ 32 := by
      have := Nat.pow_le_pow_right (n := 2) (by decide) hq
      simpa using this
    have okb := bestS_ok (gs := y.2) (q := y.1.toNat) (2 ^ y.1.toNat - 1) (by have := Nat.two_pow_pos y.1.toNat; omega)
    have hcl := okb.ch.len okb.lt (Nat.two_pow_pos _)
    unfold seqB bestQ
    refine ⟨Nat.le_trans (hold_len _ _) (by omega), grps_sml (by omega) (by omega), ?_⟩
    have el : (withs y.2 (bestS y.2 y.1.toNat (2 ^ y.1.toNat - 1)).k (bestS y.2 y.1.toNat (2 ^ y.1.toNat - 1)).ch (bestS y.2 y.1.toNat (2 ^ y.1.toNat - 1)).ch.length).length = (bestS y.2 y.1.toNat (2 ^ y.1.toNat - 1)).ch.length := by simp [withs]
    have h1 := sml_short (xs := withs y.2 (bestS y.2 y.1.toNat (2 ^ y.1.toNat - 1)).k (bestS y.2 y.1.toNat (2 ^ y.1.toNat - 1)).ch (bestS y.2 y.1.toNat (2 ^ y.1.toNat - 1)).ch.length) (fun g hg => by obtain ⟨x, _, rfl⟩ := List.mem_map.1 hg; exact hold_len _ 7)
    exact ⟨by simp only; omega, by simp only; omega⟩
  · exact ⟨by show 0 ≤ _; omega, ⟨by show 0 ≤ _; omega, by show 0 ≤ _; omega⟩, ⟨by show 0 ≤ _; omega, by show 0 ≤ _; omega⟩⟩
end
end Go.Proofs.Ytmkpfllbmdahkaa.Am
/- The law FnExactBestSequence returns true. No condition beyond the reading of the arguments. -/
set_option linter.unusedVariables false
set_option maxRecDepth 20000
set_option maxHeartbeats 4000000
namespace Go.Proofs.Ytmkpfllbmdahkaa.Am
open Go Go.RowKit Go.Proofs
section
variable {S : Ids} {H0 : AH}
theorem lawBestSequence {ar0 : T_Family} {cs0 : List Value} (hW0 : W_Family ar0) (h0 : K_Family.R S H0 ar0 cs0) : Spec Try.prog S H0 11 [.agg cs0.toArray] (fun v => v = .bool true) := by
  obtain ⟨p0_0, q0_0, rfl⟩ := form_Family h0
  refine Spec.of1 Try.func11 rfl (by kernel_rfl) rfl (fun H _ => ?_)
  have A0 : Fk K_Family (Low H.n) (Low H.n) H ar0 _ := ⟨On.R h0, fun _ p => p⟩
  refine KW.call rfl rfl rfl rfl rfl (sz_Family' (left := 1048576) (by decide) (by decide) hW0 A0.all) (fun v n0 _ hv => ?_)
  obtain ⟨r0, rfl, k0⟩ := hv
  refine KW.cnd rfl rfl (fun h => KW.ret rfl rfl rfl rfl rfl) (fun h => ?_)
  have k0 := k0.resolve_left (by omega)
  have hB0 := k0.2.2
  obtain ⟨q0r, eq0r⟩ : ∃ q, r0_BestSequence ar0 = q := ⟨_, rfl⟩
  obtain ⟨q1r, eq1r⟩ : ∃ q, r1_BestSequence ar0 = q := ⟨_, rfl⟩
  obtain ⟨q2r, eq2r⟩ : ∃ q, r2_BestSequence ar0 = q := ⟨_, rfl⟩
  have cspec : ∀ {S1 : Ids} {H1 : AH} {ca0 : List Value} (_ : K_Family.R S1 H1 ar0 ca0), SpecM Try.prog S1 H1 67 [.agg ca0.toArray] (fun n v H2 => ∃ cs, v = .tuple #[.agg cs.toArray, .int .i64 q1r, .int .i64 q2r] ∧ M_Sequence.R (New n H2.n) H2 q0r cs) := by
    subst eq0r; subst eq1r; subst eq2r
    intros
    exact spec_BestSequence hB0 (by assumption)
  have cimpl : ∀ {S1 : Ids} {H1 : AH} {ca0 : List Value} (_ : K_Family.R S1 H1 ar0 ca0), SpecM Try.prog S1 H1 69 [.agg ca0.toArray] (fun n v H2 => ∃ cs, v = .tuple #[.agg cs.toArray, .int .i64 q1r, .int .i64 q2r] ∧ M_Sequence.R (New n H2.n) H2 q0r cs) := by
    subst eq0r; subst eq1r; subst eq2r
    intros
    exact impl_BestSequence hB0 (by assumption)
  have hBr : B_Sequence q0r := by subst eq0r; exact bound_BestSequence hB0
  refine KW.callN1 rfl rfl rfl rfl rfl (to_Family hB0 A0.all) (fun v Hb0 Sb0 mb0 _ _ hv => ?_)
  obtain ⟨wb0, rfl, b0⟩ := hv
  obtain ⟨b0_0, b0c_0, rfl⟩ := formM_Family b0
  refine KW.callN1 rfl rfl rfl rfl rfl (cspec ((le_Family).2 _ _ _ _ (On.R b0))) (fun v Hw Sw mw _ _ hv => ?_)
  obtain ⟨ww, rfl, w⟩ := hv
  obtain ⟨w_0, wc_0, w_1, wc_1, w_2, wc_2, rfl⟩ := formM_Sequence w
  refine KW.callN1 rfl rfl rfl rfl rfl (to_Family hB0 A0.all) (fun v Hx0 Sx0 mx0 _ _ hv => ?_)
  obtain ⟨wx0, rfl, x0⟩ := hv
  obtain ⟨x0_0, x0c_0, rfl⟩ := formM_Family x0
  refine KW.callN1 rfl rfl rfl rfl rfl (cimpl ((le_Family).2 _ _ _ _ (On.R x0))) (fun v Hg Sg mg _ _ hv => ?_)
  obtain ⟨wg, rfl, g⟩ := hv
  obtain ⟨g_0, gc_0, g_1, gc_1, g_2, gc_2, rfl⟩ := formM_Sequence g
  refine KW.callE rfl rfl rfl rfl rfl (eq_Sequence hBr ((le_Sequence).2 _ _ _ _ (On.R g)) ((le_Sequence).2 _ _ _ _ (On.R w))) (fun _ _ => ?_)
  refine KW.tF rfl rfl (by first | (simp; done) | decide) ?_
  refine KW.tF rfl rfl (by first | (simp; done) | decide) ?_
  refine KW.cF rfl rfl (by first | (simp; done) | decide) ?_
  refine KW.callN1 rfl rfl rfl rfl rfl (to_Family hB0 A0.all) (fun v Hy0 Sy0 my0 _ _ hv => ?_)
  obtain ⟨wy0, rfl, y0⟩ := hv
  obtain ⟨y0_0, y0c_0, rfl⟩ := formM_Family y0
  refine KW.callE rfl rfl rfl rfl rfl (eq_Family hB0 ((le_Family).2 _ _ _ _ (On.R x0)) ((le_Family).2 _ _ _ _ (On.R y0))) (fun _ _ => ?_)
  refine KW.cF rfl rfl (by first | (simp; done) | decide) ?_
  have A0 : Fk _ _ Sy0 Hy0 _ _ := A0.up
  have X0 : Fk _ _ Sy0 Hy0 _ _ := Fk.on x0
  have W : Fk _ _ Sy0 Hy0 _ _ := Fk.on w
  have G : Fk _ _ Sy0 Hy0 _ _ := Fk.on g
  have T : St (Low H.n) H Sy0 Hy0 := (inferInstance : On (Low H.n) H Sy0 Hy0).st
  refine KW.callW X0.i rfl rfl rfl rfl rfl (mark_Family hB0 (k := 1) (by have := size_Family hB0;  constructor <;> omega) X0.i X0.r) (fun v Hk0 Sk0 mk0 tk0 _ hv => ?_)
  obtain ⟨rfl, _⟩ := hv
  have A0 := A0.w tk0 (fun id p q => by have : id < H.n := p; have := q.1; have := q.2; omega)
  have W := W.w tk0 (fun id p q => by have := p.1; have := p.2; have := q.1; have := q.2; omega)
  have G := G.w tk0 (fun id p q => by have := p.1; have := p.2; have := q.1; have := q.2; omega)
  have T := tk0.low T (fun id p q => by have := q.1; omega)
  refine KW.tno rfl rfl (by omega) ?_
  refine KW.callE rfl rfl rfl rfl rfl (eq_Sequence hBr ((le_Sequence).2 _ _ _ _ G.all) ((le_Sequence).2 _ _ _ _ W.all)) (fun _ _ => ?_)
  refine KW.tF rfl rfl (by first | (simp; done) | decide) ?_
  refine KW.tF rfl rfl (by first | (simp; done) | decide) ?_
  refine KW.cF rfl rfl (by first | (simp; done) | decide) ?_
  refine KW.callW G.i rfl rfl rfl rfl rfl (mark_Sequence hBr (k := 1) (by have := size_Sequence hBr; constructor <;> omega) G.i G.r) (fun v HM SM mM tM _ hv => ?_)
  obtain ⟨rfl, G1⟩ := hv
  have A0 := A0.w tM (fun id p q => by have : id < H.n := p; have := q.1; have := q.2; omega)
  have W := W.w tM (fun id p q => by have := p.1; have := p.2; have := q.1; have := q.2; omega)
  have T := tM.low T (fun id p q => by have := q.1; omega)
  have G1 : Fk _ _ SM HM _ _ := ⟨G1, fun id p => (tM id (G.i id p)).1⟩
  refine KW.callE rfl rfl rfl rfl rfl (held_Sequence hBr (k := 1) (by have := size_Sequence hBr; constructor <;> omega) ((le_Sequence).2 _ _ _ _ G1.all)) (fun _ _ => ?_)
  refine KW.no rfl rfl (by omega) ?_
  refine KW.cF rfl rfl (by first | (simp; done) | decide) ?_
  refine KW.callN1 rfl rfl rfl rfl rfl (to_Family hB0 A0.all) (fun v Hu0 Su0 mu0 _ _ hv => ?_)
  obtain ⟨wu0, rfl, u0⟩ := hv
  obtain ⟨u0_0, u0c_0, rfl⟩ := formM_Family u0
  refine KW.callN1 rfl rfl rfl rfl rfl (cimpl ((le_Family).2 _ _ _ _ (On.R u0))) (fun v Hh Sh mh _ _ hv => ?_)
  obtain ⟨wh, rfl, h⟩ := hv
  obtain ⟨h_0, hc_0, h_1, hc_1, h_2, hc_2, rfl⟩ := formM_Sequence h
  refine KW.callE rfl rfl rfl rfl rfl (eq_Sequence hBr ((le_Sequence).2 _ _ _ _ (On.R h)) ((le_Sequence).2 _ _ _ _ W.all)) (fun _ _ => ?_)
  refine KW.tF rfl rfl (by first | (simp; done) | decide) ?_
  refine KW.tF rfl rfl (by first | (simp; done) | decide) ?_
  refine KW.cF rfl rfl (by first | (simp; done) | decide) ?_
  refine KW.callE rfl rfl rfl rfl rfl (held_Sequence hBr (k := 1) (by have := size_Sequence hBr; constructor <;> omega) ((le_Sequence).2 _ _ _ _ G1.all)) (fun _ _ => ?_)
  refine KW.no rfl rfl (by omega) ?_
  refine KW.cF rfl rfl (by first | (simp; done) | decide) ?_
  exact KW.retM rfl rfl rfl rfl (fun id hid => (T.trans (inferInstance : On SM HM _ _).st) id hid) (fun H1 g => rfl)
end
end Go.Proofs.Ytmkpfllbmdahkaa.Am
/- A row's closed facts, each by itself. No condition beyond them. -/
namespace Go.Proofs.Ytmkpfllbmdahkaa.Am
open Go
theorem joined_of {P : Program} {f : FuncId} {fn : Func} {s : ChangeSpec} {c : OpenClaim}
    (h0 : (c.wf (OpenSpec.ofChange s)) = true)
    (h1 : (laidOutB P) = true)
    (h2 : (mapsRowed P) = true)
    (h3 : (fn.params.all (P.readableRec ·)) = true)
    (h4 : (namedTie P c.named s.vars) = true)
    (h5 : ((c.stops == [])) = true)
    (h6 : ((P.stops == [])) = true)
    (h7 : ((c.knobs == [])) = true)
    (h8 : ((P.stopKnobs == [])) = true)
    (h9 : ((c.inPlace == P.inPlace f)) = true)
    (h10 : ((c.unfollowed == P.unfollowed f)) = true)
    (h11 : ((c.recurses == P.recurses f)) = true)
    (h12 : ((c.named == P.varsNamed f)) = true)
    (h13 : ((c.maps == (fn.params.toList ++ s.plain.varTypes P).any (P.mapsRec ·))) = true)
    (h14 : ((c.ifaces == (fn.params.toList ++ s.plain.varTypes P).any (P.ifacesRec ·))) = true)
    (h15 : ((c.mapsOut == P.mapsAmong fn.resultTypes.toList)) = true)
    (h16 : ((c.loops == (fn.params.toList ++ s.plain.varTypes P).any (P.loopsFrom ·))) = true)
    (h17 : ((c.wideKeys == (fn.params.toList ++ s.plain.varTypes P ++ fn.resultTypes.toList).any (P.wideKeysFrom ·))) = true)
    (h18 : (s.vars.all (P.varReadable ·)) = true)
    (h19 : (fn.resultTypes.all (fun t => P.readableRec t && decide (t < P.types.size))) = true)
    (h20 : ((c.ifacesOut == fn.resultTypes.toList.any (P.ifacesRec ·))) = true)
    (h21 : ((c.loopsOut == fn.resultTypes.toList.any (P.loopsFrom ·))) = true)
    (h22 : ((c.plainKeys == P.plainKeys)) = true)
    (h23 : (c.shortTexts.isNone) = true)
    (h24 : (P.stopsHeard) = true)
    (h25 : (P.mayEnter) = true)
    (h26 : ((c.lifted == P.liftsFinal)) = true)
    (h27 : ((P.make == some c.make)) = true)
    (h28 : ((c.kinds == (if c.domain.isEmpty then [] else fn.params.toList.map fun t => match P.underlying t with | some (.int k) => some k | _ => none))) = true)
    (h29 : ((c.pinned == c.pinnedBy)) = true)
    (h30 : ((c.veiled == (fn.params.toList ++ s.plain.varTypes P ++ fn.resultTypes.toList).any (P.veiledRec ·))) = true)
    (h31 : (c.veiledFits P fn.params.toList (fn.params.toList ++ s.plain.varTypes P ++ fn.resultTypes.toList)) = true)
    : joinedFacts P f fn s c = true := by
  unfold joinedFacts
  simp only [Bool.and_eq_true]
  exact ⟨⟨⟨⟨⟨⟨⟨⟨⟨⟨⟨⟨⟨⟨⟨⟨⟨⟨⟨⟨⟨⟨⟨⟨⟨⟨⟨⟨⟨⟨⟨h0, h1⟩, h2⟩, h3⟩, h4⟩, h5⟩, h6⟩, h7⟩, h8⟩, h9⟩, h10⟩, h11⟩, h12⟩, h13⟩, h14⟩, h15⟩, h16⟩, h17⟩, h18⟩, h19⟩, h20⟩, h21⟩, h22⟩, h23⟩, h24⟩, h25⟩, h26⟩, h27⟩, h28⟩, h29⟩, h30⟩, h31⟩
end Go.Proofs.Ytmkpfllbmdahkaa.Am
