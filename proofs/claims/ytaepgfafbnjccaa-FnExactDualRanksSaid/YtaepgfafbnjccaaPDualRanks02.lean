/- Contracts and laws on abstract memory, merged. Each holds under its own conditions. -/
import Derived.Test.YtaepgfafbnjccaaPDualRanks01
/- Dual ranks, plain: they are ranks if none is too great. No condition beyond each lemma's own. -/
set_option linter.unusedVariables false
namespace Go.Proofs.Ytaepgfafbnjccaa.Am
open Go Go.RowKit
def dif (a b : Nat) : Nat := a ^^^ (a &&& b)
theorem dif_bit (a b i : Nat) : (dif a b).testBit i = (a.testBit i && !b.testBit i) := by
  unfold dif
  rw [Nat.testBit_xor, Nat.testBit_and]
  cases a.testBit i <;> cases b.testBit i <;> rfl
theorem dif_lt {a b m : Nat} (ha : a < 2 ^ m) : dif a b < 2 ^ m := by
  refine Nat.lt_pow_two_of_testBit _ fun i hi => ?_
  rw [dif_bit, Nat.testBit_lt_two_pow (Nat.lt_of_lt_of_le ha (Nat.pow_le_pow_right (by decide) hi))]; rfl
theorem dif_or (A a b : Nat) : dif A (a ||| b) = dif A a &&& dif A b := by
  apply Nat.eq_of_testBit_eq; intro i
  rw [Nat.testBit_and, dif_bit, dif_bit, dif_bit, Nat.testBit_or]
  cases A.testBit i <;> cases a.testBit i <;> cases b.testBit i <;> rfl
theorem dif_and (A a b : Nat) : dif A (a &&& b) = dif A a ||| dif A b := by
  apply Nat.eq_of_testBit_eq; intro i
  rw [Nat.testBit_or, dif_bit, dif_bit, dif_bit, Nat.testBit_and]
  cases A.testBit i <;> cases a.testBit i <;> cases b.testBit i <;> rfl
theorem dif_zero (A : Nat) : dif A 0 = A := by
  apply Nat.eq_of_testBit_eq; intro i
  rw [dif_bit]; simp
/-- The sum of the single ranks of the holders below n in a set. -/
def sumH (l : List Int) (c : Nat) : Nat → Int
  | 0 => 0
  | n + 1 => sumH l c n + (if c.testBit n = true then l.getD (2 ^ n) 0 else 0)
theorem sumH_mod (l : List Int) (a b : Nat) : ∀ n, sumH l a n + sumH l b n = sumH l (a ||| b) n + sumH l (a &&& b) n
  | 0 => rfl
  | n + 1 => by
    have h := sumH_mod l a b n
    simp only [sumH, Nat.testBit_or, Nat.testBit_and]
    cases a.testBit n <;> cases b.testBit n <;> simp <;> omega
theorem sumH_zero (l : List Int) : ∀ n, sumH l 0 n = 0
  | 0 => rfl
  | n + 1 => by simp only [sumH, sumH_zero l n, Nat.zero_testBit]; rfl
section
variable {l : List Int} {m : Nat}
theorem getD_nonneg (hw : Within l) (i : Nat) : 0 ≤ l.getD i 0 := by
  rcases Nat.lt_or_ge i l.length with h | h
  · exact (hw i h).1
  · rw [List.getD_eq_getElem?_getD, List.getElem?_eq_none h]; exact Int.le_refl _
theorem meets_at (hM : Meets l) {a b : Nat} (ha : a < l.length) (hb : b < l.length) : l.getD (a ||| b) 0 + l.getD (a &&& b) 0 ≤ l.getD a 0 + l.getD b 0 := by
  have := hM a ha b hb
  unfold Bad at this
  omega
/-- Added holders raise a rank by no more than their own. -/
theorem rank_add (hl : l.length = 2 ^ m) (hw : Within l) (hM : Meets l) {z c : Nat} (hz : z < 2 ^ m) (hc : c < 2 ^ m) : ∀ n, n ≤ m → l.getD (z ||| c % 2 ^ n) 0 ≤ l.getD z 0 + sumH l c n
  | 0, _ => by
    have : c % 2 ^ 0 = 0 := by rw [Nat.pow_zero]; exact Nat.mod_one c
    rw [this, Nat.or_zero]; simp [sumH]
  | n + 1, hn => by
    have ih := rank_add hl hw hM hz hc n (by omega)
    have hlt : c % 2 ^ n < 2 ^ m := Nat.lt_of_le_of_lt (Nat.mod_le _ _) hc
    have hpn : 2 ^ n < 2 ^ m := Nat.pow_lt_pow_right (by decide) (by omega)
    by_cases hb : c.testBit n = true
    · have e : z ||| c % 2 ^ (n + 1) = (z ||| c % 2 ^ n) ||| 2 ^ n := by
        apply Nat.eq_of_testBit_eq; intro i
        rw [Nat.testBit_or, Nat.testBit_or, Nat.testBit_or, Nat.testBit_mod_two_pow, Nat.testBit_mod_two_pow, Nat.testBit_two_pow]
        by_cases h1 : n = i
        · subst h1; simp [hb]
        · by_cases h2 : i < n
          · have : i < n + 1 := by omega
            simp [h2, this, h1]
          · have : ¬ i < n + 1 := by omega
            simp [h2, this, h1]
      have h1 := meets_at hM (a := z ||| c % 2 ^ n) (b := 2 ^ n) (by rw [hl]; exact Nat.or_lt_two_pow hz hlt) (by rw [hl]; exact hpn)
      have h2 := getD_nonneg hw ((z ||| c % 2 ^ n) &&& 2 ^ n)
      rw [e]
      simp only [sumH, if_pos hb]
      omega
    · have e : c % 2 ^ (n + 1) = c % 2 ^ n := by
        apply Nat.eq_of_testBit_eq; intro i
        rw [Nat.testBit_mod_two_pow, Nat.testBit_mod_two_pow]
        by_cases h1 : n = i
        · subst h1; simp at hb; simp [hb]
        · by_cases h2 : i < n
          · have : i < n + 1 := by omega
            simp [h2, this]
          · have : ¬ i < n + 1 := by omega
            simp [h2, this]
      rw [e]
      simp only [sumH, if_neg hb]
      omega
theorem opens_up {gs : List (List Int)} {a b : Nat} (h : Opens gs a) (hab : a &&& b = a) : Opens gs b := by
  obtain ⟨g, hg, h1⟩ := h
  refine ⟨g, hg, ?_⟩
  apply Nat.eq_of_testBit_eq; intro i
  have h2 := congrArg (fun x => x.testBit i) h1
  have h3 := congrArg (fun x => x.testBit i) hab
  simp only [Nat.testBit_and] at h2 h3 ⊢
  revert h2 h3
  cases a.testBit i <;> cases b.testBit i <;> cases (bitsOf g).testBit i <;> simp
end
/-- What the unit adds for a set that does not open. -/
noncomputable def uO (u : Int) (gs : List (List Int)) (x : Nat) : Int := if tv (Opens gs x) = true then 0 else u
noncomputable def dualAt (l : List Int) (u : Int) (gs : List (List Int)) (m c : Nat) : Int := l.getD (dif (2 ^ m - 1) c) 0 - l.getD (2 ^ m - 1) 0 + sumH l c m + uO u gs (dif (2 ^ m - 1) c)
noncomputable def dualL (l : List Int) (u : Int) (gs : List (List Int)) (m n : Nat) : List Int := (List.range n).map (dualAt l u gs m)
theorem dualL_len (l : List Int) (u : Int) (gs : List (List Int)) (m n : Nat) : (dualL l u gs m n).length = n := by simp [dualL]
theorem dualL_at {l : List Int} {u : Int} {gs : List (List Int)} {m n i : Nat} (h : i < n) : (dualL l u gs m n).getD i 0 = dualAt l u gs m i := by
  rw [List.getD_eq_getElem?_getD]
  simp [dualL, h]
section
variable {l : List Int} {u : Int} {gs : List (List Int)} {m : Nat}
theorem uO_mono {a b : Nat} (hu : 0 ≤ u) (hab : a &&& b = a) : uO u gs b ≤ uO u gs a := by
  unfold uO
  by_cases ha : Opens gs a
  · rw [tv_true ha, tv_true (opens_up ha hab)]; exact Int.le_refl _
  · rw [tv_false ha]
    by_cases hb : Opens gs b
    · rw [tv_true hb]; simpa using hu
    · rw [tv_false hb]; exact Int.le_refl _
theorem dual_mono (hl : l.length = 2 ^ m) (hw : Within l) (hM : Meets l) (hu : 0 ≤ u) {a b : Nat} (ha : a < 2 ^ m) (hb : b < 2 ^ m) (hab : a &&& b = a) : dualAt l u gs m a ≤ dualAt l u gs m b := by
  have hA : 2 ^ m - 1 < 2 ^ m := by have := Nat.two_pow_pos m; omega
  have full : ∀ i, (2 ^ m - 1).testBit i = decide (i < m) := fun i => Nat.testBit_two_pow_sub_one m i
  -- what stands outside a is what stands outside b, with d = b without a
  have e1 : dif (2 ^ m - 1) b ||| dif b a % 2 ^ m = dif (2 ^ m - 1) a := by
    have hd : dif b a % 2 ^ m = dif b a := Nat.mod_eq_of_lt (dif_lt hb)
    rw [hd]
    apply Nat.eq_of_testBit_eq; intro i
    have h3 := congrArg (fun x => x.testBit i) hab
    have h4 : i ≥ m → b.testBit i = false := fun hi => Nat.testBit_lt_two_pow (Nat.lt_of_lt_of_le hb (Nat.pow_le_pow_right (by decide) hi))
    simp only [Nat.testBit_and, Nat.testBit_or, dif_bit, full] at h3 ⊢
    by_cases hi : i < m
    · revert h3
      cases a.testBit i <;> cases b.testBit i <;> simp [hi]
    · rw [h4 (by omega)] at h3 ⊢
      revert h3
      cases a.testBit i <;> simp [hi]
  have h1 := rank_add hl hw hM (z := dif (2 ^ m - 1) b) (c := dif b a) (dif_lt hA) (dif_lt hb) m (Nat.le_refl _)
  rw [e1] at h1
  -- the single ranks
  have e2 : sumH l a m + sumH l (dif b a) m = sumH l b m := by
    have h := sumH_mod l a (dif b a) m
    have e3 : a ||| dif b a = b := by
      apply Nat.eq_of_testBit_eq; intro i
      have h3 := congrArg (fun x => x.testBit i) hab
      simp only [Nat.testBit_and, Nat.testBit_or, dif_bit] at h3 ⊢
      revert h3
      cases a.testBit i <;> cases b.testBit i <;> simp
    have e4 : a &&& dif b a = 0 := by
      apply Nat.eq_of_testBit_eq; intro i
      simp only [Nat.testBit_and, dif_bit, Nat.zero_testBit]
      cases a.testBit i <;> cases b.testBit i <;> rfl
    rw [e3, e4, sumH_zero] at h
    omega
  have h2 := uO_mono (gs := gs) hu (a := dif (2 ^ m - 1) b) (b := dif (2 ^ m - 1) a) (by
    apply Nat.eq_of_testBit_eq; intro i
    have h3 := congrArg (fun x => x.testBit i) hab
    simp only [Nat.testBit_and, dif_bit] at h3 ⊢
    revert h3
    cases a.testBit i <;> cases b.testBit i <;> cases (2 ^ m - 1).testBit i <;> simp)
  unfold dualAt
  omega
theorem dual_meets (hl : l.length = 2 ^ m) (hM : Meets l) (hu : 0 ≤ u) (hfit : ∀ a, a < l.length → ∀ b, b < l.length → ¬ Mis l u gs a b) {a b : Nat} (ha : a < 2 ^ m) (hb : b < 2 ^ m) :
    dualAt l u gs m (a ||| b) + dualAt l u gs m (a &&& b) ≤ dualAt l u gs m a + dualAt l u gs m b := by
  have hA : 2 ^ m - 1 < 2 ^ m := by have := Nat.two_pow_pos m; omega
  unfold dualAt
  rw [dif_or, dif_and]
  have hs := sumH_mod l a b m
  have hX : dif (2 ^ m - 1) a < l.length := by rw [hl]; exact dif_lt hA
  have hY : dif (2 ^ m - 1) b < l.length := by rw [hl]; exact dif_lt hA
  generalize dif (2 ^ m - 1) a = X at *
  generalize dif (2 ^ m - 1) b = Y at *
  have h1 := meets_at hM hX hY
  have m1 := uO_mono (gs := gs) hu (a := X &&& Y) (b := X) (by apply Nat.eq_of_testBit_eq; intro i; simp only [Nat.testBit_and]; cases X.testBit i <;> cases Y.testBit i <;> rfl)
  have m2 := uO_mono (gs := gs) hu (a := X) (b := X ||| Y) (by apply Nat.eq_of_testBit_eq; intro i; simp only [Nat.testBit_and, Nat.testBit_or]; cases X.testBit i <;> cases Y.testBit i <;> rfl)
  have m3 := uO_mono (gs := gs) hu (a := X &&& Y) (b := Y) (by apply Nat.eq_of_testBit_eq; intro i; simp only [Nat.testBit_and]; cases X.testBit i <;> cases Y.testBit i <;> rfl)
  have m4 := uO_mono (gs := gs) hu (a := Y) (b := X ||| Y) (by apply Nat.eq_of_testBit_eq; intro i; simp only [Nat.testBit_and, Nat.testBit_or]; cases X.testBit i <;> cases Y.testBit i <;> rfl)
  have v : ∀ z, (uO u gs z = 0 ∧ Opens gs z) ∨ (uO u gs z = u ∧ ¬ Opens gs z) := fun z => by
    unfold uO
    by_cases hz : Opens gs z
    · rw [tv_true hz]; exact .inl ⟨rfl, hz⟩
    · rw [tv_false hz]; exact .inr ⟨rfl, hz⟩
  have hf := hfit X hX Y hY
  rcases v X with ⟨x1, x2⟩ | ⟨x1, x2⟩ <;> rcases v Y with ⟨y1, y2⟩ | ⟨y1, y2⟩ <;> rcases v (X &&& Y) with ⟨z1, z2⟩ | ⟨z1, z2⟩ <;> first
    | omega
    | (have : ¬ (l.getD X 0 + l.getD Y 0 < l.getD (X ||| Y) 0 + l.getD (X &&& Y) 0 + u) := fun hc => hf (.inr ⟨x2, y2, z2, hc⟩)
       omega)
/-- Dual ranks are ranks if none is too great. -/
theorem dual_ok (hr : OkR m u l) (hop : Opens gs (2 ^ m - 1)) (hfit : ∀ a, a < l.length → ∀ b, b < l.length → ¬ Mis l u gs a b) : OkR m u (dualL l u gs m (2 ^ m)) ↔ ∀ x ∈ dualL l u gs m (2 ^ m), x ≤ 100000 := by
  obtain ⟨h1, h2, h3, h4, h5, h6⟩ := hr
  have h3 : l.length = 2 ^ m := by simpa using h3
  have hpos := Nat.two_pow_pos m
  have len := dualL_len l u gs m (2 ^ m)
  have z0 : dualAt l u gs m 0 = 0 := by
    unfold dualAt uO
    rw [dif_zero, sumH_zero, tv_true hop]; simp
  have mono := fun {a b : Nat} (ha : a < 2 ^ m) (hb : b < 2 ^ m) (hab : a &&& b = a) => dual_mono (gs := gs) h3 h5 h6 (by omega : 0 ≤ u) ha hb hab
  constructor
  · intro h x hx
    obtain ⟨i, hi⟩ := List.getElem?_of_mem hx
    have hil := (List.getElem?_eq_some_iff.1 hi).1
    have := (h.2.2.2.2.1 i hil).2
    rw [getD_of hi] at this
    exact this
  · intro h
    refine ⟨h1, h2, by simpa using len, by rw [dualL_at hpos, z0], fun i hi => ?_, fun a ha b hb hbad => ?_⟩
    · rw [len] at hi
      have h7 := mono hpos hi (Nat.zero_and i)
      rw [z0] at h7
      rw [dualL_at hi]
      refine ⟨h7, h _ ?_⟩
      rw [← dualL_at (l := l) (u := u) (gs := gs) (m := m) hi, List.getD_eq_getElem?_getD, List.getElem?_eq_getElem (by omega)]
      exact List.getElem_mem _
    · rw [len] at ha hb
      have hab := Nat.or_lt_two_pow ha hb
      have hcd := Nat.and_lt_two_pow a hb
      unfold Bad at hbad
      rw [dualL_at ha, dualL_at hb, dualL_at hab, dualL_at hcd] at hbad
      have h7 := dual_meets h3 h6 (by omega : 0 ≤ u) hfit ha hb
      rcases hbad with ⟨h8, h9⟩ | h8
      · have := mono ha hb h8; omega
      · omega
end
end Go.Proofs.Ytaepgfafbnjccaa.Am
/- Contracts: marks on rows of numbers, and what has been held. Each holds under its own conditions. -/
set_option linter.unusedVariables false
set_option maxRecDepth 20000
namespace Go.Proofs.Ytaepgfafbnjccaa.Am
open Go Go.RowKit Go.Proofs
/-- k, k + 1, .. -/
def cnt (k : Int) (n : Nat) : List Int := (List.range n).map fun (i : Nat) => k + (i : Int)
theorem cnt_len (k : Int) (n : Nat) : (cnt k n).length = n := by simp [cnt]
theorem cnt_at {k : Int} {n i : Nat} (h : i < n) : (cnt k n)[i]? = some (k + i) := by
  unfold cnt
  rw [List.getElem?_map, List.getElem?_range h]
  rfl
theorem Good.nle1 {m o n : Nat} {b : Blk} {j : Nat} {H0 H1 : AH} {T : List Var} (g : Good (fun i => Low m i ∧ i ≠ o) H0 T n H1) (hT : T[j]? = some (o, b)) : m ≤ H1.n := by
  have h1 := (g.blk hT).2
  have hn := g.n_
  rcases Nat.eq_zero_or_pos m with h | h
  · omega
  · by_cases e : m - 1 = o
    · omega
    · have := (g.froz (m - 1) ⟨by show m - 1 < m; omega, e⟩).1
      omega
section
variable {S : Ids} {H0 : AH}
theorem markInt64S {W : Ids} {a c} {xs : List Int} {k : Int} (hl : xs.length ≤ 4194304) (hk : 0 ≤ k ∧ k ≤ 1099511627776) (hW : ∀ id, W id → S id) (hs : KI.Ml W H0 (.slice a xs.length c) xs) :
    SpecW Try.prog S H0 W 33 [.slice a xs.length c, .int .i64 k] (fun n v H1 => v = .int .i64 (k + xs.length) ∧ KI.Ml W H1 (.slice a xs.length c) (cnt k xs.length)) := by
  rcases hs with ⟨rfl, a0, c0, he, ha⟩ | ⟨o, c1, bb, Ws, he, h2, h3, h4, h5, h6, h7, h8, h9⟩
  · refine SpecM.w ?_
    refine SpecM.of Try.func33 rfl (by kernel_rfl) rfl (fun H hfin hfz => ?_)
    refine KW.lp rfl rfl (fun _ : Unit => [(0, .slice a 0 c), (1, .int .i64 k), (5, .int .i64 0)]) (fun _ => True) (fun _ => 0) () trivial ⟨rfl, rfl, rfl, trivial⟩ (fun _ _ b n => ?_)
    refine KW.cnd rfl rfl (fun h => absurd h (by decide)) (fun _ => ?_)
    exact KW.retM rfl rfl rfl rfl (fun id hid => ⟨hid, rfl⟩) (fun H1 g => ⟨congrArg (Value.int .i64) (by simp), .inl ⟨rfl, a, c, rfl, by cases he; exact ha⟩⟩)
  · cases he
    obtain ⟨ty, rw, cells⟩ := bb
    obtain rfl : rw = true := h5
    have h6 : xs.length * 1 ≤ cells.length := h6
    refine SpecW.of Try.func33 rfl (by kernel_rfl) rfl (hW o h3) h4 (fun H hfin hfz => ?_)
    refine KW.lpM rfl rfl (fun s : Nat × List Value => [(0, .slice (some ⟨o, 0, some 1⟩) xs.length c), (1, .int .i64 (k + s.1)), (5, .int .i64 s.1)]) (fun _ => fun i => Low H.n i ∧ i ≠ o) (fun _ => H) (fun s => [(o, ⟨_, true, s.2⟩)]) (fun s => s.1 ≤ xs.length ∧ s.2.length = cells.length ∧ ∀ j, j < s.1 → s.2[j]? = some (.int .i64 (k + j))) (fun s => xs.length - s.1) (0, cells) ⟨by omega, rfl, fun j h => absurd h (by simp)⟩ ⟨rfl, congrArg (Value.int .i64) (by simp), rfl, trivial⟩ rfl rfl rfl (fun s hi b n => ?_)
    obtain ⟨i, cs⟩ := s
    obtain ⟨hi0, hi1, hi2⟩ := hi
    simp only at hi0 hi1 hi2
    refine KW.cnd rfl rfl (fun h => ?_) (fun h => ?_)
    · refine KW.idx0 rfl rfl rfl rfl rfl rfl rfl rfl rfl (by omega) h ?_
      refine KW.st1 0 rfl rfl rfl rfl rfl rfl rfl rfl rfl rfl rfl rfl (by simp only; omega) ?_
      refine KW.nxt rfl rfl (fun H' g => ⟨(i + 1, cs.set (0 + i * 1) (.int .i64 (k + i))), ⟨by simp only; omega, by simp [hi1], upto (fun j hj => ?_) ?_⟩, by simp only; omega, ⟨rfl, congrArg (Value.int .i64) (by rw [wr (by omega) (by omega)]; simp only; omega), congrArg (Value.int .i64) (inc64 (by omega)), trivial⟩, g⟩)
      · rw [Nat.zero_add, Nat.mul_one, List.getElem?_set_ne (by omega)]; exact hi2 j hj
      · rw [Nat.zero_add, Nat.mul_one, List.getElem?_set_self (by omega)]
    · obtain rfl : i = xs.length := by omega
      refine KW.retW rfl rfl rfl rfl (fun H1 g => g.nle1 (j := 0) rfl) (fun id hid hw => ⟨⟨hid, fun e => hw (by subst e; exact h3)⟩, rfl⟩) (fun H1 g => ⟨rfl, ?_⟩)
      have hb := g.blk (j := 0) rfl
      refine .inr ⟨o, c, _, fun _ _ => False, by rw [cnt_len], by rw [cnt_len]; exact h2, h3, hb.1, rfl, by rw [cnt_len]; simp only [Kn.int]; omega, fun _ _ h => h.elim, fun _ _ _ h => h.elim, fun j x hx => ?_⟩
      have hj : j < xs.length := by have := (List.getElem?_eq_some_iff.1 hx).1; rw [cnt_len] at this; exact this
      rw [cnt_at hj] at hx
      cases hx
      show ((cs.drop (0 + j * 1)).take 1) = [_]
      rw [List.take_one, Nat.zero_add, Nat.mul_one, List.head?_drop, hi2 j hj]
      rfl
theorem heldInt64S {a c} {n : Nat} {k : Int} (hl : n ≤ 4194304) (hk : 0 ≤ k ∧ k ≤ 1099511627776) (hs : KI.Sl S H0 (.slice a (cnt k n).length c) (cnt k n)) :
    Spec Try.prog S H0 34 [.slice a (cnt k n).length c, .int .i64 k] (fun v => v = .int .i64 (k + n)) := by
  refine Spec.of Try.func34 rfl (by kernel_rfl) rfl (fun H hfin hfz => ?_)
  have hs := hs.to hfz
  have hn := cnt_len k n
  refine KW.lp rfl rfl (fun i : Nat => [(0, .slice a (cnt k n).length c), (1, .int .i64 (k + i)), (5, .int .i64 i)]) (fun i => i ≤ n) (fun i => n - i) 0 (by omega) ⟨rfl, congrArg (Value.int .i64) (by simp), rfl, trivial⟩ (fun i hi b m => ?_)
  refine KW.cnd rfl rfl (fun h => ?_) (fun h => KW.ret rfl rfl rfl rfl ?_)
  · refine KW.getI hs rfl rfl rfl rfl rfl rfl rfl rfl rfl rfl rfl rfl rfl rfl rfl rfl (by omega) h (fun y hy => ?_)
    have hy : (cnt k n)[i]? = some y := hy
    rw [cnt_at (by omega)] at hy
    cases hy
    refine KW.cndB rfl rfl (fun h => absurd h (by simp)) (fun _ => ?_)
    exact KW.nxt rfl rfl (fun H' g => ⟨i + 1, by omega, by omega, ⟨rfl, congrArg (Value.int .i64) (by rw [wr (by omega) (by omega)]; omega), congrArg (Value.int .i64) (inc64 (by omega)), trivial⟩, g⟩)
  · obtain rfl : i = n := by omega
    rfl
/-- Rows marked, one behind the other. -/
def cnts (k : Int) : List Nat → List (List Int)
  | [] => []
  | n :: l => cnt k n :: cnts (k + n) l
theorem cnts_len (k : Int) (l : List Nat) : (cnts k l).length = l.length := by
  induction l generalizing k with
  | nil => rfl
  | cons n l ih => simp [cnts, ih]
theorem cnts_at {l : List Nat} {i n : Nat} (k : Int) (h : l[i]? = some n) : (cnts k l)[i]? = some (cnt (k + sum (l.take i)) n) := by
  induction l generalizing i k with
  | nil => simp at h
  | cons m l ih =>
    cases i with
    | zero => cases h; simp [cnts, sum]
    | succ i =>
      have h : l[i]? = some n := by simpa using h
      simp only [cnts, List.getElem?_cons_succ, List.take_succ_cons, sum]
      rw [ih (k + m) h]
      congr 2
      omega
theorem markInt64SS {W : Ids} {a c} {xs : List (List Int)} {k : Int} (hl : xs.length ≤ 4194304) (hx : sum (lens xs) ≤ 4194304) (hk : 0 ≤ k ∧ k ≤ 549755813888) (hW : ∀ id, W id → S id) (hs : KI.ml.Ml W H0 (.slice a xs.length c) xs) :
    SpecW Try.prog S H0 W 47 [.slice a xs.length c, .int .i64 k] (fun n v H1 => v = .int .i64 (k + sum (lens xs)) ∧ KI.ml.Ml W H1 (.slice a xs.length c) (cnts k (lens xs))) := by
  rcases hs with ⟨rfl, a0, c0, he, ha⟩ | ⟨o, c1, bb, Ws, he, h2, h3, h4, h5, h6, h7, h8, h9⟩
  · refine SpecM.w ?_
    refine SpecM.of Try.func47 rfl (by kernel_rfl) rfl (fun H hfin hfz => ?_)
    refine KW.lp rfl rfl (fun _ : Unit => [(0, .slice a 0 c), (1, .int .i64 k), (5, .int .i64 0)]) (fun _ => True) (fun _ => 0) () trivial ⟨rfl, rfl, rfl, trivial⟩ (fun _ _ b n => ?_)
    refine KW.cnd rfl rfl (fun h => absurd h (by decide)) (fun _ => ?_)
    exact KW.retM rfl rfl rfl rfl (fun id hid => ⟨hid, rfl⟩) (fun H1 g => ⟨congrArg (Value.int .i64) (by simp [sum]), .inl ⟨rfl, a, c, rfl, by cases he; exact ha⟩⟩)
  · cases he
    refine SpecW.of0 Try.func47 rfl (by kernel_rfl) rfl (fun H hfin hfz => ?_)
    obtain ⟨ho1, ho2⟩ := hfz o (hW o h3)
    have hWl : ∀ id, W id → id < H.n := fun id hid => (hfz id (hW id hid)).1
    have h4 := ho2.trans h4
    have hes : (KI.ml).es = 1 := rfl
    refine KW.lpM rfl rfl (fun s : Nat × Ids × AH => [(0, .slice (some ⟨o, 0, some 1⟩) xs.length c), (1, .int .i64 (k + sum ((lens xs).take s.1))), (5, .int .i64 s.1)]) (fun s => s.2.1) (fun s => s.2.2) (fun s => [])
      (fun s => s.1 ≤ xs.length ∧ (∀ id, id < H.n → s.2.1 id) ∧ (∀ id, id < H.n → (∀ j, ¬ Ws j id) → s.2.2.m id = H.m id) ∧ (∀ j x, xs[j]? = some x → (s.1 ≤ j → KI.ml.R (Ws j) s.2.2 x ((bb.cells.drop (0 + j * 1)).take 1)) ∧ (j < s.1 → KI.ml.R (Ws j) s.2.2 (cnt (k + sum ((lens xs).take j)) x.length) ((bb.cells.drop (0 + j * 1)).take 1))))
      (fun s => xs.length - s.1) (0, Low H.n, H) ⟨by omega, fun id hid => hid, fun id _ _ => rfl, fun j x hx' => ⟨fun _ => KI.ml.same (fun id hid => (hfz id (hW id (h7 j id hid).1)).2) (h9 j x hx'), fun h => absurd h (by simp)⟩⟩ ⟨rfl, congrArg (Value.int .i64) (by simp [sum]), rfl, trivial⟩ rfl rfl rfl (fun s hi b n => ?_)
    obtain ⟨i, S1, A⟩ := s
    obtain ⟨hi0, hi1, hi2, hi3⟩ := hi
    simp only at hi0 hi1 hi2 hi3
    have hAo : A.m o = some bb := (hi2 o ho1 (fun j hj => (h7 j o hj).2 rfl)).trans h4
    refine KW.cnd rfl rfl (fun h => ?_) (fun h => ?_)
    · have hil : i < xs.length := by omega
      obtain ⟨y, hy⟩ : ∃ y, xs[i]? = some y := ⟨xs[i], List.getElem?_eq_getElem hil⟩
      obtain ⟨sv, hsv, hrow⟩ := (hi3 i y hy).1 (Nat.le_refl _)
      obtain ⟨ay, cy, rfl⟩ := hrow.form
      have hyl : (lens xs)[i]? = some y.length := by simp [hy]
      have hsum := sum_take hyl
      have hsl := sum_le (l := lens xs) (i + 1)
      refine KW.idx0 rfl rfl rfl rfl rfl rfl rfl rfl rfl (by omega) h ?_
      refine KW.ldC (hi1 o ho1) hAo (cell_of hsv) rfl rfl rfl rfl rfl rfl rfl ?_
      refine KW.callW (fun id hid => hi1 id (hWl id (h7 i id hid).1)) rfl rfl rfl rfl rfl (markInt64S (k := k + sum ((lens xs).take i)) (by omega) (by omega) (fun id hid => hi1 id (hWl id (h7 i id hid).1)) hrow) (fun v H1 S' hn st hw hv => ?_)
      obtain ⟨rfl, hv⟩ := hv
      have st1 : ∀ id, id < H.n → S' id ∧ (¬ Ws i id → H1.m id = A.m id) := fun id hid => st id (hi1 id hid)
      refine KW.nxt rfl rfl (fun H' g => ⟨(i + 1, S', H1), ⟨by simp only; omega, fun id hid => (st1 id hid).1, fun id hid hno => ((st1 id hid).2 (hno i)).trans (hi2 id hid hno), fun j x hx' => ?_⟩, by simp only; omega, ⟨rfl, congrArg (Value.int .i64) (by simp only [hsum]; omega), congrArg (Value.int .i64) (inc64 (by omega)), trivial⟩, g⟩)
      simp only
      by_cases e : j = i
      · subst e
        rw [hy] at hx'
        cases hx'
        exact ⟨fun h => absurd h (by omega), fun _ => ⟨_, hsv, hv⟩⟩
      · have hsame : ∀ id, Ws j id → H1.m id = A.m id := fun id hid => (st1 id (hWl id (h7 j id hid).1)).2 (fun hc => e (h8 j i id hid hc))
        exact ⟨fun hj => KI.ml.same hsame ((hi3 j x hx').1 (by omega)), fun hj => KI.ml.same hsame ((hi3 j x hx').2 (by omega))⟩
    · obtain rfl : i = xs.length := by simp only at h; omega
      refine KW.retW rfl rfl rfl rfl (fun H1 g => ?_) (fun id hid hw => ⟨hi1 id hid, hi2 id hid (fun j hj => hw (h7 j id hj).1)⟩) (fun H1 g => ⟨congrArg (Value.int .i64) ?_, ?_⟩)
      · rcases Nat.eq_zero_or_pos H.n with h | h
        · omega
        · have := (g.froz (H.n - 1) (hi1 _ (by omega))).1; have := g.n_; omega
      · show k + ((sum ((lens xs).take xs.length) : Nat) : Int) = _
        rw [List.take_of_length_le (by simp)]
      · have hl2 : (cnts k (lens xs)).length = xs.length := by rw [cnts_len]; simp
        have keep : ∀ id, id < H.n → H1.m id = A.m id := fun id hid => (g.froz id (hi1 id hid)).2
        refine .inr ⟨o, c, bb, Ws, by rw [hl2], by rw [hl2]; exact h2, h3, (keep o ho1).trans hAo, h5, by rw [hl2]; exact h6, h7, h8, fun j x hx' => ?_⟩
        have hj : j < xs.length := by have := (List.getElem?_eq_some_iff.1 hx').1; omega
        obtain ⟨y, hy⟩ : ∃ y, xs[j]? = some y := ⟨xs[j], List.getElem?_eq_getElem hj⟩
        have hyl : (lens xs)[j]? = some y.length := by simp [hy]
        rw [cnts_at k hyl] at hx'
        cases hx'
        exact KI.ml.same (fun id hid => keep id (hWl id (h7 j id hid).1)) ((hi3 j y hy).2 hj)
end
end Go.Proofs.Ytaepgfafbnjccaa.Am
/- Contracts: the reference's table of what opens, and its search for a misfit. Each holds under its own conditions. -/
set_option linter.unusedVariables false
set_option maxRecDepth 20000
namespace Go.Proofs.Ytaepgfafbnjccaa.Am
open Go Go.RowKit Go.Proofs
theorem bool_sl {xs : List Bool} {S : Ids} {H : AH} {id c : Nat} {b : Blk} (hS : S id) (hb : H.m id = some b) (hc : b.cells = xs.map Value.bool) (hl : xs.length ≤ c) : Kn.bool.Sl S H (.slice (some ⟨id, 0, some 1⟩) xs.length c) xs := by
  refine .inr ⟨id, 0, c, b, rfl, hl, hS, hb, by rw [hc]; simp [Kn.bool], fun i x hx => ?_⟩
  obtain ⟨hi, rfl⟩ := List.getElem?_eq_some_iff.1 hx
  show _ = _
  rw [hc]
  show ((xs.map Value.bool).drop (0 + i * 1)).take 1 = _
  rw [List.take_one, Nat.zero_add, Nat.mul_one, List.head?_drop]
  simp [hi]
noncomputable def tabO (gs : List (List Int)) (n : Nat) : List Bool := (List.range n).map fun q => tv (Opens gs q)
theorem tabO_len (gs : List (List Int)) (n : Nat) : (tabO gs n).length = n := by simp [tabO]
theorem tabO_at {gs : List (List Int)} {n q : Nat} (h : q < n) {y : Bool} (hy : (tabO gs n)[q]? = some y) : y = tv (Opens gs q) := by
  unfold tabO at hy
  rw [List.getElem?_map, List.getElem?_range h] at hy
  simpa using hy.symm
theorem tabO_next (gs : List (List Int)) (n : Nat) : tabO gs (n + 1) = tabO gs n ++ [tv (Opens gs n)] := by simp [tabO, List.range_succ]
section
variable {S : Ids} {H0 : AH}
theorem l07Grows {gs : List (List Int)} {n a b : Nat} (hn : n ≤ 256) (ha : a < n) (hb : b < n) {s c} (hs : Kn.bool.Sl S H0 (.slice s (tabO gs n).length c) (tabO gs n)) :
    Spec Try.prog S H0 114 [.slice s (tabO gs n).length c, .int .i64 a, .int .i64 b] (fun v => v = .bool (tv (a &&& b = a ∧ ¬ Opens gs a ∧ Opens gs b))) := by
  refine Spec.of Try.func114 rfl (by kernel_rfl) rfl (fun H hfin hfz => ?_)
  have hs := hs.to hfz
  have hl := tabO_len gs n
  have ea := and_i64 (a := a) (b := b) (by omega) (by omega)
  have no : ¬ (a &&& b = a ∧ ¬ Opens gs a ∧ Opens gs b) → aout [Value.bool false] = .bool (tv (a &&& b = a ∧ ¬ Opens gs a ∧ Opens gs b)) := fun h => by rw [tv_false h]; rfl
  refine KW.tstB rfl rfl (fun h1 => ?_) (fun h1 => ?_)
  · have h1 : a &&& b = a := by rw [ea] at h1; simp at h1; omega
    refine KW.getB hs rfl rfl rfl rfl rfl rfl rfl rfl rfl rfl rfl rfl rfl rfl rfl rfl (by omega) (by omega) (fun y hy => ?_)
    obtain rfl := tabO_at ha hy
    refine KW.tstB rfl rfl (fun h2 => ?_) (fun h2 => ?_)
    · refine KW.getB hs rfl rfl rfl rfl rfl rfl rfl rfl rfl rfl rfl rfl rfl rfl rfl rfl (by omega) (by omega) (fun z hz => ?_)
      obtain rfl := tabO_at hb hz
      refine KW.ret rfl rfl rfl rfl ?_
      show Value.bool (tv _) = _
      congr 1
      exact tv_congr ⟨fun h => ⟨h1, fun hc => (by rw [tv_true hc] at h2; cases h2), h⟩, fun h => h.2.2⟩
    · exact KW.ret rfl rfl rfl rfl (no (fun hc => by rw [tv_false hc.2.1] at h2; cases h2))
  · refine KW.tstB rfl rfl (fun h => absurd h (by decide)) (fun _ => ?_)
    exact KW.ret rfl rfl rfl rfl (no (fun hc => by rw [ea, hc.1] at h1; simp at h1))
theorem l07Parts {gs : List (List Int)} {n a b : Nat} (hn : n ≤ 256) (ha : a < n) (hb : b < n) (hab : a &&& b < n) {s c} (hs : Kn.bool.Sl S H0 (.slice s (tabO gs n).length c) (tabO gs n)) :
    Spec Try.prog S H0 115 [.slice s (tabO gs n).length c, .int .i64 a, .int .i64 b] (fun v => v = .bool (tv (Opens gs a ∧ Opens gs b ∧ ¬ Opens gs (a &&& b)))) := by
  refine Spec.of Try.func115 rfl (by kernel_rfl) rfl (fun H hfin hfz => ?_)
  have hs := hs.to hfz
  have hl := tabO_len gs n
  have ea := and_i64 (a := a) (b := b) (by omega) (by omega)
  have no : ¬ (Opens gs a ∧ Opens gs b ∧ ¬ Opens gs (a &&& b)) → aout [Value.bool false] = .bool (tv (Opens gs a ∧ Opens gs b ∧ ¬ Opens gs (a &&& b))) := fun h => by rw [tv_false h]; rfl
  refine KW.getB hs rfl rfl rfl rfl rfl rfl rfl rfl rfl rfl rfl rfl rfl rfl rfl rfl (by omega) (by omega) (fun y hy => ?_)
  obtain rfl := tabO_at ha hy
  refine KW.tstB rfl rfl (fun h1 => ?_) (fun h1 => ?_)
  · refine KW.getB hs rfl rfl rfl rfl rfl rfl rfl rfl rfl rfl rfl rfl rfl rfl rfl rfl (by omega) (by omega) (fun z hz => ?_)
    obtain rfl := tabO_at hb hz
    refine KW.tstB rfl rfl (fun h2 => ?_) (fun h2 => ?_)
    · refine KW.getB hs rfl rfl rfl rfl rfl rfl rfl rfl rfl rfl rfl rfl rfl rfl rfl rfl (by rw [ea]; omega) (by rw [ea]; omega) (fun w hw => ?_)
      rw [ea] at hw
      obtain rfl := tabO_at hab hw
      refine KW.ret rfl rfl rfl rfl ?_
      show Value.bool (!tv _) = _
      congr 1
      by_cases h : Opens gs (a &&& b)
      · rw [tv_true h, tv_false (fun hc => hc.2.2 h)]; rfl
      · rw [tv_false h, tv_true ⟨tv_iff.1 h1, tv_iff.1 h2, h⟩]; rfl
    · exact KW.ret rfl rfl rfl rfl (no (fun hc => by rw [tv_true hc.2.1] at h2; cases h2))
  · refine KW.tstB rfl rfl (fun h => absurd h (by decide)) (fun _ => ?_)
    exact KW.ret rfl rfl rfl rfl (no (fun hc => by rw [tv_true hc.1] at h1; cases h1))
theorem l07Misfit (u : Int) {m : Nat} (hm : m ≤ 7) (hu : 1 ≤ u ∧ u ≤ 100000) {id : Nat} {ty : TypeId} {rw : Bool} {a0 c0 a1 c1} {l : List Int} {gs : List (List Int)} (hl : l.length = 2 ^ m) (hw : Within l) (hS : S id) (hmm : H0.m id = some ⟨ty, rw, [.int .i64 m, .int .i64 u, .slice a0 l.length c0]⟩)
    (hs : (Kn.int .i64).Sl S H0 (.slice a0 l.length c0) l) (hs' : Kn.bool.Sl S H0 (.slice a1 (tabO gs l.length).length c1) (tabO gs l.length)) :
    Spec Try.prog S H0 73 [.pointer (some ⟨id, 0, none⟩), .slice a1 (tabO gs l.length).length c1] (fun v => ∃ (a b : Nat) (f : Bool), v = .tuple #[.int .i64 a, .int .i64 b, .bool f] ∧ Fst l u gs a b f) := by
  refine Spec.of Try.func73 rfl (by kernel_rfl) rfl (fun H hfin hfz => ?_)
  have hs := hs.to hfz
  have hs' := hs'.to hfz
  have hm := ((hfz id hS).2).trans hmm
  have hS : Low H.n id := (hfz id hS).1
  have h256 := len_le (m := m) (by omega) hl
  have htl := tabO_len gs l.length
  refine KW.lp rfl rfl (fun a : Nat => [(0, .pointer (some ⟨id, 0, none⟩)), (1, .slice a1 (tabO gs l.length).length c1), (7, .int .i64 (tabO gs l.length).length), (8, .int .i64 a)]) (fun a => a ≤ l.length ∧ ∀ a', a' < a → ∀ b', b' < l.length → ¬ Mis l u gs a' b') (fun a => l.length - a) 0 ⟨by omega, fun j h => absurd h (by omega)⟩ ⟨rfl, rfl, rfl, rfl, trivial⟩ (fun a ha e n => ?_)
  obtain ⟨ha0, ha⟩ := ha
  refine KW.cnd rfl rfl (fun h => ?_) (fun h => KW.ret rfl rfl rfl rfl ⟨0, 0, false, rfl, .inr ⟨rfl, rfl, rfl, fun a' ha' => ha a' (by omega)⟩⟩)
  have hal : a < l.length := by omega
  refine KW.lp rfl rfl (fun b : Nat => [(0, .pointer (some ⟨id, 0, none⟩)), (1, .slice a1 (tabO gs l.length).length c1), (7, .int .i64 (tabO gs l.length).length), (8, .int .i64 a), (9, .int .i64 b)]) (fun b => b ≤ l.length ∧ ∀ b', b' < b → ¬ Mis l u gs a b') (fun b => l.length - b) 0 ⟨by omega, fun j h => absurd h (by omega)⟩ ⟨rfl, rfl, rfl, rfl, rfl, trivial⟩ (fun b hb' e n => ?_)
  obtain ⟨hb0, hb'⟩ := hb'
  refine KW.cnd rfl rfl (fun h => ?_) (fun h => ?_)
  · have hbl : b < l.length := by omega
    have eo := or_i64 (a := a) (b := b) (by omega) (by omega)
    have ea := and_i64 (a := a) (b := b) (by omega) (by omega)
    have ho := or_in hl hal hbl
    have hn := and_in (a := a) hl hbl
    have w1 := hw a hal
    have w2 := hw b hbl
    have w3 := hw _ ho
    have w4 := hw _ hn
    have found : Mis l u gs a b → Fst l u gs a b true := fun h => .inl ⟨rfl, hal, hbl, h, ha, hb'⟩
    refine KW.callE rfl rfl rfl rfl rfl (l07Grows (by omega) hal hbl hs') (fun _ _ => ?_)
    refine KW.tstB rfl rfl (fun h1 => ?g1) (fun h1 => ?g2)
    case' g1 =>
      have h1 := tv_iff.1 h1
      refine KW.ldP hS hm rfl rfl rfl rfl rfl rfl ?_
      refine KW.getI hs rfl rfl rfl rfl rfl rfl rfl rfl rfl rfl rfl rfl rfl rfl rfl rfl (by omega) (by omega) (fun x hx => ?_)
      have hx : l.getD b 0 = x := getD_of hx
      refine KW.ldP hS hm rfl rfl rfl rfl rfl rfl ?_
      refine KW.getI hs rfl rfl rfl rfl rfl rfl rfl rfl rfl rfl rfl rfl rfl rfl rfl rfl (by omega) (by omega) (fun y hy => ?_)
      have hy : l.getD a 0 = y := getD_of hy
      refine KW.ldP hS hm rfl rfl rfl rfl rfl rfl ?_
      have e5 : IntKind.i64.wrap (x - y) = x - y := wr (by omega) (by omega)
      refine KW.cnd rfl rfl (fun h2 => KW.ret rfl rfl rfl rfl ⟨a, b, true, rfl, found (.inl ⟨h1.1, h1.2.1, h1.2.2, by rw [e5] at h2; omega⟩)⟩) (fun h2 => ?_)
      have hng : ¬ Grow l u gs a b := fun hc => h2 (by rw [e5]; have := hc.2.2.2; omega)
      clear hx hy h2 h1
    case' g2 =>
      refine KW.cndB rfl rfl (fun h => absurd h (by decide)) (fun _ => ?_)
      have hng : ¬ Grow l u gs a b := fun hc => by rw [tv_true ⟨hc.1, hc.2.1, hc.2.2.1⟩] at h1; cases h1
      clear h1
    all_goals
      refine KW.callE rfl rfl rfl rfl rfl (l07Parts (by omega) hal hbl hn hs') (fun _ _ => ?_)
      refine KW.tstB rfl rfl (fun h1 => ?_) (fun h1 => ?_)
      · have h1 := tv_iff.1 h1
        refine KW.ldP hS hm rfl rfl rfl rfl rfl rfl ?_
        refine KW.getI hs rfl rfl rfl rfl rfl rfl rfl rfl rfl rfl rfl rfl rfl rfl rfl rfl (by omega) (by omega) (fun x hx => ?_)
        have hx : l.getD a 0 = x := getD_of hx
        refine KW.ldP hS hm rfl rfl rfl rfl rfl rfl ?_
        refine KW.getI hs rfl rfl rfl rfl rfl rfl rfl rfl rfl rfl rfl rfl rfl rfl rfl rfl (by omega) (by omega) (fun y hy => ?_)
        have hy : l.getD b 0 = y := getD_of hy
        refine KW.ldP hS hm rfl rfl rfl rfl rfl rfl ?_
        refine KW.getI hs rfl rfl rfl rfl rfl rfl rfl rfl rfl rfl rfl rfl rfl rfl rfl rfl (by rw [eo]; omega) (by rw [eo]; omega) (fun z hz => ?_)
        rw [eo] at hz
        have hz : l.getD (a ||| b) 0 = z := getD_of hz
        refine KW.ldP hS hm rfl rfl rfl rfl rfl rfl ?_
        refine KW.getI hs rfl rfl rfl rfl rfl rfl rfl rfl rfl rfl rfl rfl rfl rfl rfl rfl (by rw [ea]; omega) (by rw [ea]; omega) (fun w hw' => ?_)
        rw [ea] at hw'
        have hw' : l.getD (a &&& b) 0 = w := getD_of hw'
        refine KW.ldP hS hm rfl rfl rfl rfl rfl rfl ?_
        have e5 : IntKind.i64.wrap (x + y) = x + y := wr (by omega) (by omega)
        have e6 : IntKind.i64.wrap (x + y - z) = x + y - z := wr (by omega) (by omega)
        have e7 : IntKind.i64.wrap (x + y - z - w) = x + y - z - w := wr (by omega) (by omega)
        refine KW.cnd rfl rfl (fun h2 => KW.ret rfl rfl rfl rfl ⟨a, b, true, rfl, found (.inr ⟨h1.1, h1.2.1, h1.2.2, by rw [e5, e6, e7] at h2; omega⟩)⟩) (fun h2 => ?_)
        refine KW.nxt rfl rfl (fun H g' => ⟨b + 1, ⟨by omega, upto hb' (fun hc => ?_)⟩, by omega, ⟨rfl, rfl, rfl, rfl, congrArg (Value.int .i64) (inc64 (by omega)), trivial⟩, g'⟩)
        rcases hc with hc | hc
        · exact hng hc
        · exact h2 (by rw [e5, e6, e7]; have := hc.2.2.2; omega)
      · refine KW.cndB rfl rfl (fun h => absurd h (by decide)) (fun _ => ?_)
        refine KW.nxt rfl rfl (fun H g' => ⟨b + 1, ⟨by omega, upto hb' (fun hc => ?_)⟩, by omega, ⟨rfl, rfl, rfl, rfl, congrArg (Value.int .i64) (inc64 (by omega)), trivial⟩, g'⟩)
        rcases hc with hc | hc
        · exact hng hc
        · rw [tv_true ⟨hc.1, hc.2.1, hc.2.2.1⟩] at h1; cases h1
  · exact KW.nxt rfl rfl (fun H g' => ⟨a + 1, ⟨by omega, upto ha (fun b' hb1 => hb' b' (by omega))⟩, by omega, ⟨rfl, rfl, rfl, congrArg (Value.int .i64) (inc64 (by omega)), trivial⟩, g'⟩)
theorem l07Open {m : Nat} (hm : m ≤ 7) {id : Nat} {ty : TypeId} {rw : Bool} {a1 c1} {gs : List (List Int)} (hsm : Sml gs) (hb : Below' m gs) (hS : S id) (hmm : H0.m id = some ⟨ty, rw, [.int .i64 m, .slice a1 gs.length c1]⟩) (hs : (Kn.int .i64).sl.Sl S H0 (.slice a1 gs.length c1) gs) :
    SpecM Try.prog S H0 74 [.pointer (some ⟨id, 0, none⟩)] (fun n v H1 => ∃ a c, v = .slice a (tabO gs (2 ^ m)).length c ∧ Kn.bool.Sl (New n H1.n) H1 (.slice a (tabO gs (2 ^ m)).length c) (tabO gs (2 ^ m))) := by
  refine SpecM.of Try.func74 rfl (by kernel_rfl) rfl (fun H hfin hfz => ?_)
  have hs := hs.to hfz
  have hm2 := ((hfz id hS).2).trans hmm
  have hS2 : Low H.n id := (hfz id hS).1
  have hgl := hsm.len
  have hp := small_pow (m := m) (by omega)
  refine KW.lit rfl rfl rfl rfl rfl rfl rfl rfl rfl rfl [] rfl rfl (fun v hv => by simp at hv) rfl ?_
  refine KW.lpM rfl rfl (fun s : Nat × Nat => [(0, .pointer (some ⟨id, 0, none⟩)), (3, .slice (some ⟨s.2, 0, some 1⟩) s.1 s.1), (4, .int .i64 s.1)]) (fun _ => Low H.n) (fun _ => H) (fun s => [(s.2, ⟨_, true, (tabO gs s.1).map Value.bool⟩)]) (fun s => s.1 ≤ 2 ^ m) (fun s => 2 ^ m - s.1) (0, H.n) (by simp) ⟨rfl, rfl, rfl, trivial⟩ rfl rfl rfl (fun s hi b n => ?_)
  obtain ⟨q, o⟩ := s
  simp only at hi
  refine KW.fact (p := ¬ o < H.n) (fun _ g => (g.vars 0 _ rfl).2.2) (fun ho => ?_)
  refine KW.ldP hS2 hm2 rfl rfl rfl rfl rfl rfl ?_
  refine KW.shlI rfl rfl rfl rfl rfl rfl m (wru (by omega) (by omega)) (by omega) ?_
  refine KW.cnd rfl rfl (fun h => ?_) (fun h => ?_)
  · have hql : q < 2 ^ m := by omega
    refine KW.lp rfl rfl (fun i : Nat => [(0, .pointer (some ⟨id, 0, none⟩)), (3, .slice (some ⟨o, 0, some 1⟩) q q), (4, .int .i64 q), (5, .bool (tv (Opens (gs.take i) q))), (6, .int .i64 i)]) (fun i => i ≤ gs.length) (fun i => gs.length - i) 0 (by omega) ⟨rfl, rfl, rfl, congrArg Value.bool (tv_false (fun ⟨g, hg, _⟩ => by simp at hg)).symm, rfl, trivial⟩ (fun i hi b n => ?_)
    refine KW.ldP hS2 hm2 rfl rfl rfl rfl rfl rfl ?_
    refine KW.cnd rfl rfl (fun h2 => ?_) (fun h2 => ?_)
    · refine KW.ldP hS2 hm2 rfl rfl rfl rfl rfl rfl ?_
      refine KW.getL hs rfl rfl rfl rfl rfl rfl rfl rfl rfl rfl rfl rfl rfl rfl rfl rfl (by omega) h2 (fun g ag cg hg hsg => ?_)
      have hg : gs[i]? = some g := hg
      have hmem := List.mem_of_getElem? hg
      have hbs := below_bits hm hb hmem
      refine KW.callE rfl rfl rfl rfl rfl (l07Bits (m := m) (by omega) (by have := hsm.each g hmem; omega) (hb g hmem) hsg) (fun _ _ => ?_)
      have etake : gs.take (i + 1) = gs.take i ++ [g] := by
        obtain ⟨hi', rfl⟩ := List.getElem?_eq_some_iff.1 hg
        exact List.take_succ_eq_append_getElem hi'
      have eop : Opens (gs.take (i + 1)) q ↔ Opens (gs.take i) q ∨ q &&& bitsOf g = bitsOf g := by
        rw [etake]
        constructor
        · rintro ⟨x, hx, h⟩
          rcases List.mem_append.1 hx with hx | hx
          · exact .inl ⟨x, hx, h⟩
          · obtain rfl : x = g := by simpa using hx
            exact .inr h
        · rintro (⟨x, hx, h⟩ | h)
          · exact ⟨x, List.mem_append_left _ hx, h⟩
          · exact ⟨g, by simp, h⟩
      refine KW.tstB rfl rfl (fun h3 => ?_) (fun h3 => ?_)
      · exact KW.nxt rfl rfl (fun H g' => ⟨i + 1, by omega, by omega, ⟨rfl, rfl, rfl, congrArg Value.bool (tv_true (eop.2 (.inl (tv_iff.1 h3)))).symm, congrArg (Value.int .i64) (inc64 (by omega)), trivial⟩, g'⟩)
      · refine KW.nxt rfl rfl (fun H g' => ⟨i + 1, by omega, by omega, ⟨rfl, rfl, rfl, ?_, congrArg (Value.int .i64) (inc64 (by omega)), trivial⟩, g'⟩)
        show Value.bool (IntKind.i64.wrap ((BitVec.ofInt IntKind.i64.bits ((bitsOf g : Nat) : Int) &&& BitVec.ofInt IntKind.i64.bits (q : Int)).toNat : Int) == ((bitsOf g : Nat) : Int)) = _
        rw [and_i64 (by omega) (by omega), Nat.and_comm]
        congr 1
        by_cases h4 : q &&& bitsOf g = bitsOf g
        · rw [tv_true (eop.2 (.inr h4)), h4]; simp
        · rw [tv_false (fun hc => by rcases eop.1 hc with hc | hc; · rw [tv_true hc] at h3; cases h3
                                     · exact h4 hc)]
          simp; omega
    · have hil : i = gs.length := by omega
      subst hil
      rw [List.take_length]
      refine KW.lit rfl rfl rfl rfl rfl rfl rfl rfl rfl rfl [.bool (tv (Opens gs q))] rfl rfl (fun v hv => by simp at hv; subst hv; rfl) rfl ?_
      refine KW.appT (ys := [.bool (tv (Opens gs q))]) (m := 1) 0 rfl rfl rfl rfl rfl rfl rfl rfl rfl rfl (fun H g => acells_T (g.blk (j := 1) rfl).1 rfl rfl) (by simp [tabO_len]) (fun v hv => by simp at hv; subst hv; rfl) (by decide) (by show (q + 1) * 1 ≤ _; omega) (by omega) ?_
      refine KW.nxt rfl rfl (fun H g' => ⟨(q + 1, _), by simp only; omega, by simp only; omega, ⟨rfl, rfl, congrArg (Value.int .i64) (inc64 (by omega)), trivial⟩, (g'.take 1).eqT ?_⟩)
      rw [tabO_next, List.map_append]
      rfl
  · obtain rfl : q = 2 ^ m := by omega
    refine KW.retM rfl rfl rfl rfl (fun id hid => ⟨hid, rfl⟩) (fun H1 g => ?_)
    have hb := g.blk (j := 0) rfl
    refine ⟨some ⟨o, 0, some 1⟩, 2 ^ m, ?_, bool_sl ⟨by omega, hb.2⟩ hb.1 rfl (by rw [tabO_len]; omega)⟩
    rw [tabO_len]
    rfl
end
end Go.Proofs.Ytaepgfafbnjccaa.Am
/- Contracts: FitsFamily, of the program and of the reference. Each holds under its own conditions. -/
set_option linter.unusedVariables false
set_option maxRecDepth 20000
namespace Go.Proofs.Ytaepgfafbnjccaa.Am
open Go Go.RowKit Go.Proofs
/-- What both return. -/
noncomputable def fitsB (m u : Int) (l : List Int) (h : Int) (gs : List (List Int)) : Bool := if fitC m u l h gs = 0 then tv (∀ a, a < l.length → ∀ b, b < l.length → ¬ Mis l u gs a b) else false
noncomputable def fitsV (m u : Int) (l : List Int) (h : Int) (gs : List (List Int)) : Value := .tuple #[.bool (fitsB m u l h gs), .int .i64 (fitC m u l h gs)]
theorem fits_no {m u : Int} {l : List Int} {h : Int} {gs : List (List Int)} (e : ¬ fitC m u l h gs = 0) : fitsV m u l h gs = .tuple #[.bool false, .int .i64 (fitC m u l h gs)] := by unfold fitsV fitsB; rw [if_neg e]
theorem fits_yes {m u : Int} {l : List Int} {h : Int} {gs : List (List Int)} (e : fitC m u l h gs = 0) : fitsV m u l h gs = .tuple #[.bool (tv (∀ a, a < l.length → ∀ b, b < l.length → ¬ Mis l u gs a b)), .int .i64 0] := by unfold fitsV fitsB; rw [if_pos e, e]
theorem fitC_zero {m u : Int} {l : List Int} {h : Int} {gs : List (List Int)} (e : fitC m u l h gs = 0) : OkR m u l ∧ FamOk h gs ∧ m = h := by
  unfold fitC at e
  by_cases h1 : tv (OkR m u l) = true
  · rw [if_pos h1] at e
    by_cases h2 : codeF h gs = 0
    · rw [if_pos h2] at e
      by_cases h3 : m = h
      · refine ⟨tv_iff.1 h1, ?_, h3⟩
        unfold codeF at h2
        by_cases h4 : tv (FamOk h gs) = true
        · exact tv_iff.1 h4
        · rw [if_neg h4] at h2; omega
      · rw [if_neg h3] at e; omega
    · rw [if_neg h2] at e; omega
  · rw [if_neg h1] at e; omega
theorem Fst.none_ {l : List Int} {u : Int} {gs : List (List Int)} {a b : Nat} {f : Bool} (h : Fst l u gs a b f) : (!f) = tv (∀ a, a < l.length → ∀ b, b < l.length → ¬ Mis l u gs a b) := by
  rcases h with ⟨rfl, h1, h2, h3, _⟩ | ⟨rfl, _, _, h4⟩
  · rw [tv_false (fun hc => hc a h1 b h2 h3)]; rfl
  · rw [tv_true h4]; rfl
section
variable {S : Ids} {H0 : AH}
theorem fitsFamily (m u h : Int) {a c a' c'} {l : List Int} {gs : List (List Int)} (hl : l.length ≤ 1048576) (hsm : Sml gs) (hs : (Kn.int .i64).Sl S H0 (.slice a l.length c) l) (hs' : (Kn.int .i64).sl.Sl S H0 (.slice a' gs.length c') gs) :
    Spec Try.prog S H0 23 [ranksV m u (.slice a l.length c), familyV h (.slice a' gs.length c')] (fun v => v = fitsV m u l h gs) := by
  refine Spec.of Try.func23 rfl (by kernel_rfl) rfl (fun H hfin hfz => ?_)
  have hs := hs.to hfz
  have hs' := hs'.to hfz
  refine KW.callE rfl rfl rfl rfl rfl (fitCode m u h hl hsm hs hs') (fun _ _ => ?_)
  refine KW.cndB rfl rfl (fun h1 => KW.ret rfl rfl rfl rfl ?_) (fun h1 => ?_)
  · have h1 : ¬ fitC m u l h gs = 0 := by simpa using h1
    rw [fits_no h1]; rfl
  have h1 : fitC m u l h gs = 0 := by simpa using h1
  obtain ⟨ho, hf, rfl⟩ := fitC_zero h1
  obtain ⟨q, rfl⟩ : ∃ q : Nat, m = q := ⟨m.toNat, by have := hf.h1; omega⟩
  have hq : q ≤ 7 := by have := hf.h2; omega
  refine KW.call rfl rfl rfl rfl rfl (misfit u hq ho.2.1 (by simpa using ho.2.2.1) ho.2.2.2.2.1 hsm (by simpa using hf.below) hs hs') (fun v n' _ hv => ?_)
  obtain ⟨x, y, f, rfl, hv⟩ := hv
  refine KW.ret rfl rfl rfl rfl ?_
  rw [fits_yes h1, ← hv.none_]; rfl
theorem specFitsFamily (m u h : Int) {a c a' c'} {l : List Int} {gs : List (List Int)} (hl : l.length ≤ 1048576) (hsm : Sml gs) (hs : (Kn.int .i64).Sl S H0 (.slice a l.length c) l) (hs' : (Kn.int .i64).sl.Sl S H0 (.slice a' gs.length c') gs) :
    Spec Try.prog S H0 20 [ranksV m u (.slice a l.length c), familyV h (.slice a' gs.length c')] (fun v => v = fitsV m u l h gs) := by
  refine Spec.of Try.func20 rfl (by kernel_rfl) rfl (fun H hfin hfz => ?_)
  have hs := hs.to hfz
  have hs' := hs'.to hfz
  have up : ∀ {H1 : AH} {T : List Var} {n : Nat}, Good (Low H.n) H T n H1 → (Kn.int .i64).Sl (Low H1.n) H1 (.slice a l.length c) l ∧ (Kn.int .i64).sl.Sl (Low H1.n) H1 (.slice a' gs.length c') gs := fun {H1 T n} g =>
    have h1 : ∀ id, Low H.n id → Low H1.n id := fun id hid => by have := (g.froz id hid).1; have := g.n_; show id < H1.n; omega
    ⟨hs.on (fun id hid => (g.froz id hid).2) h1, hs'.on (fun id hid => (g.froz id hid).2) h1⟩
  refine KW.callV rfl rfl rfl rfl rfl (fun H1 g => l07Both m u h hl hsm (g.blk (j := 0) rfl).2 (g.blk (j := 0) rfl).1 (g.blk (j := 1) rfl).2 (g.blk (j := 1) rfl).1 (up g).1 (up g).2) (fun _ _ => ?_)
  refine KW.cndB rfl rfl (fun h1 => KW.ret rfl rfl rfl rfl ?_) (fun h1 => ?_)
  · have h1 : ¬ fitC m u l h gs = 0 := by simpa using h1
    rw [fits_no h1]; rfl
  have h1 : fitC m u l h gs = 0 := by simpa using h1
  obtain ⟨ho, hf, rfl⟩ := fitC_zero h1
  obtain ⟨q, rfl⟩ : ∃ q : Nat, m = q := ⟨m.toNat, by have := hf.h1; omega⟩
  have hq : q ≤ 7 := by have := hf.h2; omega
  refine KW.callMV rfl rfl rfl rfl rfl (fun H1 g => l07Open hq hsm (by simpa using hf.below) (g.blk (j := 1) rfl).2 (g.blk (j := 1) rfl).1 (up g).2) (fun v H2 hn hsame hv => ?_)
  obtain ⟨at', ct, rfl, hv⟩ := hv
  have hll : 2 ^ q = l.length := by have := ho.2.2.1; simp at this; omega
  rw [hll] at hv ⊢
  have low : ∀ {H1 : AH} {S1 : Ids} {T : List Var} {n : Nat}, Good S1 H2 T n H1 → ∀ id, S1 id → Low H1.n id := fun {H1 S1 T n} g id hid => by have := (g.froz id hid).1; have := g.n_; show id < H1.n; omega
  refine KW.callVp rfl rfl rfl rfl rfl (fun H1 g => l07Misfit u hq ho.2.1 hll.symm ho.2.2.2.2.1 (g.blk (j := 0) rfl).2 (g.blk (j := 0) rfl).1
    ((hs.on (S' := fun id => Low H.n id ∨ New _ H2.n id) hsame (fun id hid => .inl hid)).on (fun id hid => (g.froz id hid).2) (low g)) (hv.on (fun id hid => (g.froz id (.inr hid)).2) (fun id hid => low g id (.inr hid)))) (fun v n' _ hv' => ?_)
  obtain ⟨x, y, f, rfl, hv'⟩ := hv'
  refine KW.retM rfl rfl rfl rfl (fun id hid => ⟨.inl hid, hsame id hid⟩) (fun H1 g => ?_)
  rw [fits_yes h1, ← hv'.none_]; rfl
end
end Go.Proofs.Ytaepgfafbnjccaa.Am
/- Contracts: sets as groups, marks on ranks and families. Each holds under its own conditions. -/
set_option linter.unusedVariables false
set_option maxRecDepth 20000
namespace Go.Proofs.Ytaepgfafbnjccaa.Am
open Go Go.RowKit Go.Proofs
section
variable {P : Program} {S : Ids} {H0 : AH} {Q : PostC} {k k1 : List It} {e e1 : Env} {T T1 : List Var} {n n1 : Nat} {l1 r1 : List Nat} {d1 : Tmp}
theorem KW.shr {o : Oper} {dr : Bool} {t u : TypeId} {x y : Operand} {ik kk : IntKind} {j : Int} {v : Int} (h : Go1 P k e T n (.op o dr) k1 e1 T1 n1 l1 r1) (hlr : l1 = r1) (ho : o.op = .binOp .shr t x y u) (hd : o.dst = some d1) (hx : ev e1 x = .int ik v) (hy : ev e1 y = .int kk j) (hb : ik.bits = 64) (a m : Nat) (hv : v = a) (hj : j = m) (hm : m ≤ 63)
    (hk : KW P S H0 Q n1 T1 k1 (put1 e1 d1 (.int ik ((a / 2 ^ m : Nat) : Int)))) : KW P S H0 Q n T k e := by
  refine KW.pure h hlr ho hd rfl _ ?_ hk
  subst hj hv
  simp only [pop, hx, hy, abin, ashift]
  rw [if_neg (by omega), hb]
  have e1 : min (m : Int).toNat 64 = m := by omega
  rw [e1]
  congr 2
  rw [Int.fdiv_eq_ediv_of_nonneg _ (by exact Int.pow_nonneg (by decide))]
  exact_mod_cast rfl
end
/-- The holders below n that are in a set. -/
def hold (x n : Nat) : List Int := ((List.range n).filter fun i => x.testBit i).map fun (i : Nat) => (i : Int)
theorem hold_next (x n : Nat) : hold x (n + 1) = if x.testBit n = true then hold x n ++ [(n : Int)] else hold x n := by
  unfold hold
  rw [List.range_succ, List.filter_append, List.map_append]
  by_cases h : x.testBit n = true
  · simp [h]
  · have h : x.testBit n = false := by simpa using h
    simp [h]
theorem hold_len (x n : Nat) : (hold x n).length ≤ n := by
  unfold hold
  rw [List.length_map]
  exact Nat.le_trans (List.length_filter_le _ _) (by simp)
theorem hold_up {x m : Nat} (hx : x < 2 ^ m) : ∀ d, hold x (m + d) = hold x m
  | 0 => rfl
  | d + 1 => by
    rw [← Nat.add_assoc, hold_next, if_neg (by rw [Nat.testBit_lt_two_pow (Nat.lt_of_lt_of_le hx (Nat.pow_le_pow_right (by decide) (by omega)))]; decide)]
    exact hold_up hx d
theorem bit_is {x h : Nat} : (((x / 2 ^ h) &&& 1 : Nat) == 1) = x.testBit h := by
  rw [Nat.testBit_eq_decide_div_mod_eq, Nat.and_one_is_mod]
  rfl
section
variable {S : Ids} {H0 : AH}
theorem has {x h : Nat} (hx : x < 4611686018427387904) (hh : h ≤ 63) : Spec Try.prog S H0 139 [.int .u64 x, .int .i64 h] (fun v => v = .bool (x.testBit h)) := by
  refine Spec.of Try.func139 rfl (by kernel_rfl) rfl (fun H hfin hfz => ?_)
  refine KW.shr rfl rfl rfl rfl rfl rfl rfl x h rfl rfl hh ?_
  refine KW.ret rfl rfl rfl rfl ?_
  show Value.bool (IntKind.u64.wrap ((BitVec.ofInt IntKind.u64.bits ((x / 2 ^ h : Nat) : Int) &&& BitVec.ofInt IntKind.u64.bits ((1 : Nat) : Int)).toNat : Int) == ((1 : Nat) : Int)) = _
  rw [and_u64 (Nat.lt_of_le_of_lt (Nat.div_le_self _ _) hx) (by decide), ← bit_is]
  congr 1
  generalize x / 2 ^ h &&& 1 = q
  by_cases e : q = 1
  · subst e; rfl
  · rw [show (q == 1) = false from by simpa using e]
    simp only [beq_eq_false_iff_ne, ne_eq]
    omega
theorem group {x : Nat} (hx : x < 4611686018427387904) : SpecM Try.prog S H0 91 [.int .u64 x] (fun n v H1 => ∃ a c, v = .slice a (hold x 7).length c ∧ KI.Ml (New n H1.n) H1 (.slice a (hold x 7).length c) (hold x 7)) := by
  refine SpecM.of Try.func91 rfl (by kernel_rfl) rfl (fun H hfin hfz => ?_)
  refine KW.lit rfl rfl rfl rfl rfl rfl rfl rfl rfl rfl [] rfl rfl (fun v hv => by simp at hv) rfl ?_
  refine KW.lpM rfl rfl (fun s : Nat × Nat => [(0, .int .u64 x), (3, .slice (some ⟨s.2, 0, some 1⟩) (hold x s.1).length (hold x s.1).length), (4, .int .i64 s.1)]) (fun _ => Low H.n) (fun _ => H) (fun s => [(s.2, ⟨_, true, (hold x s.1).map (Value.int .i64)⟩)]) (fun s => s.1 ≤ 7) (fun s => 7 - s.1) (0, H.n) (by simp) ⟨rfl, rfl, rfl, trivial⟩ rfl rfl rfl (fun s hi b n => ?_)
  obtain ⟨q, o⟩ := s
  simp only at hi
  refine KW.fact (p := ¬ o < H.n) (fun _ g => (g.vars 0 _ rfl).2.2) (fun ho => ?_)
  have hq := hold_len x q
  refine KW.cnd rfl rfl (fun h => ?_) (fun h => ?_)
  · refine KW.callE rfl rfl rfl rfl rfl (has hx (by omega)) (fun _ _ => ?_)
    refine KW.cndB rfl rfl (fun h2 => ?_) (fun h2 => ?_)
    · refine KW.lit rfl rfl rfl rfl rfl rfl rfl rfl rfl rfl [.int .i64 q] rfl rfl (fun v hv => by simp at hv; subst hv; rfl) rfl ?_
      refine KW.appT (len := (hold x q).length) (ys := [.int .i64 q]) (m := 1) 0 rfl rfl rfl rfl rfl rfl rfl rfl rfl rfl (fun H g => acells_T (g.blk (j := 1) rfl).1 rfl rfl) (by simp) (fun v hv => by simp at hv; subst hv; rfl) (by decide) (by show ((hold x q).length + 1) * 8 ≤ _; omega) (by omega) ?_
      have e := hold_next x q
      rw [if_pos h2] at e
      refine KW.nxt rfl rfl (fun H g' => ⟨(q + 1, _), by simp only; omega, by simp only; omega, ⟨rfl, by simp only [e, List.length_append, List.length_singleton]; rfl, congrArg (Value.int .i64) (inc64 (by omega)), trivial⟩, (g'.take 1).eqT ?_⟩)
      simp only [e, List.map_append]
      rfl
    · have e := hold_next x q
      rw [if_neg (by rw [h2]; decide)] at e
      exact KW.nxt rfl rfl (fun H g' => ⟨(q + 1, o), by simp only; omega, by simp only; omega, ⟨rfl, by simp only [e]; rfl, congrArg (Value.int .i64) (inc64 (by omega)), trivial⟩, g'.eqT (by simp only [e])⟩)
  · obtain rfl : q = 7 := by omega
    refine KW.retM rfl rfl rfl rfl (fun id hid => ⟨hid, rfl⟩) (fun H1 g => ?_)
    have hb := g.blk (j := 0) rfl
    exact ⟨_, _, rfl, int_ml ⟨by omega, hb.2⟩ hb.1 rfl rfl (Nat.le_refl _)⟩
theorem l06Holders {x m : Nat} (hx : x < 4611686018427387904) (hm : m ≤ 63) : SpecM Try.prog S H0 90 [.int .i64 x, .int .i64 m] (fun n v H1 => ∃ a c, v = .slice a (hold x m).length c ∧ KI.Ml (New n H1.n) H1 (.slice a (hold x m).length c) (hold x m)) := by
  refine SpecM.of Try.func90 rfl (by kernel_rfl) rfl (fun H hfin hfz => ?_)
  refine KW.lit rfl rfl rfl rfl rfl rfl rfl rfl rfl rfl [] rfl rfl (fun v hv => by simp at hv) rfl ?_
  refine KW.lpM rfl rfl (fun s : Nat × Nat => [(0, .int .i64 x), (1, .int .i64 m), (5, .slice (some ⟨s.2, 0, some 1⟩) (hold x s.1).length (hold x s.1).length), (6, .int .i64 s.1)]) (fun _ => Low H.n) (fun _ => H) (fun s => [(s.2, ⟨_, true, (hold x s.1).map (Value.int .i64)⟩)]) (fun s => s.1 ≤ m) (fun s => m - s.1) (0, H.n) (by simp) ⟨rfl, rfl, rfl, rfl, trivial⟩ rfl rfl rfl (fun s hi b n => ?_)
  obtain ⟨q, o⟩ := s
  simp only at hi
  refine KW.fact (p := ¬ o < H.n) (fun _ g => (g.vars 0 _ rfl).2.2) (fun ho => ?_)
  have hq := hold_len x q
  refine KW.cnd rfl rfl (fun h => ?_) (fun h => ?_)
  · refine KW.shr rfl rfl rfl rfl rfl rfl rfl x q rfl (wru (by omega) (by omega)) (by omega) ?_
    have eb : (IntKind.i64.wrap ((BitVec.ofInt IntKind.i64.bits ((x / 2 ^ q : Nat) : Int) &&& BitVec.ofInt IntKind.i64.bits ((1 : Nat) : Int)).toNat : Int) == ((1 : Nat) : Int)) = x.testBit q := by
      rw [and_i64 (Nat.lt_of_le_of_lt (Nat.div_le_self _ _) hx) (by decide), ← bit_is]
      generalize x / 2 ^ q &&& 1 = q
      by_cases e : q = 1
      · subst e; rfl
      · rw [show (q == 1) = false from by simpa using e]
        simp only [beq_eq_false_iff_ne, ne_eq]
        omega
    refine KW.cndB rfl rfl (fun h2 => ?_) (fun h2 => ?_)
    · have h2 : x.testBit q = true := eb.symm.trans h2
      refine KW.lit rfl rfl rfl rfl rfl rfl rfl rfl rfl rfl [.int .i64 q] rfl rfl (fun v hv => by simp at hv; subst hv; rfl) rfl ?_
      refine KW.appT (len := (hold x q).length) (ys := [.int .i64 q]) (m := 1) 0 rfl rfl rfl rfl rfl rfl rfl rfl rfl rfl (fun H g => acells_T (g.blk (j := 1) rfl).1 rfl rfl) (by simp) (fun v hv => by simp at hv; subst hv; rfl) (by decide) (by show ((hold x q).length + 1) * 8 ≤ _; omega) (by omega) ?_
      have e := hold_next x q
      rw [if_pos h2] at e
      refine KW.nxt rfl rfl (fun H g' => ⟨(q + 1, _), by simp only; omega, by simp only; omega, ⟨rfl, rfl, by simp only [e, List.length_append, List.length_singleton]; rfl, congrArg (Value.int .i64) (inc64 (by omega)), trivial⟩, (g'.take 1).eqT ?_⟩)
      simp only [e, List.map_append]
      rfl
    · have h2 : x.testBit q = false := eb.symm.trans h2
      have e := hold_next x q
      rw [if_neg (by rw [h2]; decide)] at e
      exact KW.nxt rfl rfl (fun H g' => ⟨(q + 1, o), by simp only; omega, by simp only; omega, ⟨rfl, rfl, by simp only [e]; rfl, congrArg (Value.int .i64) (inc64 (by omega)), trivial⟩, g'.eqT (by simp only [e])⟩)
  · obtain rfl : q = m := by omega
    refine KW.retM rfl rfl rfl rfl (fun id hid => ⟨hid, rfl⟩) (fun H1 g => ?_)
    have hb := g.blk (j := 0) rfl
    exact ⟨_, _, rfl, int_ml ⟨by omega, hb.2⟩ hb.1 rfl rfl (Nat.le_refl _)⟩
theorem markRanks {W : Ids} {m u : Int} {a c} {xs : List Int} {k : Int} (hl : xs.length ≤ 4194304) (hk : 0 ≤ k ∧ k ≤ 1099511627776) (hW : ∀ id, W id → S id) (hs : KI.Ml W H0 (.slice a xs.length c) xs) :
    SpecW Try.prog S H0 W 37 [ranksV m u (.slice a xs.length c), .int .i64 k] (fun n v H1 => v = .int .i64 (k + xs.length) ∧ KI.Ml W H1 (.slice a xs.length c) (cnt k xs.length)) := by
  refine SpecW.of0 Try.func37 rfl (by kernel_rfl) rfl (fun H hfin hfz => ?_)
  have hWl : ∀ id, W id → Low H.n id := fun id hid => (hfz id (hW id hid)).1
  refine KW.callW hWl rfl rfl rfl rfl rfl (markInt64S hl hk hWl (hs.same (fun id hid => (hfz id (hW id hid)).2))) (fun v H1 S' hn st hw hv => ?_)
  obtain ⟨rfl, hv⟩ := hv
  refine KW.retW rfl rfl rfl rfl (fun H2 g => by have := g.n_; omega) (fun id hid hno => ⟨(st id hid).1, (st id hid).2 hno⟩) (fun H2 g => ⟨rfl, hv.same (fun id hid => (g.froz id (st id (hWl id hid)).1).2)⟩)
theorem markFamily {W : Ids} {m : Int} {a c} {xs : List (List Int)} {k : Int} (hl : xs.length ≤ 4194304) (hx : sum (lens xs) ≤ 4194304) (hk : 0 ≤ k ∧ k ≤ 549755813888) (hW : ∀ id, W id → S id) (hs : KI.ml.Ml W H0 (.slice a xs.length c) xs) :
    SpecW Try.prog S H0 W 38 [familyV m (.slice a xs.length c), .int .i64 k] (fun n v H1 => v = .int .i64 (k + sum (lens xs)) ∧ KI.ml.Ml W H1 (.slice a xs.length c) (cnts k (lens xs))) := by
  refine SpecW.of0 Try.func38 rfl (by kernel_rfl) rfl (fun H hfin hfz => ?_)
  have hWl : ∀ id, W id → Low H.n id := fun id hid => (hfz id (hW id hid)).1
  refine KW.callW hWl rfl rfl rfl rfl rfl (markInt64SS hl hx hk hWl (hs.same (fun id hid => (hfz id (hW id hid)).2))) (fun v H1 S' hn st hw hv => ?_)
  obtain ⟨rfl, hv⟩ := hv
  refine KW.retW rfl rfl rfl rfl (fun H2 g => by have := g.n_; omega) (fun id hid hno => ⟨(st id hid).1, (st id hid).2 hno⟩) (fun H2 g => ⟨rfl, hv.same (fun id hid => (g.froz id (st id (hWl id hid)).1).2)⟩)
end
end Go.Proofs.Ytaepgfafbnjccaa.Am
/- Contracts: FirstMisfit, of the program and of the reference. Each holds under its own conditions. -/
set_option linter.unusedVariables false
set_option maxRecDepth 20000
namespace Go.Proofs.Ytaepgfafbnjccaa.Am
open Go Go.RowKit Go.Proofs
/-- What both return: two groups and a code. -/
def FmR (m u : Int) (l : List Int) (h : Int) (gs : List (List Int)) (g0 g1 : List Int) (code : Int) : Prop :=
  (¬ fitC m u l h gs = 0 ∧ g0 = [] ∧ g1 = [] ∧ code = fitC m u l h gs) ∨
  (fitC m u l h gs = 0 ∧ ∃ a b f, Fst l u gs a b f ∧ ((f = false ∧ g0 = [] ∧ g1 = [] ∧ code = 6) ∨ (f = true ∧ g0 = hold a 7 ∧ g1 = hold b 7 ∧ code = 0)))
theorem FmR.one {m u : Int} {l : List Int} {h : Int} {gs : List (List Int)} {g0 g1 g0' g1' : List Int} {code code' : Int} (p : FmR m u l h gs g0 g1 code) (q : FmR m u l h gs g0' g1' code') : g0 = g0' ∧ g1 = g1' ∧ code = code' := by
  rcases p with ⟨h0, rfl, rfl, rfl⟩ | ⟨h0, a, b, f, hf, p⟩ <;> rcases q with ⟨k0, rfl, rfl, rfl⟩ | ⟨k0, a', b', f', kf, q⟩
  · exact ⟨rfl, rfl, rfl⟩
  · exact absurd k0 h0
  · exact absurd h0 k0
  · obtain ⟨rfl, rfl, rfl⟩ := hf.one kf
    rcases p with ⟨rfl, rfl, rfl, rfl⟩ | ⟨rfl, rfl, rfl, rfl⟩ <;> rcases q with ⟨e, rfl, rfl, rfl⟩ | ⟨e, rfl, rfl, rfl⟩ <;> first | exact ⟨rfl, rfl, rfl⟩ | cases e
theorem FmR.len {m u : Int} {l : List Int} {h : Int} {gs : List (List Int)} {g0 g1 : List Int} {code : Int} (p : FmR m u l h gs g0 g1 code) : g0.length ≤ 7 ∧ g1.length ≤ 7 := by
  rcases p with ⟨h0, rfl, rfl, rfl⟩ | ⟨h0, a, b, f, hf, ⟨rfl, rfl, rfl, rfl⟩ | ⟨rfl, rfl, rfl, rfl⟩⟩ <;> first | exact ⟨by simp, by simp⟩ | exact ⟨hold_len _ _, hold_len _ _⟩
/-- Two groups apart from each other, and a code. -/
def GgPost (p : List Int → List Int → Int → Prop) (n : Nat) (v : Value) (H1 : AH) : Prop :=
  ∃ (g0 g1 : List Int) (code : Int) (a0 : Option Addr) (c0 : Nat) (a1 : Option Addr) (c1 : Nat) (S0 S1 : Ids), v = .tuple #[.slice a0 g0.length c0, .slice a1 g1.length c1, .int .i64 code] ∧ p g0 g1 code ∧ KI.Ml S0 H1 (.slice a0 g0.length c0) g0 ∧ KI.Ml S1 H1 (.slice a1 g1.length c1) g1 ∧
    (∀ id, S0 id → New n H1.n id) ∧ (∀ id, S1 id → New n H1.n id) ∧ ∀ id, S0 id → S1 id → False
section
variable {S : Ids} {H0 : AH}
theorem firstMisfit (m u h : Int) {a c a' c'} {l : List Int} {gs : List (List Int)} (hl : l.length ≤ 1048576) (hsm : Sml gs) (hs : KI.Sl S H0 (.slice a l.length c) l) (hs' : KI.sl.Sl S H0 (.slice a' gs.length c') gs) :
    SpecM Try.prog S H0 36 [ranksV m u (.slice a l.length c), familyV h (.slice a' gs.length c')] (GgPost (FmR m u l h gs)) := by
  refine SpecM.of Try.func36 rfl (by kernel_rfl) rfl (fun H hfin hfz => ?_)
  have hs := hs.to hfz
  have hs' := hs'.to hfz
  have nil : ∀ {code : Int} {H1 : AH}, FmR m u l h gs [] [] code → GgPost (FmR m u l h gs) H.n (.tuple #[.slice none 0 0, .slice none 0 0, .int .i64 code]) H1 := fun {code H1} hp => ⟨[], [], code, none, 0, none, 0, fun _ => False, fun _ => False, rfl, hp, .inl ⟨rfl, _, _, rfl, fun _ => rfl⟩, .inl ⟨rfl, _, _, rfl, fun _ => rfl⟩, fun _ h => h.elim, fun _ h => h.elim, fun _ h => h.elim⟩
  refine KW.callE rfl rfl rfl rfl rfl (fitCode m u h hl hsm hs hs') (fun _ _ => ?_)
  refine KW.cndB rfl rfl (fun h1 => KW.retM rfl rfl rfl rfl (fun id hid => ⟨hid, rfl⟩) (fun H1 g => nil (.inl ⟨by simpa using h1, rfl, rfl, rfl⟩))) (fun h1 => ?_)
  have h1 : fitC m u l h gs = 0 := by simpa using h1
  obtain ⟨ho, hf, rfl⟩ := fitC_zero h1
  obtain ⟨q, rfl⟩ : ∃ q : Nat, m = q := ⟨m.toNat, by have := hf.h1; omega⟩
  have hq : q ≤ 7 := by have := hf.h2; omega
  have hp := small_pow (m := q) (by omega)
  have hll : l.length = 2 ^ q := by have := ho.2.2.1; simpa using this
  refine KW.call rfl rfl rfl rfl rfl (misfit u hq ho.2.1 hll ho.2.2.2.2.1 hsm (by simpa using hf.below) hs hs') (fun v n' _ hv => ?_)
  obtain ⟨x, y, f, rfl, hv⟩ := hv
  refine KW.cndB rfl rfl (fun h2 => KW.retM rfl rfl rfl rfl (fun id hid => ⟨hid, rfl⟩) (fun H1 g => nil (.inr ⟨h1, x, y, f, hv, .inl ⟨by simpa using h2, rfl, rfl, rfl⟩⟩))) (fun h2 => ?_)
  have h2 : f = true := by simpa using h2
  subst h2
  have hxy : x < 256 ∧ y < 256 := by
    rcases hv with ⟨_, h3, h4, _⟩ | ⟨h3, _⟩
    · omega
    · cases h3
  refine KW.fact (p := H.n ≤ n') (fun H1 g => by have := g.ext.1; have := g.n_; omega) (fun hn0 => ?_)
  refine KW.callN rfl rfl rfl rfl rfl (group (x := x) (by omega)) (fun v H1 S1 hn1 t1 w1 hv1 => ?_)
  obtain ⟨a1, c1, rfl, hv1⟩ := hv1
  refine KW.callN rfl rfl rfl rfl rfl (group (x := y) (by omega)) (fun v H2 S2 hn2 t2 w2 hv2 => ?_)
  obtain ⟨a2, c2, rfl, hv2⟩ := hv2
  refine KW.retM rfl rfl rfl rfl (t1.trans t2) (fun H3 g => ?_)
  have k1 : ∀ id, New n' H1.n id → S2 id ∧ H2.m id = H1.m id := fun id hid => t2 id (w1 id hid)
  have low : ∀ id, S2 id → id < H3.n := fun id hid => by have := (g.froz id hid).1; have := g.n_; omega
  refine ⟨hold x 7, hold y 7, 0, a1, c1, a2, c2, New n' H1.n, New H1.n H2.n, rfl, .inr ⟨h1, x, y, true, hv, .inr ⟨rfl, rfl, rfl, rfl⟩⟩,
    hv1.same (fun id hid => ((g.froz id (k1 id hid).1).2).trans (k1 id hid).2), hv2.same (fun id hid => (g.froz id (w2 id hid)).2),
    fun id hid => ⟨by have := hid.1; omega, low id (k1 id hid).1⟩, fun id hid => ⟨by have := hid.1; omega, low id (w2 id hid)⟩, fun id hid hid' => by have := hid.2; have := hid'.1; omega⟩
theorem specFirstMisfit (m u h : Int) {a c a' c'} {l : List Int} {gs : List (List Int)} (hl : l.length ≤ 1048576) (hsm : Sml gs) (hs : KI.Sl S H0 (.slice a l.length c) l) (hs' : KI.sl.Sl S H0 (.slice a' gs.length c') gs) :
    SpecM Try.prog S H0 35 [ranksV m u (.slice a l.length c), familyV h (.slice a' gs.length c')] (GgPost (FmR m u l h gs)) := by
  refine SpecM.of Try.func35 rfl (by kernel_rfl) rfl (fun H hfin hfz => ?_)
  have hs := hs.to hfz
  have hs' := hs'.to hfz
  have nil : ∀ {code : Int} {H1 : AH} {i j c c' : Nat}, FmR m u l h gs [] [] code → GgPost (FmR m u l h gs) H.n (.tuple #[.slice (some ⟨i, 0, some 1⟩) 0 c, .slice (some ⟨j, 0, some 1⟩) 0 c', .int .i64 code]) H1 := fun {code H1 i j c c'} hp => ⟨[], [], code, _, c, _, c', fun _ => False, fun _ => False, rfl, hp, .inl ⟨rfl, _, _, rfl, fun h => by cases h⟩, .inl ⟨rfl, _, _, rfl, fun h => by cases h⟩, fun _ h => h.elim, fun _ h => h.elim, fun _ h => h.elim⟩
  refine KW.callV rfl rfl rfl rfl rfl (fun H1 g => l07Both m u h hl hsm (g.blk (j := 0) rfl).2 (g.blk (j := 0) rfl).1 (g.blk (j := 1) rfl).2 (g.blk (j := 1) rfl).1 (hs.st g.st) (hs'.st g.st)) (fun _ hn1 => ?_)
  refine KW.cndB rfl rfl (fun h1 => ?_) (fun h1 => ?_)
  · refine KW.lit rfl rfl rfl rfl rfl rfl rfl rfl rfl rfl [] rfl rfl (fun v hv => by simp at hv) rfl ?_
    refine KW.lit rfl rfl rfl rfl rfl rfl rfl rfl rfl rfl [] rfl rfl (fun v hv => by simp at hv) rfl ?_
    exact KW.retM rfl rfl rfl rfl (fun id hid => ⟨hid, rfl⟩) (fun H1 g => nil (.inl ⟨by simpa using h1, rfl, rfl, rfl⟩))
  have h1 : fitC m u l h gs = 0 := by simpa using h1
  obtain ⟨ho, hf, rfl⟩ := fitC_zero h1
  obtain ⟨q, rfl⟩ : ∃ q : Nat, m = q := ⟨m.toNat, by have := hf.h1; omega⟩
  have hq : q ≤ 7 := by have := hf.h2; omega
  have hp := small_pow (m := q) (by omega)
  have hll : 2 ^ q = l.length := by have := ho.2.2.1; simp at this; omega
  refine KW.callNV rfl rfl rfl rfl rfl (fun H1 g => l07Open hq hsm (by simpa using hf.below) (g.blk (j := 1) rfl).2 (g.blk (j := 1) rfl).1 (hs'.st g.st)) (fun v H2 S2 hn2 t2 w2 hv => ?_)
  obtain ⟨at', ct, rfl, hv⟩ := hv
  rw [hll] at hv ⊢
  refine KW.callVp rfl rfl rfl rfl rfl (fun H1 g => l07Misfit u hq ho.2.1 hll.symm ho.2.2.2.2.1 (g.blk (j := 0) rfl).2 (g.blk (j := 0) rfl).1 ((hs.st t2).st g.st) ((hv.more w2).st g.st)) (fun v n' hn' hv' => ?_)
  obtain ⟨x, y, f, rfl, hv'⟩ := hv'
  refine KW.cndB rfl rfl (fun h2 => ?_) (fun h2 => ?_)
  · refine KW.lit rfl rfl rfl rfl rfl rfl rfl rfl rfl rfl [] rfl rfl (fun v hv => by simp at hv) rfl ?_
    refine KW.lit rfl rfl rfl rfl rfl rfl rfl rfl rfl rfl [] rfl rfl (fun v hv => by simp at hv) rfl ?_
    exact KW.retM rfl rfl rfl rfl t2 (fun H1 g => nil (.inr ⟨h1, x, y, f, hv', .inl ⟨by simpa using h2, rfl, rfl, rfl⟩⟩))
  have h2 : f = true := by simpa using h2
  subst h2
  have hxy : x < 2 ^ q ∧ y < 2 ^ q := by
    rcases hv' with ⟨_, h3, h4, _⟩ | ⟨h3, _⟩
    · omega
    · cases h3
  have e7 : ∀ {z : Nat}, z < 2 ^ q → hold z q = hold z 7 := fun {z} hz => by
    have := hold_up hz (7 - q)
    rw [show q + (7 - q) = 7 by omega] at this
    exact this.symm
  refine KW.fact (p := H.n ≤ n') (fun H1 g => by
    have := g.n_
    rcases Nat.eq_zero_or_pos H.n with h | h
    · omega
    · have := (g.froz (H.n - 1) (t2 _ (by show _ < _; omega)).1).1; omega) (fun hn0 => ?_)
  refine KW.callN rfl rfl rfl rfl rfl (l06Holders (x := x) (m := q) (by omega) (by omega)) (fun v H3 S3 hn3 t3 w3 hv1 => ?_)
  obtain ⟨a1, c1, rfl, hv1⟩ := hv1
  refine KW.callN rfl rfl rfl rfl rfl (l06Holders (x := y) (m := q) (by omega) (by omega)) (fun v H4 S4 hn4 t4 w4 hv2 => ?_)
  obtain ⟨a2, c2, rfl, hv2⟩ := hv2
  refine KW.retM rfl rfl rfl rfl ((t2.trans t3).trans t4) (fun H5 g => ?_)
  have k1 : ∀ id, New n' H3.n id → S4 id ∧ H4.m id = H3.m id := fun id hid => t4 id (w3 id hid)
  have low : ∀ id, S4 id → id < H5.n := fun id hid => by have := (g.froz id hid).1; have := g.n_; omega
  rw [e7 hxy.1] at hv1 ⊢
  rw [e7 hxy.2] at hv2 ⊢
  exact ⟨hold x 7, hold y 7, 0, a1, c1, a2, c2, New n' H3.n, New H3.n H4.n, rfl, .inr ⟨h1, x, y, true, hv', .inr ⟨rfl, rfl, rfl, rfl⟩⟩,
    hv1.same (fun id hid => ((g.froz id (k1 id hid).1).2).trans (k1 id hid).2), hv2.same (fun id hid => (g.froz id (w4 id hid)).2),
    fun id hid => ⟨by have := hid.1; omega, low id (k1 id hid).1⟩, fun id hid => ⟨by have := hid.1; omega, low id (w4 id hid)⟩, fun id hid hid' => by have := hid.2; have := hid'.1; omega⟩
end
end Go.Proofs.Ytaepgfafbnjccaa.Am
/- Facts on memory with what they rest on, carried over calls. For every program. No condition beyond each theorem's own. -/
set_option linter.unusedVariables false
namespace Go.Proofs.Ytaepgfafbnjccaa.Am
open Go Go.RowKit
/-- A slice reads as a list, and rests on X, which is frozen. -/
structure Fc {α : Type} (d : Kn α) (X S : Ids) (H : AH) (s : Value) (xs : List α) : Prop where
  r : d.Sl X H s xs
  i : ∀ id, X id → S id
/-- .. an owned one. -/
structure Fm {α : Type} (d : Kn α) (X S : Ids) (H : AH) (s : Value) (xs : List α) : Prop where
  r : d.Ml X H s xs
  i : ∀ id, X id → S id
section
variable {α : Type} {d : Kn α} {X S S' : Ids} {H H1 : AH} {s : Value} {xs : List α}
theorem Fc.st (h : Fc d X S H s xs) (t : St S H S' H1) : Fc d X S' H1 s xs := ⟨h.r.same (fun id hid => (t id (h.i id hid)).2), fun id hid => (t id (h.i id hid)).1⟩
theorem Fm.st (h : Fm d X S H s xs) (t : St S H S' H1) : Fm d X S' H1 s xs := ⟨h.r.same (fun id hid => (t id (h.i id hid)).2), fun id hid => (t id (h.i id hid)).1⟩
theorem Fc.w {W : Ids} (h : Fc d X S H s xs) (t : StW W S H S' H1) (hd : ∀ id, X id → W id → False) : Fc d X S' H1 s xs := ⟨h.r.same (fun id hid => (t id (h.i id hid)).2 (hd id hid)), fun id hid => (t id (h.i id hid)).1⟩
theorem Fm.w {W : Ids} (h : Fm d X S H s xs) (t : StW W S H S' H1) (hd : ∀ id, X id → W id → False) : Fm d X S' H1 s xs := ⟨h.r.same (fun id hid => (t id (h.i id hid)).2 (hd id hid)), fun id hid => (t id (h.i id hid)).1⟩
theorem Fc.sl (h : Fc d X S H s xs) : d.Sl S H s xs := h.r.more h.i
theorem Fm.ml (h : Fm d X S H s xs) : d.Ml S H s xs := h.r.more h.i
theorem Fm.sl (h : Fm d X S H s xs) : d.Sl S H s xs := h.ml.sl
theorem Fm.fc {d' : Kn α} (k : KLe d d') (h : Fm d X S H s xs) : Fc d' X S H s xs := ⟨h.r.to k, h.i⟩
end
/-- What stays frozen over a writer, of what lay below. -/
theorem StW.low {W S S' : Ids} {H H1 : AH} {m : Nat} {H0 : AH} (t : StW W S H S' H1) (h : St (Low m) H0 S H) (hd : ∀ id, id < m → W id → False) : St (Low m) H0 S' H1 := fun id hid => ⟨(t id (h id hid).1).1, ((t id (h id hid).1).2 (hd id hid)).trans (h id hid).2⟩
end Go.Proofs.Ytaepgfafbnjccaa.Am
/- What stands in memory goes over by itself: an instance says that what stands in one memory stands in a later one; rules that give such instances. For every program. No condition beyond each theorem's own. -/
set_option linter.unusedSimpArgs false
set_option linter.unusedVariables false
namespace Go.Proofs.Ytaepgfafbnjccaa.Am
open Go Go.RowKit
/-- A step: what stands in (S, H) stands in (S', H'). -/
class Stp (S : outParam Ids) (H : outParam AH) (S' : Ids) (H' : AH) : Prop where
  st : St S H S' H'
class On (S : Ids) (H : AH) (S' : Ids) (H' : AH) : Prop where
  st : St S H S' H'
instance On.refl (S : Ids) (H : AH) : On S H S H := ⟨fun id hid => ⟨hid, rfl⟩⟩
instance On.step {S S1 S2 : Ids} {H H1 H2 : AH} [t : Stp S1 H1 S2 H2] [o : On S H S1 H1] : On S H S2 H2 := ⟨o.st.trans t.st⟩
section
variable {α : Type} {d : Kn α} {X S S' : Ids} {H H' : AH} {s : Value} {xs : List α} {x : α} {cs : List Value}
theorem Kn.Sl.up [o : On S H S' H'] (h : d.Sl S H s xs) : d.Sl S' H' s xs := h.st o.st
theorem Kn.Ml.up [o : On S H S' H'] (h : d.Ml S H s xs) : d.Ml S' H' s xs := Kn.Ml.st h o.st
theorem Kn.Ml.ups [o : On S H S' H'] (h : d.Ml S H s xs) : d.Sl S' H' s xs := (Kn.Ml.st h o.st).sl
/-- .. of a list of owned rows. -/
theorem Kn.Ml.upS [o : On S H S' H'] {xs : List (List α)} (h : d.ml.Ml S H s xs) : d.sl.Sl S' H' s xs := (Kn.Ml.st h o.st).to (KLe.row (KLe.refl d))
theorem On.R [o : On S H S' H'] (h : d.R S H x cs) : d.R S' H' x cs := d.more (fun id hid => (o.st id hid).1) (d.same (fun id hid => (o.st id hid).2) h)
theorem On.blk [o : On S H S' H'] {id : Nat} {b : Blk} (hS : S id) (hm : H.m id = some b) : S' id ∧ H'.m id = some b := ⟨(o.st id hS).1, ((o.st id hS).2).trans hm⟩
/-- What stands behind all, seen from a later end. -/
theorem Good.out {S0 : Ids} {H0 H2 : AH} {T : List Var} {n lo : Nat} (g : Good S0 H0 T n H2) [o : On X H S0 H0] (hX : ∀ id, X id → lo ≤ id) : On X H (New lo H2.n) H2 :=
  ⟨fun id hid => by
    obtain ⟨h1, h2⟩ := o.st id hid
    obtain ⟨h3, h4⟩ := g.froz id h1
    have := g.n_
    exact ⟨⟨hX id hid, by omega⟩, h4.trans h2⟩⟩
/-- Less is spoken of. -/
theorem Good.back {S0 S1 : Ids} {H0 H1 H2 : AH} {T : List Var} {n : Nat} [o : On S0 H0 S1 H1] (g : Good S1 H1 T n H2) : Good S0 H0 T n H2 := g.weak (fun id hid => ⟨(o.st id hid).1, ((o.st id hid).2).symm⟩)
theorem Good.stp {S0 : Ids} {H0 H2 : AH} {T : List Var} {n : Nat} (g : Good S0 H0 T n H2) : Stp S0 H0 (Low H2.n) H2 := ⟨g.st⟩
/-- A variable, for a callee and what it calls. -/
theorem Good.var {S0 : Ids} {H0 H1 : AH} {T : List Var} {n j id : Nat} {b : Blk} (g : Good S0 H0 T n H1) (hj : T[j]? = some (id, b)) [o : On (Low H1.n) H1 S' H'] : S' id ∧ H'.m id = some b := by
  obtain ⟨h1, h2⟩ := g.blk hj
  obtain ⟨h3, h4⟩ := o.st id h2
  exact ⟨h3, h4.trans h1⟩
theorem Good.nle {S0 : Ids} {H0 H1 H2 : AH} {T : List Var} {n : Nat} [o : On (Low H1.n) H1 S0 H0] (g : Good S0 H0 T n H2) : H1.n ≤ n := by
  rcases Nat.eq_zero_or_pos H1.n with h | h
  · omega
  · have := (g.froz (H1.n - 1) (o.st _ (by show _ < _; omega)).1).1; omega
end
section
variable {P : Program} {S : Ids} {H0 : AH} {Q : PostC} {k k1 k2 : List It} {e e1 e2 : Env} {T T1 T2 : List Var} {n n1 n2 : Nat} {l1 r1 l2 r2 : List Nat} {d1 d2 : Tmp}
theorem Spec.of1 {f : FuncId} {fn : Func} {c : Code} {args : List Value} {post : Value → Prop} (hf : P.funcs[f]? = some fn) (hb : fn.body = some c) (hok : fnOk fn = true) (hs : Nat.ble args.length fn.ntmps = true)
    (h : ∀ H, Stp S H0 (Low H.n) H → KW P (Low H.n) H (Fin1 P fn (fun v H1 => Ext H H1 ∧ Fin' H1 ∧ post v)) H.n [] [.code c] (fun t => args.getD t undef)) : Spec P S H0 f args post :=
  Spec.of hf hb hok hs (fun H _ hfz => h H ⟨fun id hid => hfz id hid⟩)
theorem SpecM.of1 {f : FuncId} {fn : Func} {c : Code} {args : List Value} {post : Nat → Value → AH → Prop} (hf : P.funcs[f]? = some fn) (hb : fn.body = some c) (hok : fnOk fn = true) (hs : Nat.ble args.length fn.ntmps = true)
    (h : ∀ H, Stp S H0 (Low H.n) H → KW P (Low H.n) H (Fin1 P fn (fun v H1 => Ext H H1 ∧ Fin' H1 ∧ post H.n v H1)) H.n [] [.code c] (fun t => args.getD t undef)) : SpecM P S H0 f args post :=
  SpecM.of hf hb hok hs (fun H _ hfz => h H ⟨fun id hid => hfz id hid⟩)
/-- A call that makes memory. -/
theorem KW.callN1 {dr : Bool} {f : Operand} {xs : Array Operand} {ts : Array TypeId} {g : FuncId} {first cap : Array Value} {o : Oper} {post : Nat → Value → AH → Prop} (h : Go1 P k e T n (.op o dr) k1 e1 T1 n1 l1 r1) (hlr : l1 = r1) (ho : o.op = .call { callee := .value f, args := xs, argTypes := ts }) (hd : o.dst = some d1) (hf : ev e1 f = .func (.func g) first cap)
    (hs : SpecM P S H0 g (cargs e1 first cap xs) post)
    (hk : ∀ v H1 (S' : Ids), n1 ≤ H1.n → Stp S H0 S' H1 → On (New n1 H1.n) H1 S' H1 → post n1 v H1 → KW P S' H1 Q H1.n T1 k1 (put1 e1 d1 (untag v))) : KW P S H0 Q n T k e :=
  KW.callN h hlr ho hd hf hs (fun v H1 S' h1 h2 h3 h4 => hk v H1 S' h1 ⟨h2⟩ ⟨fun id hid => ⟨h3 id hid, rfl⟩⟩ h4)
/-- .. and sees the caller's variables. -/
theorem KW.callNV1 {dr : Bool} {f : Operand} {xs : Array Operand} {ts : Array TypeId} {g : FuncId} {first cap : Array Value} {o : Oper} {post : Nat → Value → AH → Prop} (h : Go1 P k e T n (.op o dr) k1 e1 T1 n1 l1 r1) (hlr : l1 = r1) (ho : o.op = .call { callee := .value f, args := xs, argTypes := ts }) (hd : o.dst = some d1) (hf : ev e1 f = .func (.func g) first cap)
    (hs : ∀ H, Good S H0 T1 n1 H → Stp S H0 (Low H.n) H → SpecM P (Low H.n) H g (cargs e1 first cap xs) post)
    (hk : ∀ v H1 (S' : Ids), n1 ≤ H1.n → Stp S H0 S' H1 → On (New n1 H1.n) H1 S' H1 → post n1 v H1 → KW P S' H1 Q H1.n T1 k1 (put1 e1 d1 (untag v))) : KW P S H0 Q n T k e :=
  KW.callNV h hlr ho hd hf (fun H g => hs H g g.stp) (fun v H1 S' h1 h2 h3 h4 => hk v H1 S' h1 ⟨h2⟩ ⟨fun id hid => ⟨h3 id hid, rfl⟩⟩ h4)
/-- A call that sees the caller's variables, and whose value is known. -/
theorem KW.callV1 {dr : Bool} {f : Operand} {xs : Array Operand} {ts : Array TypeId} {g : FuncId} {first cap : Array Value} {o : Oper} {v : Value} (h : Go1 P k e T n (.op o dr) k1 e1 T1 n1 l1 r1) (hlr : l1 = r1) (ho : o.op = .call { callee := .value f, args := xs, argTypes := ts }) (hd : o.dst = some d1) (hf : ev e1 f = .func (.func g) first cap)
    (hs : ∀ H, Good S H0 T1 n1 H → Stp S H0 (Low H.n) H → Spec P (Low H.n) H g (cargs e1 first cap xs) (fun u => u = v))
    (hk : ∀ n', n1 ≤ n' → KW P S H0 Q n' T1 k1 (put1 e1 d1 (untag v))) : KW P S H0 Q n T k e :=
  KW.callV h hlr ho hd hf (fun H g => hs H g g.stp) hk
theorem KW.callVp1 {dr : Bool} {f : Operand} {xs : Array Operand} {ts : Array TypeId} {g : FuncId} {first cap : Array Value} {o : Oper} {post : Value → Prop} (h : Go1 P k e T n (.op o dr) k1 e1 T1 n1 l1 r1) (hlr : l1 = r1) (ho : o.op = .call { callee := .value f, args := xs, argTypes := ts }) (hd : o.dst = some d1) (hf : ev e1 f = .func (.func g) first cap)
    (hs : ∀ H, Good S H0 T1 n1 H → Stp S H0 (Low H.n) H → Spec P (Low H.n) H g (cargs e1 first cap xs) post)
    (hk : ∀ v n', n1 ≤ n' → post v → KW P S H0 Q n' T1 k1 (put1 e1 d1 (untag v))) : KW P S H0 Q n T k e :=
  KW.callVp h hlr ho hd hf (fun H g => hs H g g.stp) hk
/-- What a maker returns. -/
theorem KW.retM1 {fn : Func} {H : AH} {post : Value → AH → Prop} {vs : List Value} {a b : List Nat} [o : On (Low H.n) H S H0] (h : Go1 P k e T n (.done .ret) k1 e1 T1 n1 l1 r1) (hlr : l1 = r1) (hr : aresT P e1 T1 fn.results.toList = some (vs, a, b)) (hab : a = b)
    (hp : ∀ H1, Good S H0 T1 n1 H1 → post (aout vs) H1) :
    KW P S H0 (Fin1 P fn (fun v H1 => Ext H H1 ∧ Fin' H1 ∧ post v H1)) n T k e :=
  KW.retM h hlr hr hab (fun id hid => o.st id hid) hp
theorem KW.endM1 {fn : Func} {H : AH} {post : Value → AH → Prop} {vs : List Value} {a b : List Nat} [o : On (Low H.n) H S H0] (h : Go1 P k e T n (.done .normal) k1 e1 T1 n1 l1 r1) (hlr : l1 = r1) (hr : aresT P e1 T1 fn.results.toList = some (vs, a, b)) (hab : a = b)
    (hp : ∀ H1, Good S H0 T1 n1 H1 → post (aout vs) H1) :
    KW P S H0 (Fin1 P fn (fun v H1 => Ext H H1 ∧ Fin' H1 ∧ post v H1)) n T k e := by
  refine KW.go h hlr (fun H1 g => ?_)
  have hv := aresT_ok (P := P) g _ hr hab
  have hx : Ext H H1 := ⟨by have := g.nle (H1 := H); have := g.n_; omega, fun id hid => by rw [(g.froz id (o.st id hid).1).2, (o.st id hid).2]⟩
  simp only [Fin1, hv]
  exact ⟨hx, g.fin, hp H1 g⟩
/-- Variables of which nothing more is said. -/
theorem KW.take (m : Nat) (h : KW P S H0 Q n (T.take m) k e) : KW P S H0 Q n T k e := fun H g => h H (g.take m)
/-- The cells of a frozen slice. -/
theorem acells_S {α : Type} {d : Kn α} {a : Option Addr} {c : Nat} {xs : List α} {H : AH} (hd : d.es = 1) (h : d.Sl S H0 (.slice a xs.length c) xs) (g : Good S H0 T n H) : ∃ ys : List Value, acells H (.slice a xs.length c) 1 = some (xs.length, ys) ∧ ys.length = xs.length ∧ ∀ (i : Nat) x, xs[i]? = some x → ∃ v, ys[i]? = some v ∧ d.R S H0 x [v] := by
  rcases h with ⟨rfl, _⟩ | ⟨id, k, c1, b, h1, h2, h3, h4, h5, h6⟩
  · exact ⟨[], by simp [acells], rfl, fun i x h => by simp at h⟩
  · cases xs with
    | nil => exact ⟨[], by simp [acells], rfl, fun i x h => by simp at h⟩
    | cons y xs =>
      cases h1
      have hb : H.m id = some b := ((g.froz id h3).2).trans h4
      rw [hd] at h5 h6
      refine ⟨(b.cells.drop k).take (xs.length + 1), ?_, by simp at h5 ⊢; omega, fun i x hx => ?_⟩
      · simp only [List.length_cons, acells, hd, if_true, hb]
        rw [if_pos (by simp at h5; omega), Nat.mul_one]
      · have hi := (List.getElem?_eq_some_iff.1 hx).1
        simp only [List.length_cons] at hi h5
        obtain ⟨v, hv⟩ : ∃ v, b.cells[k + i * 1]? = some v := ⟨b.cells[k + i * 1]'(by omega), List.getElem?_eq_getElem (by omega)⟩
        have h7 := h6 i x hx
        have e : (b.cells.drop (k + i * 1)).take 1 = [v] := by rw [List.take_one, List.head?_drop, hv]; rfl
        rw [e] at h7
        exact ⟨v, by rw [List.getElem?_take, if_pos (by omega), List.getElem?_drop]; simpa using hv, h7⟩
theorem acells_I {ik : IntKind} {a : Option Addr} {c : Nat} {xs : List Int} {H : AH} (h : (Kn.int ik).Sl S H0 (.slice a xs.length c) xs) (g : Good S H0 T n H) : acells H (.slice a xs.length c) 1 = some (xs.length, xs.map (Value.int ik)) := by
  obtain ⟨ys, h1, h2, h3⟩ := acells_S rfl h g
  rw [h1]
  congr 2
  refine List.ext_getElem? fun i => ?_
  rcases Nat.lt_or_ge i xs.length with hi | hi
  · obtain ⟨v, h4, h5⟩ := h3 i xs[i] (List.getElem?_eq_getElem hi)
    have h5 : [v] = [Value.int ik xs[i]] := h5
    rw [h4, List.getElem?_map, List.getElem?_eq_getElem hi]
    simpa using h5
  · rw [List.getElem?_eq_none (by omega), List.getElem?_eq_none (by simpa using hi)]
/-- Nothing is appended. -/
theorem KW.appZ {o : Oper} {dr : Bool} {t el : TypeId} {x y : Operand} {inf : TypeInfo} {id len c : Nat} (h : Go1 P k e T n (.op o dr) k1 e1 T1 n1 l1 r1) (hlr : l1 = r1) (ho : o.op = .call { callee := .builtin .append, args := #[x, y], argTypes := #[t, t] }) (hd : o.dst = some d1) (hx : ev e1 x = .slice (some ⟨id, 0, some 1⟩) len c)
    (hu : P.underlying t = some (.slice el)) (hi : P.info? el = some inf) (hs : inf.size = 1) (hzo : zeroOkL P el = true) (hy : ∀ H, Good S H0 T1 n1 H → acells H (ev e1 y) 1 = some (0, []))
    (hk : KW P S H0 Q n1 T1 k1 (put1 e1 d1 (.slice (some ⟨id, 0, some 1⟩) len c))) : KW P S H0 Q n T k e := by
  refine KW.go h hlr (KEvt.heap (c := ⟨_, _, _, _, _, _⟩) _ _ _ (by rw [ho]; exact .inr rfl) (fun H g => ⟨none, _, ?_, g⟩) (by rw [hd, put1_eq]; exact hk))
  rw [ho]
  have h1 := hy H g
  simp only [hop, aappend, hu, hi, hs, hx, h1]
  rw [if_pos trivial, if_pos ⟨zeroOkL_ok hzo, by omega, by simp⟩]
  simp
theorem Good.idT {S0 : Ids} {H1 H2 : AH} {T T' : List Var} {n : Nat} (g : Good S0 H1 T n H2) (h : T = T') : Good S0 H1 T' n H2 := h ▸ g
/-- A list is appended to a literal, be it empty or not. -/
theorem KW.appV {o : Oper} {dr : Bool} {t el : TypeId} {x y : Operand} {inf : TypeInfo} {id len m L : Nat} {zs ys : List Value} (j : Nat) (h : Go1 P k e T n (.op o dr) k1 e1 T1 n1 l1 r1) (hlr : l1 = r1) (ho : o.op = .call { callee := .builtin .append, args := #[x, y], argTypes := #[t, t] }) (hd : o.dst = some d1) (hx : ev e1 x = .slice (some ⟨id, 0, some 1⟩) len len) (hT : T1[j]? = some (id, ⟨el, true, zs⟩))
    (hu : P.underlying t = some (.slice el)) (hi : P.info? el = some inf) (hs : inf.size = 1) (hzo : zeroOkL P el = true) (hy : ∀ H, Good S H0 T1 n1 H → acells H (ev e1 y) 1 = some (m, ys)) (hyl : ys.length = m) (hlen : zs.length = len) (hone : ∀ v ∈ ys, v.oneCell' = true) (hb : (len + m) * inf.bytes ≤ 140737488355328) (hml : len + m ≤ 9223372036854775807) (hL : len + m = L)
    (hk : ∀ o n', n1 ≤ n' → KW P S H0 Q n' (T1.set j (o, ⟨el, true, zs ++ ys⟩)) k1 (put1 e1 d1 (.slice (some ⟨o, 0, some 1⟩) L L))) : KW P S H0 Q n T k e := by
  subst hL
  rcases Nat.eq_zero_or_pos m with hm | hm
  · subst hm
    have hys : ys = [] := List.eq_nil_of_length_eq_zero hyl
    subst hys
    refine KW.appZ h hlr ho hd hx hu hi hs hzo hy ?_
    have h1 := hk id n1 (Nat.le_refl _)
    have e1 : T1.set j (id, ⟨el, true, zs ++ []⟩) = T1 := by
      rw [List.append_nil]
      refine List.ext_getElem? fun i => ?_
      by_cases hij : j = i
      · subst hij
        rw [List.getElem?_set_self (List.getElem?_eq_some_iff.1 hT).1, hT]
      · rw [List.getElem?_set_ne hij]
    rw [e1] at h1
    exact h1
  · exact KW.appT j h hlr ho hd hx hT hu hi hs hzo hy hlen hone (by omega) hb hml (hk _ _ (Nat.le_succ _))
/-- One element more, to a slice that one has made: a literal of one element, then append. -/
theorem KW.app1 (j m0 : Nat) {o o' : Oper} {dr dr' : Bool} {t el t' : TypeId} {m : Nat} {parts : Array (Nat × Operand)} {inf : TypeInfo} {z : Value} {x y : Operand} {len c id : Nat} {xs : List Value} {v : Value} (h : Go1 P k e T n (.op o dr) k1 e1 T1 n1 l1 r1) (hlr : l1 = r1) (ho : o.op = .buildSlice t m parts) (hd : o.dst = some d1)
    (hu : P.underlying t = some (.slice el)) (hi : P.info? el = some inf) (hs : inf.size = 1) (hz : inf.zero = some z) (hz1 : z.cells = #[z]) (hzo : zeroOkL P el = true) (hp : (parts.toList.map fun p => (p.1, ev e1 p.2)) = [(0, v)]) (hm : m = 1) (hv : v.cells = #[v]) (ho1 : v.oneCell' = true)
    (h' : Go1 P k1 (put1 e1 d1 (.slice (some ⟨n1, 0, some 1⟩) 1 1)) (T1 ++ [(n1, ⟨el, true, [v]⟩)]) (n1 + 1) (.op o' dr') k2 e2 T2 n2 l2 r2) (hlr' : l2 = r2) (ho' : o'.op = .call { callee := .builtin .append, args := #[x, y], argTypes := #[t', t'] }) (hd' : o'.dst = some d2) (hx' : ev e2 x = .slice (some ⟨id, 0, some 1⟩) len c) (hT : T2[j]? = some (id, ⟨el, true, xs⟩))
    (hu' : P.underlying t' = some (.slice el)) (hy' : ev e2 y = .slice (some ⟨n1, 0, some 1⟩) 1 1) (hT2 : T2[m0]? = some (n1, ⟨el, true, [v]⟩)) (hlen : xs.length = len) (hb : (len + 1) * inf.bytes ≤ 140737488355328) (hml : len + 1 ≤ 9223372036854775807)
    (hk : KW P S H0 Q (n2 + 1) ((T2.set j (n2, ⟨el, true, xs ++ [v]⟩)).take m0) k2 (put1 e2 d2 (.slice (some ⟨n2, 0, some 1⟩) (len + 1) (len + 1)))) : KW P S H0 Q n T k e :=
  KW.lit h hlr ho hd hu hi hs hz hz1 hzo [v] (by rw [hp]; rfl) hm (fun u hu => by rw [List.mem_singleton.1 hu]; exact hv) rfl
    (KW.appT (ys := [v]) (m := 1) j h' hlr' ho' hd' hx' hT hu' hi hs hzo (fun H g => by rw [hy']; exact acells_T (g.blk hT2).1 rfl rfl) hlen (fun u hu => by rw [List.mem_singleton.1 hu]; exact ho1) (by decide) hb hml (KW.take m0 hk))
/-- The first element. -/
theorem KW.app0 (m0 : Nat) {o o' : Oper} {dr dr' : Bool} {t el t' : TypeId} {m : Nat} {parts : Array (Nat × Operand)} {inf : TypeInfo} {z : Value} {x y : Operand} {v : Value} (h : Go1 P k e T n (.op o dr) k1 e1 T1 n1 l1 r1) (hlr : l1 = r1) (ho : o.op = .buildSlice t m parts) (hd : o.dst = some d1)
    (hu : P.underlying t = some (.slice el)) (hi : P.info? el = some inf) (hs : inf.size = 1) (hz : inf.zero = some z) (hz1 : z.cells = #[z]) (hzo : zeroOkL P el = true) (hp : (parts.toList.map fun p => (p.1, ev e1 p.2)) = [(0, v)]) (hm : m = 1) (hv : v.cells = #[v]) (ho1 : v.oneCell' = true)
    (h' : Go1 P k1 (put1 e1 d1 (.slice (some ⟨n1, 0, some 1⟩) 1 1)) (T1 ++ [(n1, ⟨el, true, [v]⟩)]) (n1 + 1) (.op o' dr') k2 e2 T2 n2 l2 r2) (hlr' : l2 = r2) (ho' : o'.op = .call { callee := .builtin .append, args := #[x, y], argTypes := #[t', t'] }) (hd' : o'.dst = some d2) (hx' : ev e2 x = .slice none 0 0)
    (hu' : P.underlying t' = some (.slice el)) (hy' : ev e2 y = .slice (some ⟨n1, 0, some 1⟩) 1 1) (hT2 : T2[m0]? = some (n1, ⟨el, true, [v]⟩)) (hb : inf.bytes ≤ 140737488355328)
    (hk : KW P S H0 Q (n2 + 1) (T2.take m0 ++ [(n2, ⟨el, true, [v]⟩)]) k2 (put1 e2 d2 (.slice (some ⟨n2, 0, some 1⟩) 1 1))) : KW P S H0 Q n T k e :=
  KW.lit h hlr ho hd hu hi hs hz hz1 hzo [v] (by rw [hp]; rfl) hm (fun u hu => by rw [List.mem_singleton.1 hu]; exact hv) rfl
    (KW.appN (ys := [v]) (m := 1) h' hlr' ho' hd' hx' hu' hi hs hzo (fun H g => by rw [hy']; exact acells_T (g.blk hT2).1 rfl rfl) (fun u hu => by rw [List.mem_singleton.1 hu]; exact ho1) (by decide) (by omega) (by decide) (fun H g => hk H
      ⟨g.n_, g.fin, g.froz, fun i w hi => by
        rw [List.getElem?_append] at hi
        split at hi
        · rename_i hlt
          rw [List.getElem?_take] at hi
          split at hi
          · exact g.vars i w (by rw [List.getElem?_append_left (List.getElem?_eq_some_iff.1 hi).1]; exact hi)
          · cases hi
        · rename_i hge
          obtain ⟨h1, h2⟩ := List.getElem?_eq_some_iff.1 hi
          simp at h1 h2
          subst h2
          exact g.vars T2.length _ (by simp),
      fun i i' u w hi hi' he => by
        have hm0 := (List.getElem?_eq_some_iff.1 hT2).1
        have get : ∀ {i : Nat} {u : Var}, (T2.take m0 ++ [(n2, ⟨el, true, [v]⟩)])[i]? = some u → (i = m0 ∧ u = (n2, ⟨el, true, [v]⟩)) ∨ (i < m0 ∧ (T2 ++ [(n2, (⟨el, true, [v]⟩ : Blk))])[i]? = some u) := fun {i u} hi => by
          have hl : (T2.take m0).length = m0 := by rw [List.length_take]; omega
          rw [List.getElem?_append] at hi
          split at hi
          · rename_i hlt
            rw [List.getElem?_take] at hi
            split at hi
            · exact .inr ⟨by omega, by rw [List.getElem?_append_left (by omega)]; exact hi⟩
            · cases hi
          · obtain ⟨h1, h2⟩ := List.getElem?_eq_some_iff.1 hi
            simp at h1 h2
            exact .inl ⟨by omega, h2.symm⟩
        have lst : (T2 ++ [(n2, (⟨el, true, [v]⟩ : Blk))])[T2.length]? = some (n2, ⟨el, true, [v]⟩) := by simp
        rcases get hi with ⟨e1, rfl⟩ | ⟨e1, k1⟩ <;> rcases get hi' with ⟨e2, rfl⟩ | ⟨e2, k2⟩
        · omega
        · have := g.dist _ _ _ _ lst k2 he; omega
        · have := g.dist _ _ _ _ k1 lst he; omega
        · exact g.dist _ _ _ _ k1 k2 he⟩))
/-- A struct of parts. -/
theorem KW.build {o : Oper} {dr : Bool} {t : TypeId} {parts : Array (Nat × Operand)} {cs : Array Value} (h : Go1 P k e T n (.op o dr) k1 e1 T1 n1 l1 r1) (hlr : l1 = r1) (ho : o.op = .build t parts) (hd : o.dst = some d1) (hz : zeroOkL P t = true) (hb : P.built t (parts.toList.map fun p => (p.1, ev e1 p.2)) = some cs) (hk : KW P S H0 Q n1 T1 k1 (put1 e1 d1 (.agg cs))) : KW P S H0 Q n T k e := by
  refine KW.pure h hlr ho hd rfl _ ?_ hk
  simp only [pop, abuild, hb]
  rw [if_pos (zeroOkL_ok hz)]
/-- A test of which the answer is known. -/
theorem KW.tT {t : Bool} (h : Go1 P k e T n (.test (some d1) t) k1 e1 T1 n1 l1 r1) (hlr : l1 = r1) (ht : t = true) (hk : KW P S H0 Q n1 T1 k1 (put1 e1 d1 (.bool true))) : KW P S H0 Q n T k e :=
  KW.tstB h hlr (fun _ => hk) (fun h => by rw [ht] at h; cases h)
theorem KW.tF {t : Bool} (h : Go1 P k e T n (.test (some d1) t) k1 e1 T1 n1 l1 r1) (hlr : l1 = r1) (ht : t = false) (hk : KW P S H0 Q n1 T1 k1 (put1 e1 d1 (.bool false))) : KW P S H0 Q n T k e :=
  KW.tstB h hlr (fun h => by rw [ht] at h; cases h) (fun _ => hk)
theorem KW.cT {t : Bool} {a b : Code} (h : Go1 P k e T n (.cond t a b) k1 e1 T1 n1 l1 r1) (hlr : l1 = r1) (ht : t = true) (hk : KW P S H0 Q n1 T1 (.code a :: k1) e1) : KW P S H0 Q n T k e :=
  KW.cndB h hlr (fun _ => hk) (fun h => by rw [ht] at h; cases h)
theorem KW.cF {t : Bool} {a b : Code} (h : Go1 P k e T n (.cond t a b) k1 e1 T1 n1 l1 r1) (hlr : l1 = r1) (ht : t = false) (hk : KW P S H0 Q n1 T1 (.code b :: k1) e1) : KW P S H0 Q n T k e :=
  KW.cndB h hlr (fun h => by rw [ht] at h; cases h) (fun _ => hk)
theorem KW.yes {p : Prop} [Decidable p] {a b : Code} (h : Go1 P k e T n (.cond (decide p) a b) k1 e1 T1 n1 l1 r1) (hlr : l1 = r1) (ht : p) (hk : KW P S H0 Q n1 T1 (.code a :: k1) e1) : KW P S H0 Q n T k e :=
  KW.cnd h hlr (fun _ => hk) (fun h => (h ht).elim)
theorem KW.no {p : Prop} [Decidable p] {a b : Code} (h : Go1 P k e T n (.cond (decide p) a b) k1 e1 T1 n1 l1 r1) (hlr : l1 = r1) (ht : ¬ p) (hk : KW P S H0 Q n1 T1 (.code b :: k1) e1) : KW P S H0 Q n T k e :=
  KW.cnd h hlr (fun h => (ht h).elim) (fun _ => hk)
theorem KW.tyes {p : Prop} [Decidable p] (h : Go1 P k e T n (.test (some d1) (decide p)) k1 e1 T1 n1 l1 r1) (hlr : l1 = r1) (ht : p) (hk : KW P S H0 Q n1 T1 k1 (put1 e1 d1 (.bool true))) : KW P S H0 Q n T k e :=
  KW.tst h hlr (fun _ => hk) (fun h => (h ht).elim)
theorem KW.tno {p : Prop} [Decidable p] (h : Go1 P k e T n (.test (some d1) (decide p)) k1 e1 T1 n1 l1 r1) (hlr : l1 = r1) (ht : ¬ p) (hk : KW P S H0 Q n1 T1 k1 (put1 e1 d1 (.bool false))) : KW P S H0 Q n T k e :=
  KW.tst h hlr (fun h => (ht h).elim) (fun _ => hk)
end
theorem bload_at {P : Program} {b : Blk} {t : TypeId} {k : Nat} {v : Value} {td : TypeDesc} (hc : b.cells[k]? = some v) (hu : P.underlying t = some td) (hnot : (match td with | .struct _ => false | .array _ _ => false | _ => true) = true) : bload P b t k = some v := by
  unfold bload
  simp only [hu]
  cases td <;> first | exact hc | (simp at hnot)
/-- A block that one may write becomes a variable. -/
theorem KW.thaw {P : Program} {S : Ids} {H0 : AH} {Q : PostC} {k : List It} {e : Env} {T : List Var} {n : Nat} (o : Nat) (b : Blk) (hS : S o) (hm : H0.m o = some b) (hk : KW P (fun id => S id ∧ id ≠ o) H0 Q n (T ++ [(o, b)]) k e) : KW P S H0 Q n T k e := fun H g => by
  have get : ∀ {i : Nat} {u : Var}, (T ++ [(o, b)])[i]? = some u → (i = T.length ∧ u = (o, b)) ∨ (T[i]? = some u) := fun {i u} hi => by
    rw [List.getElem?_append] at hi
    split at hi
    · exact .inr hi
    · obtain ⟨h1, h2⟩ := List.getElem?_eq_some_iff.1 hi
      simp at h1 h2
      exact .inl ⟨by omega, h2.symm⟩
  refine hk H ⟨g.n_, g.fin, fun id hid => g.froz id hid.1, fun i u hi => ?_, fun i j u w hi hj he => ?_⟩
  · rcases get hi with ⟨_, rfl⟩ | h
    · obtain ⟨h1, h2⟩ := g.froz o hS
      exact ⟨h2.trans hm, h1, fun h => h.2 rfl⟩
    · exact ⟨(g.vars i u h).1, (g.vars i u h).2.1, fun hh => (g.vars i u h).2.2 hh.1⟩
  · rcases get hi with ⟨e1, rfl⟩ | h1 <;> rcases get hj with ⟨e2, rfl⟩ | h2
    · omega
    · exact absurd (by rw [← he]; exact hS) (g.vars j w h2).2.2
    · exact absurd (by rw [he]; exact hS) (g.vars i u h1).2.2
    · exact g.dist i j u w h1 h2 he
theorem On.thaw {X S : Ids} {H H0 : AH} {o : Nat} [t : On X H S H0] (h : ∀ id, X id → id ≠ o) : On X H (fun id => S id ∧ id ≠ o) H0 := ⟨fun id hid => ⟨⟨(t.st id hid).1, h id hid⟩, (t.st id hid).2⟩⟩
theorem Kn.Ml.ints {ik : IntKind} {X : Ids} {H : AH} {v : Value} {xs : List Int} (h : (Kn.int ik).Ml X H v xs) (hx : xs ≠ []) : ∃ (o c : Nat) (b : Blk), v = .slice (some ⟨o, 0, some 1⟩) xs.length c ∧ xs.length ≤ c ∧ X o ∧ H.m o = some b ∧ b.rw = true ∧ xs.length ≤ b.cells.length ∧ ∀ (i : Nat) x, xs[i]? = some x → b.cells[i]? = some (.int ik x) := by
  rcases h with ⟨h, _⟩ | ⟨o, c, b, W, h1, h2, h3, h4, h5, h6, h7, h8, h9⟩
  · exact absurd h hx
  · refine ⟨o, c, b, h1, h2, h3, h4, h5, by have : xs.length * 1 ≤ b.cells.length := h6; omega, fun i x hi => ?_⟩
    have : ((b.cells.drop (0 + i * 1)).take 1) = [.int ik x] := h9 i x hi
    have := cell_of this
    simpa using this
theorem mlI_of {ik : IntKind} {X : Ids} {H : AH} {o c : Nat} {b : Blk} {ys : List Int} (hX : X o) (hm : H.m o = some b) (hrw : b.rw = true) (hc : ys.length ≤ c) (hl : ys.length ≤ b.cells.length) (h : ∀ (i : Nat) x, ys[i]? = some x → b.cells[i]? = some (.int ik x)) : (Kn.int ik).Ml X H (.slice (some ⟨o, 0, some 1⟩) ys.length c) ys :=
  .inr ⟨o, c, b, fun _ _ => False, rfl, hc, hX, hm, hrw, by show ys.length * 1 ≤ _; omega, fun _ _ h => h.elim, fun _ _ _ h => h.elim, fun i x hi => by
    show (b.cells.drop (0 + i * 1)).take 1 = [_]
    rw [List.take_one, Nat.zero_add, Nat.mul_one, List.head?_drop, h i x hi]; rfl⟩
/-- A whole number, wrapped to no effect. -/
theorem vI {x y : Int} (h : x = y) (h1 : -9223372036854775808 ≤ y) (h2 : y ≤ 9223372036854775807) : Value.int .i64 (IntKind.i64.wrap x) = .int .i64 y := by rw [h, wr h1 h2]
theorem vU {x y : Int} (h : x = y) (h1 : 0 ≤ y) (h2 : y < 18446744073709551616) : Value.int .u64 (IntKind.u64.wrap x) = .int .u64 y := by rw [h, wru h1 h2]
end Go.Proofs.Ytaepgfafbnjccaa.Am
/- What the laws' own functions do, type by type: rows of numbers; how structs stand in memory. Each holds under its own conditions. -/
set_option linter.unusedVariables false
set_option maxRecDepth 20000
namespace Go.Proofs.Ytaepgfafbnjccaa.Am
open Go Go.RowKit Go.Proofs
theorem all_of {α : Type} {xs : List α} {p : α → Prop} (h : ∀ j, j < xs.length → ∀ x, xs[j]? = some x → p x) : ∀ x ∈ xs, p x := fun x hx => by
  obtain ⟨j, hj⟩ := List.getElem?_of_mem hx
  exact h j (List.getElem?_eq_some_iff.1 hj).1 x hj
def None_ : Ids := fun _ => False
section
variable {α β : Type} {d : Kn α} {S S' X Y Z : Ids} {H H' : AH} {v : Value} {xs : List α} {x : α} {y : β} {cs ds : List Value}
theorem sl1 (h : d.sl.R S H xs [v]) : d.Sl S H v xs := by
  obtain ⟨s, h1, h2⟩ := h
  obtain rfl : v = s := by simpa using h1
  exact h2
theorem sl1' (h : d.Sl S H v xs) : d.sl.R S H xs [v] := ⟨v, rfl, h⟩
theorem ml1 (h : d.ml.R S H xs [v]) : d.Ml S H v xs := by
  obtain ⟨s, h1, h2⟩ := h
  obtain rfl : v = s := by simpa using h1
  exact h2
theorem ml1' (h : d.Ml S H v xs) : d.ml.R S H xs [v] := ⟨v, rfl, h⟩
theorem mlform (h : d.ml.R S H xs cs) : ∃ a c, cs = [.slice a xs.length c] := by
  obtain ⟨s, rfl, h2⟩ := h
  obtain ⟨a, c, rfl⟩ := h2.form
  exact ⟨a, c, rfl⟩
theorem slform (h : d.sl.R S H xs cs) : ∃ a c, cs = [.slice a xs.length c] := by
  obtain ⟨s, rfl, h2⟩ := h
  obtain ⟨a, c, rfl⟩ := h2.form
  exact ⟨a, c, rfl⟩
theorem prR {a : Kn α} {b : Kn β} (h : a.R S H x cs) (k : b.R S H y ds) : (Kn.pair a b).R S H (x, y) (cs ++ ds) := ⟨cs, ds, rfl, h, k⟩
theorem mpR {a : Kn α} {b : Kn β} (h : a.R X H x cs) (k : b.R Y H y ds) (hX : ∀ id, X id → Z id) (hY : ∀ id, Y id → Z id) (hd : ∀ id, X id → Y id → False) : (Kn.mp a b).R Z H (x, y) (cs ++ ds) := ⟨cs, ds, X, Y, rfl, hX, hY, hd, h, k⟩
theorem Good.keep {S0 : Ids} {H0 H2 : AH} {T : List Var} {n : Nat} (g : Good S0 H0 T n H2) [o : On X H S0 H0] (h : d.R X H x cs) : d.R X H2 x cs :=
  d.same (fun id hid => ((g.froz id (o.st id hid).1).2).trans (o.st id hid).2) h
theorem Good.inn {S0 : Ids} {H0 H2 : AH} {T : List Var} {n lo : Nat} (g : Good S0 H0 T n H2) [o : On X H S0 H0] (hX : ∀ id, X id → lo ≤ id) : ∀ id, X id → New lo H2.n id := fun id hid => ⟨hX id hid, by have := (g.froz id (o.st id hid).1).1; have := g.n_; omega⟩
end
/-- A fact on memory with what it rests on. -/
structure Fk {α : Type} (d : Kn α) (X S : Ids) (H : AH) (x : α) (cs : List Value) : Prop where
  r : d.R X H x cs
  i : ∀ id, X id → S id
section
variable {α : Type} {d : Kn α} {X X' S S' W : Ids} {H H1 : AH} {x : α} {cs : List Value}
theorem Fk.up [o : On S H S' H1] (h : Fk d X S H x cs) : Fk d X S' H1 x cs := ⟨d.same (fun id hid => (o.st id (h.i id hid)).2) h.r, fun id hid => (o.st id (h.i id hid)).1⟩
theorem Fk.all [o : On S H S' H1] (h : Fk d X S H x cs) : d.R S' H1 x cs := d.more (fun id hid => (o.st id (h.i id hid)).1) (d.same (fun id hid => (o.st id (h.i id hid)).2) h.r)
theorem Fk.w (h : Fk d X S H x cs) (t : StW W S H S' H1) (hd : ∀ id, X id → W id → False) : Fk d X S' H1 x cs := ⟨d.same (fun id hid => (t id (h.i id hid)).2 (hd id hid)) h.r, fun id hid => (t id (h.i id hid)).1⟩
theorem Fk.mk' (h : d.R X H x cs) (k : d.R X H x cs → d.R X' H x cs) (hi : ∀ id, X' id → S id) : Fk d X' S H x cs := ⟨k h, hi⟩
theorem Fk.on [o : On X H S H1] (h : d.R X H x cs) : Fk d X S H1 x cs := ⟨d.same (fun id hid => (o.st id hid).2) h, fun id hid => (o.st id hid).1⟩
theorem Fk.st (h : Fk d X S H x cs) : d.R S H x cs := d.more h.i h.r
theorem Fk.le {d' : Kn α} (k : KLe d d') (h : Fk d X S H x cs) : Fk d' X S H x cs := ⟨k.2 _ _ _ _ h.r, h.i⟩
end
/-- Marks, row by row. -/
def mks {α : Type} (mk : Int → α → α) (sz : α → Nat) (k : Int) : List α → List α
  | [] => []
  | x :: l => mk k x :: mks mk sz (k + sz x) l
theorem mks_len {α : Type} (mk : Int → α → α) (sz : α → Nat) (k : Int) (l : List α) : (mks mk sz k l).length = l.length := by
  induction l generalizing k with
  | nil => rfl
  | cons n l ih => simp [mks, ih]
theorem mks_at {α : Type} {mk : Int → α → α} {sz : α → Nat} {l : List α} {i : Nat} {x : α} (k : Int) (h : l[i]? = some x) : (mks mk sz k l)[i]? = some (mk (k + sum ((l.map sz).take i)) x) := by
  induction l generalizing i k with
  | nil => simp at h
  | cons m l ih =>
    cases i with
    | zero => cases h; simp [mks, sum]
    | succ i =>
      have h : l[i]? = some x := by simpa using h
      simp only [mks, List.getElem?_cons_succ, List.map_cons, List.take_succ_cons, sum]
      rw [ih (k + sz m) h]
      congr 2
      omega
abbrev K_Int64S : Kn (List Int) := KI.sl
abbrev M_Int64S : Kn (List Int) := KI.ml
abbrev B_Int64S (x : List Int) : Prop := x.length ≤ 1048576
abbrev W_Int64S (x : List Int) : Prop := x.length ≤ 9223372036854775807
abbrev sz_Int64S (x : List Int) : Nat := x.length
abbrev mk_Int64S (k : Int) (x : List Int) : List Int := cnt k x.length
abbrev K_Int64SS : Kn (List (List Int)) := KI.sl.sl
abbrev M_Int64SS : Kn (List (List Int)) := KI.ml.ml
abbrev B_Int64SS (x : List (List Int)) : Prop := Sml x
abbrev W_Int64SS (x : List (List Int)) : Prop := x.length ≤ 9223372036854775807 ∧ ∀ y ∈ x, y.length ≤ 9223372036854775807
abbrev sz_Int64SS (x : List (List Int)) : Nat := sum (lens x)
abbrev mk_Int64SS (k : Int) (x : List (List Int)) : List (List Int) := mks mk_Int64S sz_Int64S k x
theorem cnts_mks (k : Int) (l : List (List Int)) : cnts k (lens l) = mks mk_Int64S sz_Int64S k l := by
  induction l generalizing k with
  | nil => rfl
  | cons x l ih => simp only [lens, List.map_cons, cnts, mks] at ih ⊢; rw [ih]
theorem size_Int64S {x : List Int} (hB : B_Int64S x) : sz_Int64S x ≤ 1048576 := hB
theorem size_Int64SS {x : List (List Int)} (hB : B_Int64SS x) : sz_Int64SS x ≤ 1048576 := hB.tot
theorem le_Int64S : KLe M_Int64S K_Int64S := KLe.row (KLe.refl KI)
theorem le_Int64SS : KLe M_Int64SS K_Int64SS := KLe.row le_Int64S
section
variable {S : Ids} {H0 : AH} {W : Ids} {a a' : Option Addr} {c c' : Nat} {left k : Int}
theorem to_Int64S {x : List Int} (hB : B_Int64S x) (hs : K_Int64S.R S H0 x [.slice a x.length c]) : SpecM Try.prog S H0 27 [.slice a x.length c] (fun n v H1 => ∃ a c, v = .slice a x.length c ∧ M_Int64S.R (New n H1.n) H1 x [.slice a x.length c]) := fun H h1 h2 => by
  obtain ⟨m, v, H1, h3, h4, h5, a, c, h6, h7⟩ := toInt64S hB (sl1 hs) H h1 h2
  exact ⟨m, v, H1, h3, h4, h5, a, c, h6, ml1' h7⟩
theorem to_Int64SS {x : List (List Int)} (hB : B_Int64SS x) (hs : K_Int64SS.R S H0 x [.slice a x.length c]) : SpecM Try.prog S H0 43 [.slice a x.length c] (fun n v H1 => ∃ a c, v = .slice a x.length c ∧ M_Int64SS.R (New n H1.n) H1 x [.slice a x.length c]) := fun H h1 h2 => by
  obtain ⟨m, v, H1, h3, h4, h5, a, c, h6, h7⟩ := toInt64SS hB.len hB.each (sl1 hs) H h1 h2
  exact ⟨m, v, H1, h3, h4, h5, a, c, h6, ml1' h7⟩
theorem eq_Int64S {x : List Int} (hB : B_Int64S x) (hs : K_Int64S.R S H0 x [.slice a x.length c]) (hs' : K_Int64S.R S H0 x [.slice a' x.length c']) : Spec Try.prog S H0 29 [.slice a x.length c, .slice a' x.length c'] (fun v => v = .bool true) := eqInt64S1 hB (sl1 hs) (sl1 hs')
theorem eq_Int64SS {x : List (List Int)} (hB : B_Int64SS x) (hs : K_Int64SS.R S H0 x [.slice a x.length c]) (hs' : K_Int64SS.R S H0 x [.slice a' x.length c']) : Spec Try.prog S H0 46 [.slice a x.length c, .slice a' x.length c'] (fun v => v = .bool true) := eqInt64SS1 hB.len hB.each (sl1 hs) (sl1 hs')
theorem sz_Int64S' {x : List Int} (h0 : 0 ≤ left) (h1 : left ≤ 1048576) (hW : W_Int64S x) (hs : K_Int64S.R S H0 x [.slice a x.length c]) : Spec Try.prog S H0 71 [.slice a x.length c, .int .i64 left] (SzPost left (B_Int64S x)) := szInt64S h0 h1 hW
theorem sz_Int64SS' {x : List (List Int)} (h0 : 0 ≤ left) (h1 : left ≤ 1048576) (hW : W_Int64SS x) (hs : K_Int64SS.R S H0 x [.slice a x.length c]) : Spec Try.prog S H0 41 [.slice a x.length c, .int .i64 left] (SzPost left (B_Int64SS x)) := fun H h2 h3 => by
  obtain ⟨m, v, H1, h4, h5, h6, r, h7, h8⟩ := szInt64SS h0 h1 hW.1 hW.2 (sl1 hs) H h2 h3
  exact ⟨m, v, H1, h4, h5, h6, r, h7, h8.imp id (fun h => ⟨h.1, h.2.1, ⟨h.2.2.1, h.2.2.2⟩⟩)⟩
/-- Where marks may begin. -/
abbrev Mk (k : Int) (z : Nat) : Prop := 0 ≤ k ∧ k + z ≤ 274877906944
theorem mark_Int64S {x : List Int} (hB : B_Int64S x) (hk : Mk k (sz_Int64S x)) (hW : ∀ id, W id → S id) (hs : M_Int64S.R W H0 x [.slice a x.length c]) : SpecW Try.prog S H0 W 33 [.slice a x.length c, .int .i64 k] (fun n v H1 => v = .int .i64 (k + sz_Int64S x) ∧ M_Int64S.R W H1 (mk_Int64S k x) [.slice a x.length c]) := fun H h1 h2 => by
  obtain ⟨m, v, H1, h3, h4, h5, h6, h7, h8⟩ := markInt64S (by show x.length ≤ _; have : x.length ≤ 1048576 := hB; omega) ⟨hk.1, by have := hk.2; omega⟩ hW (ml1 hs) H h1 h2
  exact ⟨m, v, H1, h3, h4, h5, h6, h7, ml1' h8⟩
theorem mark_Int64SS {x : List (List Int)} (hB : B_Int64SS x) (hk : Mk k (sz_Int64SS x)) (hW : ∀ id, W id → S id) (hs : M_Int64SS.R W H0 x [.slice a x.length c]) : SpecW Try.prog S H0 W 47 [.slice a x.length c, .int .i64 k] (fun n v H1 => v = .int .i64 (k + sz_Int64SS x) ∧ M_Int64SS.R W H1 (mk_Int64SS k x) [.slice a x.length c]) := fun H h1 h2 => by
  obtain ⟨m, v, H1, h3, h4, h5, h6, h7, h8⟩ := markInt64SS (by have := hB.len; omega) (by have := hB.tot; omega) ⟨hk.1, by have := hk.2; omega⟩ hW (ml1 hs) H h1 h2
  exact ⟨m, v, H1, h3, h4, h5, h6, h7, ml1' (by rw [cnts_mks] at h8; exact h8)⟩
end
end Go.Proofs.Ytaepgfafbnjccaa.Am
/- What has been held, at rows of numbers. Each holds under its own conditions. -/
set_option linter.unusedVariables false
set_option maxRecDepth 20000
namespace Go.Proofs.Ytaepgfafbnjccaa.Am
open Go Go.RowKit Go.Proofs
section
variable {S : Ids} {H0 : AH} {W : Ids} {a a' : Option Addr} {c c' : Nat} {left k : Int}
theorem held_Int64S {x : List Int} (hB : B_Int64S x) (hk : Mk k (sz_Int64S x)) (hs : K_Int64S.R S H0 (mk_Int64S k x) [.slice a (mk_Int64S k x).length c]) : Spec Try.prog S H0 34 [.slice a (mk_Int64S k x).length c, .int .i64 k] (fun v => v = .int .i64 (k + sz_Int64S x)) := heldInt64S (by show x.length ≤ _; have : x.length ≤ 1048576 := hB; omega) ⟨hk.1, by have := hk.2; omega⟩ (sl1 hs)
theorem held_Int64SS {x : List (List Int)} (hB : B_Int64SS x) (hk : Mk k (sz_Int64SS x)) (hs : K_Int64SS.R S H0 (mk_Int64SS k x) [.slice a (mk_Int64SS k x).length c]) : Spec Try.prog S H0 106 [.slice a (mk_Int64SS k x).length c, .int .i64 k] (fun v => v = .int .i64 (k + sz_Int64SS x)) := by
  have hs := sl1 hs
  have hn : (mk_Int64SS k x).length = x.length := mks_len _ _ _ _
  have hxl : x.length ≤ 1048576 := hB.len
  refine Spec.of1 Try.func106 rfl (by kernel_rfl) rfl (fun H _ => ?_)
  refine KW.lp rfl rfl (fun i : Nat => [(0, .slice a (mk_Int64SS k x).length c), (1, .int .i64 (k + sum ((x.map sz_Int64S).take i))), (5, .int .i64 i)]) (fun i => i ≤ x.length) (fun i => x.length - i) (0) (by omega) ⟨rfl, congrArg (Value.int .i64) (by simp [sum]), rfl, trivial⟩ (fun i hi bE n => ?_)
  have hsl := sum_le (l := x.map sz_Int64S) i
  have hk1 := hk.1
  have hk2 : k + (sum (x.map sz_Int64S) : Nat) ≤ 274877906944 := hk.2
  refine KW.cnd rfl rfl (fun h => ?_) (fun h => ?_)
  · refine KW.getL hs.up rfl rfl rfl rfl rfl rfl rfl rfl rfl rfl rfl rfl rfl rfl rfl rfl (by omega) (by omega) (fun y a' m hy hsy => ?_)
    have hy : (mk_Int64SS k x)[i]? = some y := hy
    obtain ⟨z, hz⟩ : ∃ z, x[i]? = some z := ⟨x[i]'(by omega), List.getElem?_eq_getElem (by omega)⟩
    rw [mks_at k hz] at hy
    cases hy
    have hzl : (x.map sz_Int64S)[i]? = some (sz_Int64S z) := by simp [hz]
    have hsum := sum_take hzl
    have hsl1 := sum_le (l := x.map sz_Int64S) (i + 1)
    refine KW.callE rfl rfl rfl rfl rfl (held_Int64S (hB.each z (List.mem_of_getElem? hz)) (by constructor <;> omega) (sl1' hsy)) (fun _ _ => ?_)
    refine KW.no rfl rfl (by omega) ?_
    refine KW.nxt rfl rfl (fun H' g => ⟨i + 1, by omega, by first | omega | (simp only; omega), ⟨rfl, congrArg (Value.int .i64) (by rw [hsum]; omega), congrArg (Value.int .i64) (inc64 (by omega)), trivial⟩, g⟩)
  · refine KW.ret rfl rfl rfl rfl (congrArg (Value.int .i64) ?_)
    obtain rfl : i = x.length := by omega
    rw [List.take_of_length_le (by simp)]
theorem held_Int64S' {x : List Int} (hB : B_Int64S x) (hk : Mk k (sz_Int64S x)) (hs : K_Int64S.R S H0 (mk_Int64S k x) [.slice a x.length c]) : Spec Try.prog S H0 34 [.slice a x.length c, .int .i64 k] (fun v => v = .int .i64 (k + sz_Int64S x)) := by
  have e : (mk_Int64S k x).length = x.length := cnt_len _ _
  rw [← e] at hs ⊢
  exact held_Int64S hB hk hs
theorem held_Int64SS' {x : List (List Int)} (hB : B_Int64SS x) (hk : Mk k (sz_Int64SS x)) (hs : K_Int64SS.R S H0 (mk_Int64SS k x) [.slice a x.length c]) : Spec Try.prog S H0 106 [.slice a x.length c, .int .i64 k] (fun v => v = .int .i64 (k + sz_Int64SS x)) := by
  have e : (mk_Int64SS k x).length = x.length := mks_len _ _ _ _
  rw [← e] at hs ⊢
  exact held_Int64SS hB hk hs
end
end Go.Proofs.Ytaepgfafbnjccaa.Am
/- What the laws' own functions do at Ranks: sizes, copies, equality, marks. Each holds under its own conditions. -/
set_option linter.unusedVariables false
set_option maxRecDepth 20000
namespace Go.Proofs.Ytaepgfafbnjccaa.Am
open Go Go.RowKit Go.Proofs
abbrev T_Ranks : Type := (Int) × (Int) × (List Int)
abbrev K_Ranks : Kn T_Ranks := Kn.pair (KI) (Kn.pair (KI) (K_Int64S))
abbrev M_Ranks : Kn T_Ranks := Kn.mp (KI) (Kn.mp (KI) (M_Int64S))
theorem le_Ranks : KLe M_Ranks K_Ranks := KLe.pair ((KLe.refl KI)) (KLe.pair ((KLe.refl KI)) (le_Int64S))
abbrev B_Ranks (x : T_Ranks) : Prop := I64 x.1 ∧ I64 x.2.1 ∧ B_Int64S x.2.2
abbrev W_Ranks (x : T_Ranks) : Prop := I64 x.1 ∧ I64 x.2.1 ∧ W_Int64S x.2.2
abbrev sz_Ranks (x : T_Ranks) : Nat := sz_Int64S x.2.2
abbrev mk_Ranks (k : Int) (x : T_Ranks) : T_Ranks := (x.1, x.2.1, mk_Int64S (k) x.2.2)
theorem size_Ranks {x : T_Ranks} (hB : B_Ranks x) : sz_Ranks x ≤ 1048576 := by have := size_Int64S hB.2.2; simp only [sz_Ranks]; omega
section
variable {S : Ids} {H0 : AH} {W : Ids} {left k : Int}
theorem form_Ranks {x : T_Ranks} {cs : List Value} (h : K_Ranks.R S H0 x cs) : ∃ a1 c1, cs = [.int .i64 x.1, .int .i64 x.2.1, .slice a1 x.2.2.length c1] := by
  obtain ⟨e0, d0, rfl, h0, h0_⟩ := h
  obtain ⟨e1, d1, rfl, h1, h1_⟩ := h0_
  have h2 := h1_
  obtain rfl := KI_of h0
  obtain rfl := KI_of h1
  obtain ⟨a1, c1, rfl⟩ := slform h2
  exact ⟨a1, c1, rfl⟩
theorem formM_Ranks {x : T_Ranks} {cs : List Value} (h : M_Ranks.R S H0 x cs) : ∃ a1 c1, cs = [.int .i64 x.1, .int .i64 x.2.1, .slice a1 x.2.2.length c1] := form_Ranks (le_Ranks.2 _ _ _ _ h)
theorem split_Ranks {x : T_Ranks} {cs : List Value} (h : K_Ranks.R S H0 x cs) : ∃ a1 c1, cs = [.int .i64 x.1, .int .i64 x.2.1, .slice a1 x.2.2.length c1] ∧ K_Int64S.R S H0 x.2.2 [.slice a1 x.2.2.length c1] := by
  obtain ⟨e0, d0, rfl, h0, h0_⟩ := h
  obtain ⟨e1, d1, rfl, h1, h1_⟩ := h0_
  have h2 := h1_
  obtain rfl := KI_of h0
  obtain rfl := KI_of h1
  obtain ⟨a1, c1, rfl⟩ := slform h2
  exact ⟨a1, c1, rfl, h2⟩
theorem splitM_Ranks {x : T_Ranks} {cs : List Value} (h : M_Ranks.R S H0 x cs) : ∃ (a1 : Option Addr) (c1 : Nat) (X2 : Ids), cs = [.int .i64 x.1, .int .i64 x.2.1, .slice a1 x.2.2.length c1] ∧ M_Int64S.R X2 H0 x.2.2 [.slice a1 x.2.2.length c1] ∧ (∀ id, X2 id → S id) := by
  obtain ⟨e0, d0, X0, Y0, rfl, i0, j0, q0, h0, h0_⟩ := h
  obtain ⟨e1, d1, X1, Y1, rfl, i1, j1, q1, h1, h1_⟩ := h0_
  have h2 := h1_
  obtain rfl := KI_of h0
  obtain rfl := KI_of h1
  obtain ⟨a1, c1, rfl⟩ := mlform h2
  exact ⟨a1, c1, Y1, rfl, h2, fun _ p => j0 _ (j1 _ p)⟩
theorem to_Ranks {x : T_Ranks} {cs : List Value} (hB : B_Ranks x) (h : K_Ranks.R S H0 x cs) : SpecM Try.prog S H0 21 [.agg cs.toArray] (fun n v H1 => ∃ cs, v = .agg cs.toArray ∧ M_Ranks.R (New n H1.n) H1 x cs) := by
  obtain ⟨a1, c1, rfl, h2⟩ := split_Ranks h
  refine SpecM.of1 Try.func21 rfl (by kernel_rfl) rfl (fun H _ => ?_)
  refine KW.callN1 rfl rfl rfl rfl rfl (to_Int64S hB.2.2 (On.R h2)) (fun v G2 S2 m2 _ _ hv => ?_)
  obtain ⟨b2, d2, rfl, g2⟩ := hv
  refine KW.retM1 rfl rfl rfl rfl (fun H1 g => ?_)
  refine ⟨_, rfl, ?_⟩
  have k2 : M_Int64S.R (New H.n H1.n) H1 x.2.2 [.slice b2 x.2.2.length d2] := (M_Int64S).more (g.inn (H := G2) (fun _ p => by have := p.1; omega)) (g.keep g2)
  have k1 : (Kn.mp (KI) (M_Int64S)).R (New H.n H1.n) H1 (x.2) [.int .i64 x.2.1, .slice b2 x.2.2.length d2] := mpR (X := None_) (show KI.R None_ H1 _ [.int .i64 x.2.1] from rfl) k2 (fun _ p => p.elim) (fun _ p => p) (fun _ p _ => p.elim)
  have k0 : (Kn.mp (KI) (Kn.mp (KI) (M_Int64S))).R (New H.n H1.n) H1 (x) [.int .i64 x.1, .int .i64 x.2.1, .slice b2 x.2.2.length d2] := mpR (X := None_) (show KI.R None_ H1 _ [.int .i64 x.1] from rfl) k1 (fun _ p => p.elim) (fun _ p => p) (fun _ p _ => p.elim)
  exact k0
theorem eq_Ranks {x : T_Ranks} {cs cs' : List Value} (hB : B_Ranks x) (h : K_Ranks.R S H0 x cs) (h' : K_Ranks.R S H0 x cs') : Spec Try.prog S H0 24 [.agg cs.toArray, .agg cs'.toArray] (fun v => v = .bool true) := by
  obtain ⟨a1, c1, rfl, h2⟩ := split_Ranks h
  obtain ⟨b1, d1, rfl, k2⟩ := split_Ranks h'
  refine Spec.of1 Try.func24 rfl (by kernel_rfl) rfl (fun H _ => ?_)
  refine KW.cF rfl rfl (by first | (simp; done) | decide) ?_
  refine KW.cF rfl rfl (by first | (simp; done) | decide) ?_
  refine KW.callE rfl rfl rfl rfl rfl (eq_Int64S hB.2.2 (On.R h2) (On.R k2)) (fun _ _ => ?_)
  refine KW.cF rfl rfl (by first | (simp; done) | decide) ?_
  exact KW.ret rfl rfl rfl rfl (rfl)
theorem sz_Ranks' {x : T_Ranks} {cs : List Value} (l0 : 0 ≤ left) (l1 : left ≤ 1048576) (hW : W_Ranks x) (h : K_Ranks.R S H0 x cs) : Spec Try.prog S H0 18 [.agg cs.toArray, .int .i64 left] (SzPost left (B_Ranks x)) := by
  obtain ⟨a1, c1, rfl, h2⟩ := split_Ranks h
  refine Spec.of1 Try.func18 rfl (by kernel_rfl) rfl (fun H _ => ?_)
  refine KW.call rfl rfl rfl rfl rfl (sz_Int64S' l0 l1 hW.2.2 (On.R h2)) (fun v _ _ hv => ?_)
  obtain ⟨r2, rfl, k2⟩ := hv
  refine KW.cnd rfl rfl (fun h => KW.ret rfl rfl rfl rfl ⟨-1, rfl, .inl rfl⟩) (fun h => ?_)
  have k2 := k2.resolve_left (by omega)
  exact KW.ret rfl rfl rfl rfl (⟨_, rfl, .inr ⟨k2.1, by have := k2.2.1; omega, hW.1, hW.2.1, k2.2.2⟩⟩)
theorem mark_Ranks {x : T_Ranks} {cs : List Value} (hB : B_Ranks x) (hk : Mk k (sz_Ranks x)) (hW : ∀ id, W id → S id) (h : M_Ranks.R W H0 x cs) : SpecW Try.prog S H0 W 37 [.agg cs.toArray, .int .i64 k] (fun n v H1 => v = .int .i64 (k + (sz_Ranks x : Nat)) ∧ M_Ranks.R W H1 (mk_Ranks k x) cs) := by
  obtain ⟨a1, c1, X2, rfl, h2, i2⟩ := splitM_Ranks h
  refine SpecW.of0 Try.func37 rfl (by kernel_rfl) rfl (fun H hfin hfz => ?_)
  have F2 : Fk M_Int64S X2 (Low H.n) H _ _ := ⟨(M_Int64S).same (fun id hid => (hfz id (hW id (i2 id hid))).2) h2, fun id hid => (hfz id (hW id (i2 id hid))).1⟩
  have T : ∀ id, id < H.n → Low H.n id ∧ (¬ W id → H.m id = H.m id) := fun id hid => ⟨hid, fun _ => rfl⟩
  refine KW.callW F2.i rfl rfl rfl rfl rfl (mark_Int64S hB.2.2 (k := k) (by have := hk.1; have := hk.2; simp only [sz_Ranks] at this; constructor <;> omega) F2.i F2.r) (fun v H2 S2 m2 t2 w2 hv => ?_)
  obtain ⟨rfl, g2⟩ := hv
  have F2 : Fk M_Int64S X2 S2 H2 _ _ := ⟨g2, fun id hid => (t2 id (F2.i id hid)).1⟩
  have T : ∀ id, id < H.n → S2 id ∧ (¬ W id → H2.m id = H.m id) := fun id hid => ⟨(t2 id (T id hid).1).1, fun hw => ((t2 id (T id hid).1).2 (fun o => hw (i2 id o))).trans ((T id hid).2 hw)⟩
  refine KW.retW rfl rfl rfl rfl (fun H1 g => by have := g.n_; omega) (fun id hid hw => ⟨(T id hid).1, (T id hid).2 hw⟩) (fun H1 g => ?_)
  refine ⟨rfl, ?_⟩
  have G2 := (M_Int64S).same (H' := H1) (fun id hid => (g.froz id (F2.i id hid)).2) F2.r
  have k2 : M_Int64S.R (fun id => X2 id) H1 (mk_Int64S (k) x.2.2) [.slice a1 x.2.2.length c1] := G2
  have k1 : (Kn.mp (KI) (M_Int64S)).R (fun id => X2 id) H1 (x.2.1, (mk_Int64S (k) x.2.2)) [.int .i64 x.2.1, .slice a1 x.2.2.length c1] := mpR (X := None_) (show KI.R None_ H1 _ [.int .i64 x.2.1] from rfl) k2 (fun _ p => p.elim) (fun _ p => p) (fun _ p _ => p.elim)
  have k0 : (Kn.mp (KI) (Kn.mp (KI) (M_Int64S))).R (fun id => X2 id) H1 (x.1, x.2.1, (mk_Int64S (k) x.2.2)) [.int .i64 x.1, .int .i64 x.2.1, .slice a1 x.2.2.length c1] := mpR (X := None_) (show KI.R None_ H1 _ [.int .i64 x.1] from rfl) k1 (fun _ p => p.elim) (fun _ p => p) (fun _ p _ => p.elim)
  exact (M_Ranks).more (fun id p => i2 id p) k0
theorem held_Ranks {x : T_Ranks} {cs : List Value} (hB : B_Ranks x) (hk : Mk k (sz_Ranks x)) (h : K_Ranks.R S H0 (mk_Ranks k x) cs) : Spec Try.prog S H0 52 [.agg cs.toArray, .int .i64 k] (fun v => v = .int .i64 (k + (sz_Ranks x : Nat))) := by
  obtain ⟨a1, c1, rfl, h2⟩ := split_Ranks h
  refine Spec.of1 Try.func52 rfl (by kernel_rfl) rfl (fun H _ => ?_)
  refine KW.callE rfl rfl rfl rfl rfl (held_Int64S hB.2.2 (k := k) (by have := hk.1; have := hk.2; simp only [sz_Ranks] at this; constructor <;> omega) (On.R h2)) (fun _ _ => ?_)
  refine KW.no rfl rfl (by have := hk.1; omega) ?_
  exact KW.ret rfl rfl rfl rfl (rfl)
end
end Go.Proofs.Ytaepgfafbnjccaa.Am
/- What the laws' own functions do at Family: sizes, copies, equality, marks. Each holds under its own conditions. -/
set_option linter.unusedVariables false
set_option maxRecDepth 20000
namespace Go.Proofs.Ytaepgfafbnjccaa.Am
open Go Go.RowKit Go.Proofs
abbrev T_Family : Type := (Int) × (List (List Int))
abbrev K_Family : Kn T_Family := Kn.pair (KI) (K_Int64SS)
abbrev M_Family : Kn T_Family := Kn.mp (KI) (M_Int64SS)
theorem le_Family : KLe M_Family K_Family := KLe.pair ((KLe.refl KI)) (le_Int64SS)
abbrev B_Family (x : T_Family) : Prop := I64 x.1 ∧ B_Int64SS x.2
abbrev W_Family (x : T_Family) : Prop := I64 x.1 ∧ W_Int64SS x.2
abbrev sz_Family (x : T_Family) : Nat := sz_Int64SS x.2
abbrev mk_Family (k : Int) (x : T_Family) : T_Family := (x.1, mk_Int64SS (k) x.2)
theorem size_Family {x : T_Family} (hB : B_Family x) : sz_Family x ≤ 1048576 := by have := size_Int64SS hB.2; simp only [sz_Family]; omega
section
variable {S : Ids} {H0 : AH} {W : Ids} {left k : Int}
theorem form_Family {x : T_Family} {cs : List Value} (h : K_Family.R S H0 x cs) : ∃ a1 c1, cs = [.int .i64 x.1, .slice a1 x.2.length c1] := by
  obtain ⟨e0, d0, rfl, h0, h0_⟩ := h
  have h1 := h0_
  obtain rfl := KI_of h0
  obtain ⟨a1, c1, rfl⟩ := slform h1
  exact ⟨a1, c1, rfl⟩
theorem formM_Family {x : T_Family} {cs : List Value} (h : M_Family.R S H0 x cs) : ∃ a1 c1, cs = [.int .i64 x.1, .slice a1 x.2.length c1] := form_Family (le_Family.2 _ _ _ _ h)
theorem split_Family {x : T_Family} {cs : List Value} (h : K_Family.R S H0 x cs) : ∃ a1 c1, cs = [.int .i64 x.1, .slice a1 x.2.length c1] ∧ K_Int64SS.R S H0 x.2 [.slice a1 x.2.length c1] := by
  obtain ⟨e0, d0, rfl, h0, h0_⟩ := h
  have h1 := h0_
  obtain rfl := KI_of h0
  obtain ⟨a1, c1, rfl⟩ := slform h1
  exact ⟨a1, c1, rfl, h1⟩
theorem splitM_Family {x : T_Family} {cs : List Value} (h : M_Family.R S H0 x cs) : ∃ (a1 : Option Addr) (c1 : Nat) (X1 : Ids), cs = [.int .i64 x.1, .slice a1 x.2.length c1] ∧ M_Int64SS.R X1 H0 x.2 [.slice a1 x.2.length c1] ∧ (∀ id, X1 id → S id) := by
  obtain ⟨e0, d0, X0, Y0, rfl, i0, j0, q0, h0, h0_⟩ := h
  have h1 := h0_
  obtain rfl := KI_of h0
  obtain ⟨a1, c1, rfl⟩ := mlform h1
  exact ⟨a1, c1, Y0, rfl, h1, fun _ p => j0 _ p⟩
theorem to_Family {x : T_Family} {cs : List Value} (hB : B_Family x) (h : K_Family.R S H0 x cs) : SpecM Try.prog S H0 22 [.agg cs.toArray] (fun n v H1 => ∃ cs, v = .agg cs.toArray ∧ M_Family.R (New n H1.n) H1 x cs) := by
  obtain ⟨a1, c1, rfl, h1⟩ := split_Family h
  refine SpecM.of1 Try.func22 rfl (by kernel_rfl) rfl (fun H _ => ?_)
  refine KW.callN1 rfl rfl rfl rfl rfl (to_Int64SS hB.2 (On.R h1)) (fun v G1 S1 m1 _ _ hv => ?_)
  obtain ⟨b1, d1, rfl, g1⟩ := hv
  refine KW.retM1 rfl rfl rfl rfl (fun H1 g => ?_)
  refine ⟨_, rfl, ?_⟩
  have k1 : M_Int64SS.R (New H.n H1.n) H1 x.2 [.slice b1 x.2.length d1] := (M_Int64SS).more (g.inn (H := G1) (fun _ p => by have := p.1; omega)) (g.keep g1)
  have k0 : (Kn.mp (KI) (M_Int64SS)).R (New H.n H1.n) H1 (x) [.int .i64 x.1, .slice b1 x.2.length d1] := mpR (X := None_) (show KI.R None_ H1 _ [.int .i64 x.1] from rfl) k1 (fun _ p => p.elim) (fun _ p => p) (fun _ p _ => p.elim)
  exact k0
theorem eq_Family {x : T_Family} {cs cs' : List Value} (hB : B_Family x) (h : K_Family.R S H0 x cs) (h' : K_Family.R S H0 x cs') : Spec Try.prog S H0 25 [.agg cs.toArray, .agg cs'.toArray] (fun v => v = .bool true) := by
  obtain ⟨a1, c1, rfl, h1⟩ := split_Family h
  obtain ⟨b1, d1, rfl, k1⟩ := split_Family h'
  refine Spec.of1 Try.func25 rfl (by kernel_rfl) rfl (fun H _ => ?_)
  refine KW.cF rfl rfl (by first | (simp; done) | decide) ?_
  refine KW.callE rfl rfl rfl rfl rfl (eq_Int64SS hB.2 (On.R h1) (On.R k1)) (fun _ _ => ?_)
  refine KW.cF rfl rfl (by first | (simp; done) | decide) ?_
  exact KW.ret rfl rfl rfl rfl (rfl)
theorem sz_Family' {x : T_Family} {cs : List Value} (l0 : 0 ≤ left) (l1 : left ≤ 1048576) (hW : W_Family x) (h : K_Family.R S H0 x cs) : Spec Try.prog S H0 19 [.agg cs.toArray, .int .i64 left] (SzPost left (B_Family x)) := by
  obtain ⟨a1, c1, rfl, h1⟩ := split_Family h
  refine Spec.of1 Try.func19 rfl (by kernel_rfl) rfl (fun H _ => ?_)
  refine KW.call rfl rfl rfl rfl rfl (sz_Int64SS' l0 l1 hW.2 (On.R h1)) (fun v _ _ hv => ?_)
  obtain ⟨r1, rfl, k1⟩ := hv
  refine KW.cnd rfl rfl (fun h => KW.ret rfl rfl rfl rfl ⟨-1, rfl, .inl rfl⟩) (fun h => ?_)
  have k1 := k1.resolve_left (by omega)
  exact KW.ret rfl rfl rfl rfl (⟨_, rfl, .inr ⟨k1.1, by have := k1.2.1; omega, hW.1, k1.2.2⟩⟩)
theorem mark_Family {x : T_Family} {cs : List Value} (hB : B_Family x) (hk : Mk k (sz_Family x)) (hW : ∀ id, W id → S id) (h : M_Family.R W H0 x cs) : SpecW Try.prog S H0 W 38 [.agg cs.toArray, .int .i64 k] (fun n v H1 => v = .int .i64 (k + (sz_Family x : Nat)) ∧ M_Family.R W H1 (mk_Family k x) cs) := by
  obtain ⟨a1, c1, X1, rfl, h1, i1⟩ := splitM_Family h
  refine SpecW.of0 Try.func38 rfl (by kernel_rfl) rfl (fun H hfin hfz => ?_)
  have F1 : Fk M_Int64SS X1 (Low H.n) H _ _ := ⟨(M_Int64SS).same (fun id hid => (hfz id (hW id (i1 id hid))).2) h1, fun id hid => (hfz id (hW id (i1 id hid))).1⟩
  have T : ∀ id, id < H.n → Low H.n id ∧ (¬ W id → H.m id = H.m id) := fun id hid => ⟨hid, fun _ => rfl⟩
  refine KW.callW F1.i rfl rfl rfl rfl rfl (mark_Int64SS hB.2 (k := k) (by have := hk.1; have := hk.2; simp only [sz_Family] at this; constructor <;> omega) F1.i F1.r) (fun v H1 S1 m1 t1 w1 hv => ?_)
  obtain ⟨rfl, g1⟩ := hv
  have F1 : Fk M_Int64SS X1 S1 H1 _ _ := ⟨g1, fun id hid => (t1 id (F1.i id hid)).1⟩
  have T : ∀ id, id < H.n → S1 id ∧ (¬ W id → H1.m id = H.m id) := fun id hid => ⟨(t1 id (T id hid).1).1, fun hw => ((t1 id (T id hid).1).2 (fun o => hw (i1 id o))).trans ((T id hid).2 hw)⟩
  refine KW.retW rfl rfl rfl rfl (fun H1 g => by have := g.n_; omega) (fun id hid hw => ⟨(T id hid).1, (T id hid).2 hw⟩) (fun H1 g => ?_)
  refine ⟨rfl, ?_⟩
  have G1 := (M_Int64SS).same (H' := H1) (fun id hid => (g.froz id (F1.i id hid)).2) F1.r
  have k1 : M_Int64SS.R (fun id => X1 id) H1 (mk_Int64SS (k) x.2) [.slice a1 x.2.length c1] := G1
  have k0 : (Kn.mp (KI) (M_Int64SS)).R (fun id => X1 id) H1 (x.1, (mk_Int64SS (k) x.2)) [.int .i64 x.1, .slice a1 x.2.length c1] := mpR (X := None_) (show KI.R None_ H1 _ [.int .i64 x.1] from rfl) k1 (fun _ p => p.elim) (fun _ p => p) (fun _ p _ => p.elim)
  exact (M_Family).more (fun id p => i1 id p) k0
end
end Go.Proofs.Ytaepgfafbnjccaa.Am
/- Contracts: whether a function value tells true of an element of a slice. Each holds under its own conditions. -/
set_option linter.unusedVariables false
set_option maxRecDepth 20000
namespace Go.Proofs.Ytaepgfafbnjccaa.Am
open Go Go.RowKit Go.Proofs
section
variable {S : Ids} {H0 : AH}
/-- A function value that tells something of each number. -/
def TellsI (P : Program) (S : Ids) (H0 : AH) (xs : List Int) (g : FuncId) (cap : List Value) (p : Int → Bool) : Prop :=
  ∀ S' H', On S H0 S' H' → ∀ y ∈ xs, Spec P S' H' g (.int .i64 y :: cap) (fun v => v = .bool (p y))
theorem TellsI.up {P : Program} {S' : Ids} {H' : AH} {xs : List Int} {g : FuncId} {cap : List Value} {p : Int → Bool} [o : On S H0 S' H'] (h : TellsI P S H0 xs g cap p) : TellsI P S' H' xs g cap p := fun S2 H2 o2 => h S2 H2 ⟨o.st.trans o2.st⟩
theorem indexFuncI {a c} {xs : List Int} {g : FuncId} {id k : Nat} {sp : Option Nat} {p : Int → Bool} (hl : xs.length ≤ 4611686018427387904) (hs : KI.Sl S H0 (.slice a xs.length c) xs) (hp : TellsI Try.prog S H0 xs g [.pointer (some ⟨id, k, none⟩)] p) :
    Spec Try.prog S H0 158 [.slice a xs.length c, .func (.func g) #[] #[.pointer (some ⟨id, k, sp⟩)]] (fun v => ∃ r : Int, v = .int .i64 r ∧ (r ≥ 0 ↔ ∃ x ∈ xs, p x = true)) := by
  refine Spec.of1 Try.func158 rfl (by kernel_rfl) rfl (fun H _ => ?_)
  refine KW.lp rfl rfl (fun i : Nat => [(0, .slice a xs.length c), (1, .func (.func g) #[] #[.pointer (some ⟨id, k, sp⟩)]), (7, .int .i64 xs.length), (8, .int .i64 i)]) (fun i => i ≤ xs.length ∧ ∀ j, j < i → ∀ x, xs[j]? = some x → p x = false) (fun i => xs.length - i) (0) (⟨by omega, fun j h => absurd h (by omega)⟩) ⟨rfl, rfl, rfl, rfl, trivial⟩ (fun i hi bE n => ?_)
  obtain ⟨hi, hj⟩ := hi
  refine KW.cnd rfl rfl (fun h => ?_) (fun h => ?_)
  · refine KW.getI hs.up rfl rfl rfl rfl rfl rfl rfl rfl rfl rfl rfl rfl rfl rfl rfl rfl (by omega) (h) (fun x hx => ?_)
    have hx : xs[i]? = some x := hx
    have hmem := List.mem_of_getElem? hx
    refine KW.callE rfl rfl rfl rfl rfl (hp _ _ inferInstance x hmem) (fun _ _ => ?_)
    refine KW.cndB rfl rfl (fun h2 => ?_) (fun h2 => ?_)
    · exact KW.ret rfl rfl rfl rfl (⟨(i : Int), rfl, fun _ => ⟨x, hmem, h2⟩, fun _ => by omega⟩)
    · refine KW.nxt rfl rfl (fun H' g => ⟨i + 1, ⟨by omega, upto hj (fun y hy => by rw [hx] at hy; cases hy; exact h2)⟩, by first | omega | (simp only; omega), ⟨rfl, rfl, rfl, congrArg (Value.int .i64) (inc64 (by omega)), trivial⟩, g⟩)
  · refine KW.ret rfl rfl rfl rfl ⟨-1, rfl, fun h => absurd h (by decide), fun ⟨x, hx, hpx⟩ => ?_⟩
    obtain ⟨j, hjx⟩ := List.getElem?_of_mem hx
    have := hj j (by have := (List.getElem?_eq_some_iff.1 hjx).1; omega) x hjx
    rw [hpx] at this; cases this
theorem containsFuncI {a c} {xs : List Int} {g : FuncId} {id k : Nat} {sp : Option Nat} {p : Int → Bool} (hl : xs.length ≤ 4611686018427387904) (hs : KI.Sl S H0 (.slice a xs.length c) xs) (hp : TellsI Try.prog S H0 xs g [.pointer (some ⟨id, k, none⟩)] p) :
    Spec Try.prog S H0 131 [.slice a xs.length c, .func (.func g) #[] #[.pointer (some ⟨id, k, sp⟩)]] (fun v => v = .bool (tv (∃ x ∈ xs, p x = true))) := by
  refine Spec.of1 Try.func131 rfl (by kernel_rfl) rfl (fun H _ => ?_)
  refine KW.call rfl rfl rfl rfl rfl (indexFuncI hl hs.up hp.up) (fun v _ _ hv => ?_)
  obtain ⟨r, rfl, hr⟩ := hv
  refine KW.ret rfl rfl rfl rfl ?_
  show Value.bool (decide (r ≥ 0)) = _
  rw [tv_dec, tv_congr hr]
/-- A function value that tells something of each row. -/
def TellsL (P : Program) (S : Ids) (H0 : AH) (xs : List (List Int)) (g : FuncId) (cap : List Value) (p : List Int → Bool) : Prop :=
  ∀ S' H', On S H0 S' H' → ∀ y ∈ xs, ∀ a c, KI.Sl S' H' (.slice a y.length c) y → Spec P S' H' g (.slice a y.length c :: cap) (fun v => v = .bool (p y))
theorem TellsL.up {P : Program} {S' : Ids} {H' : AH} {xs : List (List Int)} {g : FuncId} {cap : List Value} {p : List Int → Bool} [o : On S H0 S' H'] (h : TellsL P S H0 xs g cap p) : TellsL P S' H' xs g cap p := fun S2 H2 o2 => h S2 H2 ⟨o.st.trans o2.st⟩
theorem indexFuncL {a c} {xs : List (List Int)} {g : FuncId} {id k : Nat} {sp : Option Nat} {p : List Int → Bool} (hl : xs.length ≤ 4611686018427387904) (hs : KI.sl.Sl S H0 (.slice a xs.length c) xs) (hp : TellsL Try.prog S H0 xs g [.pointer (some ⟨id, k, none⟩)] p) :
    Spec Try.prog S H0 163 [.slice a xs.length c, .func (.func g) #[] #[.pointer (some ⟨id, k, sp⟩)]] (fun v => ∃ r : Int, v = .int .i64 r ∧ (r ≥ 0 ↔ ∃ x ∈ xs, p x = true)) := by
  refine Spec.of1 Try.func163 rfl (by kernel_rfl) rfl (fun H _ => ?_)
  refine KW.lp rfl rfl (fun i : Nat => [(0, .slice a xs.length c), (1, .func (.func g) #[] #[.pointer (some ⟨id, k, sp⟩)]), (7, .int .i64 xs.length), (8, .int .i64 i)]) (fun i => i ≤ xs.length ∧ ∀ j, j < i → ∀ x, xs[j]? = some x → p x = false) (fun i => xs.length - i) (0) (⟨by omega, fun j h => absurd h (by omega)⟩) ⟨rfl, rfl, rfl, rfl, trivial⟩ (fun i hi bE n => ?_)
  obtain ⟨hi, hj⟩ := hi
  refine KW.cnd rfl rfl (fun h => ?_) (fun h => ?_)
  · refine KW.getL hs.up rfl rfl rfl rfl rfl rfl rfl rfl rfl rfl rfl rfl rfl rfl rfl rfl (by omega) (h) (fun x ax cx hx hsx => ?_)
    have hx : xs[i]? = some x := hx
    have hmem := List.mem_of_getElem? hx
    refine KW.callE rfl rfl rfl rfl rfl (hp _ _ inferInstance x hmem _ _ hsx) (fun _ _ => ?_)
    refine KW.cndB rfl rfl (fun h2 => ?_) (fun h2 => ?_)
    · exact KW.ret rfl rfl rfl rfl (⟨(i : Int), rfl, fun _ => ⟨x, hmem, h2⟩, fun _ => by omega⟩)
    · refine KW.nxt rfl rfl (fun H' g => ⟨i + 1, ⟨by omega, upto hj (fun y hy => by rw [hx] at hy; cases hy; exact h2)⟩, by first | omega | (simp only; omega), ⟨rfl, rfl, rfl, congrArg (Value.int .i64) (inc64 (by omega)), trivial⟩, g⟩)
  · refine KW.ret rfl rfl rfl rfl ⟨-1, rfl, fun h => absurd h (by decide), fun ⟨x, hx, hpx⟩ => ?_⟩
    obtain ⟨j, hjx⟩ := List.getElem?_of_mem hx
    have := hj j (by have := (List.getElem?_eq_some_iff.1 hjx).1; omega) x hjx
    rw [hpx] at this; cases this
theorem containsFuncL {a c} {xs : List (List Int)} {g : FuncId} {id k : Nat} {sp : Option Nat} {p : List Int → Bool} (hl : xs.length ≤ 4611686018427387904) (hs : KI.sl.Sl S H0 (.slice a xs.length c) xs) (hp : TellsL Try.prog S H0 xs g [.pointer (some ⟨id, k, none⟩)] p) :
    Spec Try.prog S H0 147 [.slice a xs.length c, .func (.func g) #[] #[.pointer (some ⟨id, k, sp⟩)]] (fun v => v = .bool (tv (∃ x ∈ xs, p x = true))) := by
  refine Spec.of1 Try.func147 rfl (by kernel_rfl) rfl (fun H _ => ?_)
  refine KW.call rfl rfl rfl rfl rfl (indexFuncL hl hs.up hp.up) (fun v _ _ hv => ?_)
  obtain ⟨r, rfl, hr⟩ := hv
  refine KW.ret rfl rfl rfl rfl ?_
  show Value.bool (decide (r ≥ 0)) = _
  rw [tv_dec, tv_congr hr]
end
end Go.Proofs.Ytaepgfafbnjccaa.Am
/- Contracts: primes, elements, valid matrices, of the program and of the reference. Each holds under its own conditions. -/
set_option linter.unusedVariables false
set_option maxRecDepth 20000
namespace Go.Proofs.Ytaepgfafbnjccaa.Am
open Go Go.RowKit Go.Proofs
section
variable {P : Program} {S : Ids} {H0 : AH} {Q : PostC} {k k1 : List It} {e e1 : Env} {T T1 : List Var} {n n1 : Nat} {l1 r1 : List Nat} {d1 : Tmp}
theorem KW.rem {o : Oper} {dr : Bool} {t u : TypeId} {x y : Operand} {ik : IntKind} {a b : Int} (h : Go1 P k e T n (.op o dr) k1 e1 T1 n1 l1 r1) (hlr : l1 = r1) (ho : o.op = .binOp .rem t x y u) (hd : o.dst = some d1) (hx : ev e1 x = .int ik a) (hy : ev e1 y = .int ik b) (ha : 0 ≤ a) (hb : b ≠ 0)
    (hk : KW P S H0 Q n1 T1 k1 (put1 e1 d1 (.int ik (a % b)))) : KW P S H0 Q n T k e := by
  refine KW.pure h hlr ho hd rfl _ ?_ hk
  simp only [pop, hx, hy, abin, aint, if_true]
  rw [if_neg hb, Int.tmod_eq_emod_of_nonneg ha]
theorem KW.quo {o : Oper} {dr : Bool} {t u : TypeId} {x y : Operand} {a b : Int} (h : Go1 P k e T n (.op o dr) k1 e1 T1 n1 l1 r1) (hlr : l1 = r1) (ho : o.op = .binOp .quo t x y u) (hd : o.dst = some d1) (hx : ev e1 x = .int .i64 a) (hy : ev e1 y = .int .i64 b) (ha : 0 ≤ a ∧ a ≤ 9223372036854775807) (hb : 0 < b)
    (hk : KW P S H0 Q n1 T1 k1 (put1 e1 d1 (.int .i64 (a / b)))) : KW P S H0 Q n T k e := by
  refine KW.pure h hlr ho hd rfl _ ?_ hk
  simp only [pop, hx, hy, abin, aint, if_true]
  rw [if_neg (by omega), Int.tdiv_eq_ediv_of_nonneg ha.1]
  have h1 : 0 ≤ a / b := Int.ediv_nonneg ha.1 (by omega)
  have h2 : a / b ≤ a := Int.ediv_le_self _ ha.1
  rw [wr (by omega) (by omega)]
end
/-- A prime up to 31. -/
def PrimeP (p : Int) : Prop := 2 ≤ p ∧ p ≤ 31 ∧ ∀ d : Nat, 2 ≤ d → (d : Int) < p → ¬ p % d = 0
theorem prime_of {p : Int} {d : Nat} (h2 : 2 ≤ p) (h31 : p ≤ 31) (hd : 2 ≤ d) (hdd : ¬ (d : Int) * d ≤ p) (h : ∀ j : Nat, 2 ≤ j → j < d → ¬ p % j = 0) : PrimeP p := by
  refine ⟨h2, h31, fun q hq hqp hm => ?_⟩
  rcases Nat.lt_or_ge q d with hlt | hge
  · exact h q hq hlt hm
  · obtain ⟨r, hr⟩ := Int.dvd_of_emod_eq_zero hm
    have hr1 : 1 < r := by
      rcases Int.lt_or_le 1 r with h | h
      · exact h
      · have : (q : Int) * r ≤ q * 1 := Int.mul_le_mul_of_nonneg_left h (by omega)
        omega
    obtain ⟨s, rfl⟩ : ∃ s : Nat, r = s := ⟨r.toNat, by omega⟩
    have hs : (s : Int) < d := by
      rcases Int.lt_or_le (s : Int) d with h | h
      · exact h
      · have h1 : (d : Int) * d ≤ q * s := Int.mul_le_mul (by omega) h (by omega) (by omega)
        omega
    refine h s (by omega) (by omega) ?_
    rw [hr, Int.mul_emod_left]
theorem upto2 {d : Nat} {Q : Nat → Prop} (h : ∀ j, 2 ≤ j → j < d → Q j) (hd : Q d) : ∀ j, 2 ≤ j → j < d + 1 → Q j := fun j h2 hj => by
  rcases Nat.lt_or_ge j d with hl | hg
  · exact h j h2 hl
  · obtain rfl : j = d := by omega
    exact hd
section
variable {S : Ids} {H0 : AH}
theorem isPrime (p : Int) : Spec Try.prog S H0 133 [.int .i64 p] (fun v => v = .bool (tv (PrimeP p))) := by
  refine Spec.of1 Try.func133 rfl (by kernel_rfl) rfl (fun H _ => ?_)
  refine KW.lp rfl rfl (fun d : Nat => [(0, .int .i64 p), (3, .int .i64 d)]) (fun d => (2 ≤ d ∧ d ≤ 6) ∧ ∀ j : Nat, 2 ≤ j → j < d → ¬ p % j = 0) (fun d => 6 - d) (2) (⟨by omega, fun j h h' => by omega⟩) ⟨rfl, rfl, trivial⟩ (fun d hi bE n => ?_)
  obtain ⟨hd, hi⟩ := hi
  have hdd : (d : Int) * d ≤ 36 := by
    have : (d : Int) * d ≤ 6 * 6 := Int.mul_le_mul (by omega) (by omega) (by omega) (by omega)
    omega
  have hdd' : 0 ≤ (d : Int) * d := Int.mul_nonneg (by omega) (by omega)
  have ew : IntKind.i64.wrap ((d : Int) * d) = d * d := wr (by omega) (by omega)
  have fin : ¬ (d : Int) * d ≤ p ∨ ¬ p ≤ 31 → (decide (2 ≤ p ∧ p ≤ 31) : Bool) = tv (PrimeP p) := fun hx => by
    rw [tv_dec]
    refine tv_congr ⟨fun h => ?_, fun h => ⟨h.1, h.2.1⟩⟩
    exact prime_of h.1 h.2 hd.1 (hx.resolve_right (fun hc => hc h.2)) hi
  refine KW.tst rfl rfl (fun h => ?_) (fun h => ?_)
  · rw [ew] at h
    refine KW.cnd rfl rfl (fun h1 => ?_) (fun h1 => ?_)
    · refine KW.rem rfl rfl rfl rfl rfl rfl (by omega) (by omega) ?_
      refine KW.cndB rfl rfl (fun h2 => ?_) (fun h2 => ?_)
      · have hdp : (d : Int) < p := by
          have : (d : Int) * 2 ≤ d * d := Int.mul_le_mul_of_nonneg_left (by omega) (by omega)
          omega
        exact KW.ret rfl rfl rfl rfl (by rw [tv_false (fun hp => hp.2.2 d hd.1 hdp (by simpa using h2))]; rfl)
      · have h2 : ¬ p % (d : Int) = 0 := by simpa using h2
        have hd5 : d ≤ 5 := by
          rcases Nat.lt_or_ge d 6 with h | h
          · omega
          · have : (6 : Int) * 6 ≤ d * d := Int.mul_le_mul (by omega) (by omega) (by omega) (by omega)
            omega
        refine KW.nxt rfl rfl (fun H' g => ⟨d + 1, ⟨by omega, upto2 hi h2⟩, by first | omega | (simp only; omega), ⟨rfl, congrArg (Value.int .i64) (inc64 (by omega)), trivial⟩, g⟩)
    · refine KW.callE rfl rfl rfl rfl rfl (within _ _ _) (fun _ _ => ?_)
      exact KW.ret rfl rfl rfl rfl (congrArg Value.bool (fin (.inr h1)))
  · rw [ew] at h
    refine KW.cF rfl rfl (by first | (simp; done) | decide) ?_
    refine KW.callE rfl rfl rfl rfl rfl (within _ _ _) (fun _ _ => ?_)
    exact KW.ret rfl rfl rfl rfl (congrArg Value.bool (fin (.inl h)))
theorem specIsPrime (p : Int) : Spec Try.prog S H0 166 [.int .i64 p] (fun v => v = .bool (tv (PrimeP p))) := by
  refine Spec.of1 Try.func166 rfl (by kernel_rfl) rfl (fun H _ => ?_)
  refine KW.callE rfl rfl rfl rfl rfl (l00In _ _ _) (fun _ _ => ?_)
  refine KW.cndB rfl rfl (fun h => ?_) (fun h => ?_)
  · exact KW.ret rfl rfl rfl rfl (by rw [tv_false (fun hp => by have := hp.1; have := hp.2.1; simp at h; omega)]; rfl)
  have h : 2 ≤ p ∧ p ≤ 31 := by simpa using h
  refine KW.lp rfl rfl (fun d : Nat => [(0, .int .i64 p), (3, .int .i64 d)]) (fun d => (2 ≤ d ∧ (d : Int) ≤ p) ∧ ∀ j : Nat, 2 ≤ j → j < d → ¬ p % j = 0) (fun d => 32 - d) (2) (⟨by omega, fun j h h' => by omega⟩) ⟨rfl, rfl, trivial⟩ (fun d hi bE n => ?_)
  obtain ⟨hd, hi⟩ := hi
  refine KW.cnd rfl rfl (fun h1 => ?_) (fun h1 => ?_)
  · refine KW.rem rfl rfl rfl rfl rfl rfl (by omega) (by omega) ?_
    refine KW.cndB rfl rfl (fun h2 => ?_) (fun h2 => ?_)
    · exact KW.ret rfl rfl rfl rfl (by rw [tv_false (fun hp => hp.2.2 d hd.1 h1 (by simpa using h2))]; rfl)
    · refine KW.nxt rfl rfl (fun H' g => ⟨d + 1, ⟨by omega, upto2 hi (by simpa using h2)⟩, by first | omega | (simp only; omega), ⟨rfl, congrArg (Value.int .i64) (inc64 (by omega)), trivial⟩, g⟩)
  · exact KW.ret rfl rfl rfl rfl (by rw [tv_true (p := PrimeP p) ⟨h.1, h.2, fun j h2 hj => hi j h2 (by omega)⟩]; rfl)
/-- All are elements of the field. -/
def Elems (p : Int) (xs : List Int) : Prop := ∀ x ∈ xs, 0 ≤ x ∧ x ≤ p - 1
theorem areElements1 (p y : Int) (hp : I64 p) (hy : p ≠ -9223372036854775808) {id : Nat} {b : Blk} (hb : b.cells = [.int .i64 p]) (hv : S id ∧ H0.m id = some b) : Spec Try.prog S H0 134 [.int .i64 y, .pointer (some ⟨id, 0, none⟩)] (fun v => v = .bool (!decide (0 ≤ y ∧ y ≤ p - 1))) := by
  refine Spec.of1 Try.func134 rfl (by kernel_rfl) rfl (fun H _ => ?_)
  obtain ⟨hS1, hm1⟩ := On.blk (S' := Low H.n) (H' := H) hv.1 hv.2
  obtain ⟨ty, rw, cs⟩ := b
  subst hb
  refine KW.ldP hS1 hm1 rfl rfl rfl rfl rfl rfl ?_
  refine KW.callE rfl rfl rfl rfl rfl (within _ _ _) (fun _ _ => ?_)
  have e : IntKind.i64.wrap (p - 1) = p - 1 := wr (by have := hp.1; omega) (by have := hp.2; omega)
  refine KW.ret rfl rfl rfl rfl ?_
  rw [e]; rfl
theorem areElements (p : Int) (hp : I64 p) {a c} {xs : List Int} (hl : xs.length ≤ 4611686018427387904) (hs : KI.Sl S H0 (.slice a xs.length c) xs) : Spec Try.prog S H0 67 [.int .i64 p, .slice a xs.length c] (fun v => v = .bool (tv (PrimeP p ∧ Elems p xs))) := by
  refine Spec.of1 Try.func67 rfl (by kernel_rfl) rfl (fun H _ => ?_)
  refine KW.callE rfl rfl rfl rfl rfl (isPrime p) (fun _ _ => ?_)
  refine KW.tstB rfl rfl (fun h => ?_) (fun h => ?_)
  · have h := tv_iff.1 h
    refine KW.callV1 rfl rfl rfl rfl rfl (fun H1 g _ => containsFuncI (p := fun y => !decide (0 ≤ y ∧ y ≤ p - 1)) hl hs.up (fun S' H' o y _ => areElements1 p y hp (by have := h.1; omega) rfl (g.var (j := 0) rfl))) (fun _ _ => ?_)
    refine KW.ret rfl rfl rfl rfl ?_
    show Value.bool (!tv (∃ x ∈ xs, (!decide (0 ≤ x ∧ x ≤ p - 1)) = true)) = _
    by_cases hx : Elems p xs
    · rw [tv_true (p := PrimeP p ∧ Elems p xs) ⟨h, hx⟩, tv_false (fun ⟨x, h1, h2⟩ => by have := hx x h1; simp at h2; omega)]; rfl
    · rw [tv_false (p := PrimeP p ∧ Elems p xs) (fun hc => hx hc.2), tv_true ?_]; · rfl
      refine Classical.byContradiction fun hc => hx fun x h1 => ?_
      refine Classical.byContradiction fun h2 => hc ⟨x, h1, by simp; omega⟩
  · exact KW.ret rfl rfl rfl rfl (by rw [tv_false (p := PrimeP p ∧ Elems p xs) (fun hc => by rw [tv_true hc.1] at h; cases h)]; rfl)
end
/-- A matrix that is valid. -/
structure OkMat (p c : Int) (rows : List (List Int)) : Prop where
  pr : PrimeP p
  c0 : 0 ≤ c
  c1 : c ≤ 12
  len : rows.length ≤ 20
  row : ∀ r ∈ rows, (r.length : Int) = c ∧ Elems p r
theorem tvn {q : Prop} {b : Bool} (h : b = false) (h' : q → b = true) : Value.bool false = .bool (tv q) := by rw [tv_false (fun hq => by rw [h' hq] at h; cases h)]
section
variable {S : Ids} {H0 : AH}
theorem validMatrix1 (p c : Int) (hp : I64 p) {y : List Int} (hl : y.length ≤ 1048576) {a m} (hs : KI.Sl S H0 (.slice a y.length m) y) {id : Nat} {b : Blk} {v : Value} (hb : b.cells = [.int .i64 p, .int .i64 c, v]) (hv : S id ∧ H0.m id = some b) :
    Spec Try.prog S H0 157 [.slice a y.length m, .pointer (some ⟨id, 0, none⟩)] (fun v => v = .bool (!tv ((y.length : Int) = c ∧ (PrimeP p ∧ Elems p y)))) := by
  refine Spec.of1 Try.func157 rfl (by kernel_rfl) rfl (fun H _ => ?_)
  obtain ⟨hS1, hm1⟩ := On.blk (S' := Low H.n) (H' := H) hv.1 hv.2
  obtain ⟨ty, rw, cs⟩ := b
  subst hb
  refine KW.ldP hS1 hm1 rfl rfl rfl rfl rfl rfl ?_
  refine KW.tstB rfl rfl (fun h => ?_) (fun h => ?_)
  · exact KW.ret rfl rfl rfl rfl (by rw [tv_false (p := (y.length : Int) = c ∧ (PrimeP p ∧ Elems p y)) (fun hc => by rw [hc.1] at h; simp at h)]; rfl)
  · have h : (y.length : Int) = c := by simpa using h
    refine KW.ldP hS1 hm1 rfl rfl rfl rfl rfl rfl ?_
    refine KW.callE rfl rfl rfl rfl rfl (areElements p hp (by omega) hs.up) (fun _ _ => ?_)
    refine KW.ret rfl rfl rfl rfl ?_
    rw [tv_congr (q := (y.length : Int) = c ∧ (PrimeP p ∧ Elems p y)) ⟨fun hx => ⟨h, hx⟩, fun hx => hx.2⟩]; rfl
theorem validMatrix (p c : Int) (hp : I64 p) {a m} {rows : List (List Int)} (hB : B_Int64SS rows) (hs : KI.sl.Sl S H0 (.slice a rows.length m) rows) :
    Spec Try.prog S H0 130 [.agg #[.int .i64 p, .int .i64 c, .slice a rows.length m]] (fun v => v = .bool (tv (OkMat p c rows))) := by
  refine Spec.of1 Try.func130 rfl (by kernel_rfl) rfl (fun H _ => ?_)
  refine KW.callE rfl rfl rfl rfl rfl (isPrime p) (fun _ _ => ?_)
  refine KW.tstB rfl rfl (fun h1 => ?_) (fun h1 => ?_)
  · have k1 := tv_iff.1 h1
    refine KW.callE rfl rfl rfl rfl rfl (within _ _ _) (fun _ _ => ?_)
    refine KW.tstB rfl rfl (fun h2 => ?_) (fun h2 => ?_)
    · have k2 : 0 ≤ c ∧ c ≤ 12 := by simpa using h2
      refine KW.tst rfl rfl (fun h3 => ?_) (fun h3 => ?_)
      · have h3 : (rows.length : Int) ≤ 20 := h3
        refine KW.callV1 rfl rfl rfl rfl rfl (fun H1 g _ => containsFuncL (p := fun y => !tv ((y.length : Int) = c ∧ (PrimeP p ∧ Elems p y))) (by omega) hs.up (fun S' H' o y hy a c hsy => validMatrix1 p _ hp (hB.each y hy) hsy rfl (g.var (j := 0) rfl))) (fun _ _ => ?_)
        refine KW.ret rfl rfl rfl rfl ?_
        show Value.bool (!tv (∃ x ∈ rows, (!tv ((x.length : Int) = c ∧ (PrimeP p ∧ Elems p x))) = true)) = _
        by_cases hx : OkMat p c rows
        · rw [tv_true hx, tv_false (fun ⟨x, h1, h2⟩ => by rw [tv_true ⟨(hx.row x h1).1, k1, (hx.row x h1).2⟩] at h2; cases h2)]; rfl
        · rw [tv_false hx, tv_true ?_]; · rfl
          refine Classical.byContradiction fun hc => hx ⟨k1, k2.1, k2.2, by omega, fun x h1 => ?_⟩
          refine Classical.byContradiction fun h2 => hc ⟨x, h1, by rw [tv_false (fun h => h2 ⟨h.1, h.2.2⟩)]; rfl⟩
      · have h3 : ¬ (rows.length : Int) ≤ 20 := h3
        exact KW.ret rfl rfl rfl rfl (by rw [tv_false (p := OkMat p c rows) (fun hc => by have := hc.len; omega)]; rfl)
    · have k2 : ¬ (0 ≤ c ∧ c ≤ 12) := by simpa using h2
      repeat first | refine KW.tT rfl rfl rfl ?_ | refine KW.tF rfl rfl rfl ?_
      exact KW.ret rfl rfl rfl rfl (by rw [tv_false (p := OkMat p c rows) (fun hc => k2 ⟨hc.c0, hc.c1⟩)]; rfl)
  · repeat first | refine KW.tT rfl rfl rfl ?_ | refine KW.tF rfl rfl rfl ?_
    exact KW.ret rfl rfl rfl rfl (by rw [tv_false (p := OkMat p c rows) (fun hc => by rw [tv_true hc.pr] at h1; cases h1)]; rfl)
theorem l03Row (p c : Int) (hp : I64 (p - 1)) {a m} {xs : List Int} (hl : xs.length ≤ 1048576) (hs : KI.Sl S H0 (.slice a xs.length m) xs) :
    Spec Try.prog S H0 79 [.int .i64 p, .int .i64 c, .slice a xs.length m] (fun v => v = .bool (tv ((xs.length : Int) = c ∧ Elems p xs))) := by
  refine Spec.of1 Try.func79 rfl (by kernel_rfl) rfl (fun H _ => ?_)
  have ep : IntKind.i64.wrap (p - 1) = p - 1 := wr (by have := hp.1; omega) (by have := hp.2; omega)
  refine KW.lp rfl rfl (fun i : Nat => [(0, .int .i64 p), (1, .int .i64 c), (2, .slice a xs.length m), (7, .int .i64 i)]) (fun i => i ≤ xs.length ∧ ∀ j, j < i → ∀ x, xs[j]? = some x → 0 ≤ x ∧ x ≤ p - 1) (fun i => xs.length - i) (0) (⟨by omega, fun j h => absurd h (by omega)⟩) ⟨rfl, rfl, rfl, rfl, trivial⟩ (fun i hi bE n => ?_)
  obtain ⟨hi, hj⟩ := hi
  refine KW.cnd rfl rfl (fun h => ?_) (fun h => ?_)
  · refine KW.getI hs.up rfl rfl rfl rfl rfl rfl rfl rfl rfl rfl rfl rfl rfl rfl rfl rfl (by omega) (h) (fun y hy => ?_)
    have hy : xs[i]? = some y := hy
    refine KW.callE rfl rfl rfl rfl rfl (l00In _ _ _) (fun _ _ => ?_)
    rw [ep]
    refine KW.cndB rfl rfl (fun h2 => ?_) (fun h2 => ?_)
    · have h2 : ¬ (0 ≤ y ∧ y ≤ p - 1) := by simp at h2; omega
      exact KW.ret rfl rfl rfl rfl (by rw [tv_false (p := (xs.length : Int) = c ∧ Elems p xs) (fun hc => h2 (hc.2 y (List.mem_of_getElem? hy)))]; rfl)
    · refine KW.nxt rfl rfl (fun H' g => ⟨i + 1, ⟨by omega, upto hj (fun z hz => by rw [hy] at hz; cases hz; simpa using h2)⟩, by first | omega | (simp only; omega), ⟨rfl, rfl, rfl, congrArg (Value.int .i64) (inc64 (by omega)), trivial⟩, g⟩)
  · refine KW.ret rfl rfl rfl rfl ?_
    show Value.bool (((xs.length : Nat) : Int) == c) = _
    congr 1
    have hE : Elems p xs := fun x hx => by
      obtain ⟨j, hjx⟩ := List.getElem?_of_mem hx
      exact hj j (by have := (List.getElem?_eq_some_iff.1 hjx).1; omega) x hjx
    by_cases hc : ((xs.length : Nat) : Int) = c
    · rw [tv_true ⟨hc, hE⟩, hc]; simp
    · rw [tv_false (fun h => hc h.1)]; simpa using hc
end
/-- A block that has so and so standing from a place on. -/
def Has3 (S : Ids) (H : AH) (id k : Nat) (vs : List Value) : Prop := S id ∧ ∃ b, H.m id = some b ∧ ∀ i v, vs[i]? = some v → b.cells[k + i]? = some v
theorem Has3.up {S S' : Ids} {H H' : AH} {id k : Nat} {vs : List Value} [o : On S H S' H'] (h : Has3 S H id k vs) : Has3 S' H' id k vs := by
  obtain ⟨h1, b, h2, h3⟩ := h
  obtain ⟨h4, h5⟩ := On.blk (S' := S') (H' := H') h1 h2
  exact ⟨h4, b, h5, h3⟩
section
variable {P : Program} {S : Ids} {H0 : AH} {Q : PostC} {k k1 : List It} {e e1 : Env} {T T1 : List Var} {n n1 : Nat} {l1 r1 : List Nat} {d1 : Tmp}
/-- A field is read by a pointer. -/
theorem KW.ldF {o : Oper} {dr : Bool} {t : TypeId} {x : Operand} {id kk k0 : Nat} {vs : List Value} {sp : Option Nat} {v : Value} {td : TypeDesc} (i : Nat) (hv : Has3 S H0 id k0 vs) (h : Go1 P k e T n (.op o dr) k1 e1 T1 n1 l1 r1) (hlr : l1 = r1) (ho : o.op = .load t x) (hd : o.dst = some d1) (hx : ev e1 x = .pointer (some ⟨id, kk, sp⟩)) (hk0 : kk = k0 + i) (hi : vs[i]? = some v)
    (hu : P.underlying t = some td) (hnot : (match td with | .struct _ => false | .array _ _ => false | _ => true) = true) (hk : KW P S H0 Q n1 T1 k1 (put1 e1 d1 v)) : KW P S H0 Q n T k e := by
  obtain ⟨hS, b, hm, hc⟩ := hv
  exact KW.ldP hS hm h hlr ho hd hx (bload_at (by rw [hk0]; exact hc i v hi) hu hnot) hk
end
section
variable {S : Ids} {H0 : AH}
theorem l03Ok (p c : Int) (hp : I64 p) {id k : Nat} {a m} {rows : List (List Int)} (hB : B_Int64SS rows) (hv : Has3 S H0 id k [.int .i64 p, .int .i64 c, .slice a rows.length m]) (hs : KI.sl.Sl S H0 (.slice a rows.length m) rows) :
    Spec Try.prog S H0 156 [.pointer (some ⟨id, k, none⟩)] (fun v => v = .bool (tv (OkMat p c rows))) := by
  refine Spec.of1 Try.func156 rfl (by kernel_rfl) rfl (fun H _ => ?_)
  have hv := hv.up (S' := Low H.n) (H' := H)
  have hs := hs.up (S' := Low H.n) (H' := H)
  refine KW.ldF 0 hv rfl rfl rfl rfl rfl rfl rfl rfl rfl ?_
  refine KW.callE rfl rfl rfl rfl rfl (specIsPrime p) (fun _ _ => ?_)
  refine KW.tstB rfl rfl (fun h1 => ?_) (fun h1 => ?_)
  · repeat first | refine KW.tT rfl rfl rfl ?_ | refine KW.tF rfl rfl rfl ?_
    refine KW.cT rfl rfl (by first | (simp; done) | decide) ?_
    exact KW.ret rfl rfl rfl rfl (by rw [tv_false (p := OkMat p c rows) (fun hc => by rw [tv_true hc.pr] at h1; cases h1)]; rfl)
  have k1 : PrimeP p := tv_iff.1 (by simpa using h1)
  refine KW.ldF 1 hv rfl rfl rfl rfl rfl rfl rfl rfl rfl ?_
  refine KW.callE rfl rfl rfl rfl rfl (l00In _ _ _) (fun _ _ => ?_)
  refine KW.tstB rfl rfl (fun h2 => ?_) (fun h2 => ?_)
  · have k2 : ¬ (0 ≤ c ∧ c ≤ 12) := by simp at h2; omega
    repeat first | refine KW.tT rfl rfl rfl ?_ | refine KW.tF rfl rfl rfl ?_
    refine KW.cT rfl rfl (by first | (simp; done) | decide) ?_
    exact KW.ret rfl rfl rfl rfl (by rw [tv_false (p := OkMat p c rows) (fun hc => k2 ⟨hc.c0, hc.c1⟩)]; rfl)
  have k2 : 0 ≤ c ∧ c ≤ 12 := by simpa using h2
  refine KW.ldF 2 hv rfl rfl rfl rfl rfl rfl rfl rfl rfl ?_
  refine KW.cnd rfl rfl (fun h3 => ?_) (fun h3 => ?_)
  · have h3 : (rows.length : Int) > 20 := h3
    exact KW.ret rfl rfl rfl rfl (by rw [tv_false (p := OkMat p c rows) (fun hc => by have := hc.len; omega)]; rfl)
  have h3 : ¬ (rows.length : Int) > 20 := h3
  refine KW.lp rfl rfl (fun i : Nat => [(0, .pointer (some ⟨id, k, none⟩)), (3, .int .i64 i)]) (fun i => i ≤ rows.length ∧ ∀ j, j < i → ∀ x, rows[j]? = some x → (x.length : Int) = c ∧ Elems p x) (fun i => rows.length - i) (0) (⟨by omega, fun j h => absurd h (by omega)⟩) ⟨rfl, rfl, trivial⟩ (fun i hi bE n => ?_)
  obtain ⟨hi, hj⟩ := hi
  refine KW.ldF 2 hv rfl rfl rfl rfl rfl rfl rfl rfl rfl ?_
  refine KW.cnd rfl rfl (fun h => ?_) (fun h => ?_)
  · refine KW.ldF 0 hv rfl rfl rfl rfl rfl rfl rfl rfl rfl ?_
    refine KW.ldF 1 hv rfl rfl rfl rfl rfl rfl rfl rfl rfl ?_
    refine KW.ldF 2 hv rfl rfl rfl rfl rfl rfl rfl rfl rfl ?_
    refine KW.getL hs.up rfl rfl rfl rfl rfl rfl rfl rfl rfl rfl rfl rfl rfl rfl rfl rfl (by omega) (h) (fun y a' m' hy hsy => ?_)
    have hy : rows[i]? = some y := hy
    refine KW.callE rfl rfl rfl rfl rfl (l03Row p c (by unfold I64 at *; have := k1.1; omega) (hB.each y (List.mem_of_getElem? hy)) hsy) (fun _ _ => ?_)
    refine KW.cndB rfl rfl (fun h4 => ?_) (fun h4 => ?_)
    · exact KW.ret rfl rfl rfl rfl (by rw [tv_false (p := OkMat p c rows) (fun hc => by rw [tv_true (hc.row y (List.mem_of_getElem? hy))] at h4; cases h4)]; rfl)
    · have h4 := tv_iff.1 (by simpa using h4)
      refine KW.nxt rfl rfl (fun H' g => ⟨i + 1, ⟨by omega, upto hj (fun z hz => by rw [hy] at hz; cases hz; exact h4)⟩, by first | omega | (simp only; omega), ⟨rfl, congrArg (Value.int .i64) (inc64 (by omega)), trivial⟩, g⟩)
  · have hE : ∀ x ∈ rows, (x.length : Int) = c ∧ Elems p x := fun x hx => by
      obtain ⟨j, hjx⟩ := List.getElem?_of_mem hx
      exact hj j (by have := (List.getElem?_eq_some_iff.1 hjx).1; omega) x hjx
    exact KW.ret rfl rfl rfl rfl (by rw [tv_true (p := OkMat p c rows) ⟨k1, k2.1, k2.2, by omega, hE⟩]; rfl)
end
end Go.Proofs.Ytaepgfafbnjccaa.Am
/- Contracts: DualRanks, of the program and of the reference. Each holds under its own conditions. -/
set_option linter.unusedVariables false
set_option linter.unusedSimpArgs false
set_option maxRecDepth 20000
namespace Go.Proofs.Ytaepgfafbnjccaa.Am
open Go Go.RowKit Go.Proofs
theorem andnot_nat (a b i : Nat) : ((BitVec.ofNat 64 a &&& ~~~BitVec.ofNat 64 b).toNat).testBit i = (decide (i < 64) && (a.testBit i && !b.testBit i)) := by
  rw [BitVec.testBit_toNat, BitVec.getLsbD_and, BitVec.getLsbD_not, BitVec.getLsbD_ofNat, BitVec.getLsbD_ofNat]
  by_cases h : i < 64 <;> simp [h]
theorem dif_small {a b : Nat} (ha : a < 4611686018427387904) : dif a b < 4611686018427387904 := dif_lt (m := 62) ha
theorem andnot_eq {a b : Nat} (ha : a < 4611686018427387904) : (BitVec.ofNat 64 a &&& ~~~BitVec.ofNat 64 b).toNat = dif a b := by
  apply Nat.eq_of_testBit_eq; intro i
  rw [andnot_nat, dif_bit]
  by_cases h : i < 64
  · simp [h]
  · have : a.testBit i = false := Nat.testBit_lt_two_pow (Nat.lt_of_lt_of_le (show a < 2 ^ 62 from ha) (Nat.pow_le_pow_right (by decide) (by omega)))
    simp [h, this]
theorem andnot_u64 {a b : Nat} (ha : a < 4611686018427387904) (hb : b < 4611686018427387904) : IntKind.u64.wrap ((BitVec.ofInt IntKind.u64.bits (a : Int) &&& ~~~BitVec.ofInt IntKind.u64.bits (b : Int)).toNat : Int) = ((dif a b : Nat) : Int) := by
  show IntKind.u64.wrap ((BitVec.ofInt 64 (a : Int) &&& ~~~BitVec.ofInt 64 (b : Int)).toNat : Int) = _
  rw [bv_nat ha, bv_nat hb, andnot_eq ha]
  have := dif_small (b := b) ha
  exact wru (by omega) (by omega)
theorem andnot_i64 {a b : Nat} (ha : a < 4611686018427387904) (hb : b < 4611686018427387904) : IntKind.i64.wrap ((BitVec.ofInt IntKind.i64.bits (a : Int) &&& ~~~BitVec.ofInt IntKind.i64.bits (b : Int)).toNat : Int) = ((dif a b : Nat) : Int) := by
  show IntKind.i64.wrap ((BitVec.ofInt 64 (a : Int) &&& ~~~BitVec.ofInt 64 (b : Int)).toNat : Int) = _
  rw [bv_nat ha, bv_nat hb, andnot_eq ha]
  have := dif_small (b := b) ha
  exact wr (by omega) (by omega)
/-- The sum of the single ranks of some holders. -/
def sumL (l : List Int) : List Int → Int
  | [] => 0
  | h :: hs => l.getD (2 ^ h.toNat) 0 + sumL l hs
theorem sumL_app (l : List Int) (xs : List Int) (h : Int) : sumL l (xs ++ [h]) = sumL l xs + l.getD (2 ^ h.toNat) 0 := by
  induction xs with
  | nil => simp [sumL]
  | cons x xs ih => simp only [List.cons_append, sumL, ih]; omega
theorem sumL_hold (l : List Int) (c : Nat) : ∀ n, sumL l (hold c n) = sumH l c n
  | 0 => rfl
  | n + 1 => by
    rw [hold_next]
    simp only [sumH]
    by_cases h : c.testBit n = true
    · rw [if_pos h, if_pos h, sumL_app, sumL_hold l c n]; rfl
    · rw [if_neg h, if_neg h, sumL_hold l c n]; omega
theorem hold_mem {c n : Nat} {x : Int} (h : x ∈ hold c n) : ∃ i : Nat, x = i ∧ i < n ∧ c.testBit i = true := by
  unfold hold at h
  obtain ⟨i, hi, rfl⟩ := List.mem_map.1 h
  obtain ⟨h1, h2⟩ := List.mem_filter.1 hi
  exact ⟨i, rfl, List.mem_range.1 h1, h2⟩
theorem sumL_in {l : List Int} (hw : Within l) : ∀ xs : List Int, 0 ≤ sumL l xs ∧ sumL l xs ≤ 100000 * xs.length
  | [] => by simp [sumL]
  | x :: xs => by
    have h := sumL_in hw xs
    have h1 : 0 ≤ l.getD (2 ^ x.toNat) 0 ∧ l.getD (2 ^ x.toNat) 0 ≤ 100000 := by
      rcases Nat.lt_or_ge (2 ^ x.toNat) l.length with h | h
      · exact hw _ h
      · rw [List.getD_eq_getElem?_getD, List.getElem?_eq_none h]; show 0 ≤ (0 : Int) ∧ (0 : Int) ≤ 100000; omega
    simp only [sumL, List.length_cons]
    omega
theorem getD_in {l : List Int} (hw : Within l) (i : Nat) : 0 ≤ l.getD i 0 ∧ l.getD i 0 ≤ 100000 := by
  rcases Nat.lt_or_ge i l.length with h | h
  · exact hw _ h
  · rw [List.getD_eq_getElem?_getD, List.getElem?_eq_none h]; show 0 ≤ (0 : Int) ∧ (0 : Int) ≤ 100000; omega
theorem sumL_take {l xs : List Int} {i : Nat} {x : Int} (h : xs[i]? = some x) : sumL l (xs.take (i + 1)) = sumL l (xs.take i) + l.getD (2 ^ x.toNat) 0 := by
  obtain ⟨hi, rfl⟩ := List.getElem?_eq_some_iff.1 h
  rw [List.take_succ_eq_append_getElem hi, sumL_app]
theorem sumH_in {l : List Int} (hw : Within l) (c : Nat) : ∀ n, 0 ≤ sumH l c n ∧ sumH l c n ≤ 100000 * n
  | 0 => by simp [sumH]
  | n + 1 => by
    have h := sumH_in hw c n
    have h1 := getD_in hw (2 ^ n)
    simp only [sumH]
    split <;> omega
theorem ranksM {X : Ids} {H : AH} {v : Value} {m u : Int} {xs : List Int} (h : KI.Ml X H v xs) : M_Ranks.R X H (m, u, xs) [.int .i64 m, .int .i64 u, v] :=
  mpR (X := None_) (cs := [.int .i64 m]) (show KI.R None_ H m _ from rfl) (mpR (X := None_) (cs := [.int .i64 u]) (show KI.R None_ H u _ from rfl) (ml1' h) (fun _ p => p.elim) (fun _ p => p) (fun _ p _ => p.elim)) (fun _ p => p.elim) (fun _ p => p) (fun _ p _ => p.elim)
theorem familyOpens {m : Int} {gs : List (List Int)} {q : Nat} (hq : m = q) (h : codeF m gs = 0) : FamOk m gs ∧ Opens gs (2 ^ q - 1) := by
  unfold codeF at h
  split at h
  · rename_i h1
    have h1 := tv_iff.1 h1
    refine ⟨h1, ?_⟩
    have h2 : gs.length ≠ 0 := fun hc => by
      rw [if_pos hc] at h
      split at h <;> cases h
    obtain ⟨g, hg⟩ : ∃ g, gs[0]? = some g := ⟨gs[0]'(by omega), List.getElem?_eq_getElem (by omega)⟩
    have hgm := List.mem_of_getElem? hg
    refine ⟨g, hgm, ?_⟩
    have hb : bitsOf g < 2 ^ q := bitsOf_lt (fun x hx => by have := h1.below g hgm x hx; omega)
    rw [Nat.and_comm, Nat.and_two_pow_sub_one_eq_mod, Nat.mod_eq_of_lt hb]
  · cases h
theorem Good.ints {S0 : Ids} {H0 H1 : AH} {T : List Var} {n j id c : Nat} {b : Blk} {ik : IntKind} {xs : List Int} (g : Good S0 H0 T n H1) (hj : T[j]? = some (id, b)) (hb : b.cells = xs.map (Value.int ik)) (hl : xs.length ≤ c) : (Kn.int ik).Sl (Low H1.n) H1 (.slice (some ⟨id, 0, some 1⟩) xs.length c) xs :=
  int_sl (g.blk hj).2 (g.blk hj).1 hb hl
/-- The place of a variable is behind what was there. -/
theorem Good.ge {S0 : Ids} {H0 H1 H2 : AH} {T : List Var} {n j id : Nat} {b : Blk} [o : On (Low H1.n) H1 S0 H0] (g : Good S0 H0 T n H2) (hj : T[j]? = some (id, b)) : H1.n ≤ id := by
  rcases Nat.lt_or_ge id H1.n with h | h
  · exact absurd (o.st id h).1 (g.vars j _ hj).2.2
  · exact h
theorem range_map_succ' {α : Type} (f : Nat → α) (n : Nat) : (List.range (n + 1)).map f = (List.range n).map f ++ [f n] := by rw [List.range_succ, List.map_append]; rfl
/-- The code of dual ranks. -/
noncomputable def r1_DualRanks (x : T_Ranks) (y : T_Family) : Int :=
  if fitC x.1 x.2.1 x.2.2 y.1 y.2 = 0 then (if tv (∀ a, a < x.2.2.length → ∀ b, b < x.2.2.length → ¬ Mis x.2.2 x.2.1 y.2 a b) = true then (if tv (∀ z ∈ dualL x.2.2 x.2.1 y.2 x.1.toNat (2 ^ x.1.toNat), z ≤ 100000) = true then 0 else 3) else 8) else fitC x.1 x.2.1 x.2.2 y.1 y.2
noncomputable def r0_DualRanks (x : T_Ranks) (y : T_Family) : T_Ranks := if r1_DualRanks x y = 0 then (x.1, x.2.1, dualL x.2.2 x.2.1 y.2 x.1.toNat (2 ^ x.1.toNat)) else (0, 0, [])
/-- Ranks and a code. -/
def MkRC (r : T_Ranks) (code : Int) (n : Nat) (v : Value) (H1 : AH) : Prop := ∃ cs : List Value, v = .tuple #[.agg cs.toArray, .int .i64 code] ∧ M_Ranks.R (New n H1.n) H1 r cs
theorem MkRC.nil {code : Int} {n : Nat} {v : Value} {H1 : AH} (hv : v = .tuple #[.agg #[.int .i64 0, .int .i64 0, .slice none 0 0], .int .i64 code]) : MkRC (0, 0, []) code n v H1 := ⟨_, hv, ranksM (.inl ⟨rfl, _, _, rfl, fun _ => rfl⟩)⟩
theorem built_Ranks (a b : Int) : Try.prog.built 49 [(0, .int .i64 a), (1, .int .i64 b)] = some #[.int .i64 a, .int .i64 b, .slice none 0 0] := by kernel_rfl
theorem built_Ranks0 : Try.prog.built 49 [] = some #[.int .i64 0, .int .i64 0, .slice none 0 0] := by kernel_rfl
section
variable {S : Ids} {H0 : AH}
theorem maxI {a c} {xs : List Int} (h0 : xs ≠ []) (hl : xs.length ≤ 1048576) (hs : KI.Sl S H0 (.slice a xs.length c) xs) : Spec Try.prog S H0 111 [.slice a xs.length c] (fun v => ∃ r : Int, v = .int .i64 r ∧ r ∈ xs ∧ ∀ x ∈ xs, x ≤ r) := by
  refine Spec.of1 Try.func111 rfl (by kernel_rfl) rfl (fun H _ => ?_)
  have hp : 0 < xs.length := List.length_pos_iff.2 h0
  refine KW.no rfl rfl (by omega) ?_
  refine KW.getI hs.up rfl rfl rfl rfl rfl rfl rfl rfl rfl rfl rfl rfl rfl rfl rfl rfl (by omega) (by omega) (fun x0 hx0 => ?_)
  have hx0 : xs[0]? = some x0 := hx0
  refine KW.lp rfl rfl (fun s : Nat × Int => [(0, .slice a xs.length c), (3, .int .i64 s.2), (4, .int .i64 s.1)]) (fun s => s.1 ≤ xs.length ∧ s.2 ∈ xs ∧ ∀ j, j < s.1 → ∀ x, xs[j]? = some x → x ≤ s.2) (fun s => xs.length - s.1) ((1, x0)) (⟨by simp only; omega, List.mem_of_getElem? hx0, fun j hj x hx => by have e : j = 0 := (by simp only at hj; omega); subst e; rw [hx0] at hx; cases hx; exact Int.le_refl _⟩) ⟨rfl, rfl, rfl, trivial⟩ (fun s hi bE n => ?_)
  obtain ⟨i, r⟩ := s
  obtain ⟨hi, hr, hj⟩ := hi
  simp only at hi hr hj
  refine KW.cnd rfl rfl (fun k1 => ?_) (fun k1 => ?_)
  · refine KW.getI hs.up rfl rfl rfl rfl rfl rfl rfl rfl rfl rfl rfl rfl rfl rfl rfl rfl (by simp only; omega) (k1) (fun y hy => ?_)
    have hy : xs[i]? = some y := hy
    have hym := List.mem_of_getElem? hy
    refine KW.nxt rfl rfl (fun H' g => ⟨(i + 1, if y > r then y else r), ⟨by simp only; omega, by simp only; split <;> assumption, upto (fun j hjl x hx => by have := hj j hjl x hx; simp only; split <;> omega) (fun x hx => by rw [hy] at hx; cases hx; simp only; split <;> omega)⟩, by first | omega | (simp only; omega), ⟨rfl, rfl, congrArg (Value.int .i64) (inc64 (by omega)), trivial⟩, g⟩)
  · exact KW.ret rfl rfl rfl rfl (⟨r, rfl, hr, all_of (fun j hjl => hj j (by simp only at k1; omega))⟩)
theorem impl_DualRanks {x : T_Ranks} {y : T_Family} {cs ds : List Value} (hB : B_Ranks x) (hF : B_Family y) (h : K_Ranks.R S H0 x cs) (k : K_Family.R S H0 y ds) : SpecM Try.prog S H0 51 [.agg cs.toArray, .agg ds.toArray] (MkRC (r0_DualRanks x y) (r1_DualRanks x y)) := by
  obtain ⟨a1, c1, rfl, h1⟩ := split_Ranks h
  obtain ⟨a2, c2, rfl, k1⟩ := split_Family k
  have s1 := sl1 h1
  have s2 := sl1 k1
  obtain ⟨m, u, l⟩ := x
  obtain ⟨h', gs⟩ := y
  simp only at s1 s2 ⊢
  have hl : l.length ≤ 1048576 := hB.2.2
  have hsm : Sml gs := hF.2
  refine SpecM.of1 Try.func51 rfl (by kernel_rfl) rfl (fun H _ => ?_)
  have hfit := fitsFamily (S := Low H.n) (H0 := H) m u h' hl hsm s1.up s2.up
  by_cases hc : fitC m u l h' gs = 0
  · rw [fits_yes hc] at hfit
    refine KW.callE rfl rfl rfl rfl rfl (hfit) (fun _ _ => ?_)
    refine KW.cF rfl rfl (by first | (simp; done) | decide) ?_
    obtain ⟨ho, hf, rfl⟩ := fitC_zero hc
    have hcf : codeF m gs = 0 := by
      unfold fitC at hc
      rw [if_pos (tv_true ho)] at hc
      by_cases hz : codeF m gs = 0
      · exact hz
      · rw [if_neg hz] at hc; exact absurd hc hz
    obtain ⟨q, hq⟩ : ∃ q : Nat, m = q := ⟨m.toNat, by have := hf.h1; omega⟩
    have hop := (familyOpens hq hcf).2
    subst hq
    have hq7 : q ≤ 7 := by have := hf.h2; omega
    have hq5 : q ≤ 5 := by have := ho.1.2; omega
    have hp := small_pow (m := q) (by omega)
    have hpos := Nat.two_pow_pos q
    have hll : l.length = 2 ^ q := by have := ho.2.2.1; simpa using this
    have hw := ho.2.2.2.2.1
    have hu := ho.2.1
    by_cases hmis : ∀ a, a < l.length → ∀ b, b < l.length → ¬ Mis l u gs a b
    · rw [tv_true hmis]
      refine KW.cF rfl rfl (by first | (simp; done) | decide) ?_
      refine KW.callE rfl rfl rfl rfl rfl (everybody (m := q) (by omega)) (fun n9 m9 => ?_)
      refine KW.build rfl rfl rfl rfl rfl (built_Ranks _ _) ?_
      have hA : 2 ^ q - 1 < l.length := by omega
      have hb : Below' q gs := by simpa using hf.below
      refine KW.lpM rfl rfl (fun s : Nat × Value × List Var => [(2, .pointer (some ⟨H.n, 0, some 0⟩)), (3, .pointer (some ⟨H.n + 1, 0, some 1⟩)), (4, .pointer (some ⟨H.n + 2, 0, some 2⟩)), (8, .int .u64 ((2 ^ q - 1 : Nat) : Int)), (9, .pointer (some ⟨n9, 0, some 3⟩)), (10, .int .u64 s.1)]) (fun s => Low H.n) (fun s => H) (fun s => [(H.n, ⟨49, true, [.int .i64 q, .int .i64 u, .slice a1 l.length c1]⟩), (H.n + 1, ⟨51, true, [.int .i64 q, .slice a2 gs.length c2]⟩), (H.n + 2, ⟨49, true, [.int .i64 0, .int .i64 0, .slice none 0 0]⟩), (n9, ⟨49, true, [.int .i64 q, .int .i64 u, s.2.1]⟩)] ++ s.2.2) (fun s => s.1 ≤ 2 ^ q ∧ ((s.1 = 0 ∧ s.2.1 = .slice none 0 0 ∧ s.2.2 = []) ∨ (0 < s.1 ∧ ∃ o, s.2.1 = .slice (some ⟨o, 0, some 1⟩) (dualL l u gs q s.1).length (dualL l u gs q s.1).length ∧ s.2.2 = [(o, ⟨2, true, (dualL l u gs q s.1).map (Value.int .i64)⟩)]))) (fun s => 2 ^ q - s.1) ((0, .slice none 0 0, [])) (⟨by simp only; omega, .inl ⟨rfl, rfl, rfl⟩⟩) ⟨rfl, rfl, rfl, rfl, rfl, rfl, trivial⟩ rfl rfl rfl (fun s hi bE n => ?_)
      obtain ⟨c, lv, tail⟩ := s
      obtain ⟨hi, hcase⟩ := hi
      simp only at hi hcase
      have hX : dif (2 ^ q - 1) c < l.length := by rw [hll]; exact dif_lt (by omega)
      have hXs : dif (2 ^ q - 1) c < 4611686018427387904 := by omega
      have hXe : IntKind.u64.wrap ((BitVec.ofInt IntKind.u64.bits ((2 ^ q - 1 : Nat) : Int) &&& ~~~BitVec.ofInt IntKind.u64.bits (c : Int)).toNat : Int) = ((dif (2 ^ q - 1) c : Nat) : Int) := andnot_u64 (by omega) (by omega)
      have r1 := getD_in hw (dif (2 ^ q - 1) c)
      have r2 := getD_in hw (2 ^ q - 1)
      have hhl := hold_len c 7
      have hsx := sumL_in hw (hold c 7)
      have hlen := dualL_len l u gs q c
      rcases hcase with ⟨hc0, rfl, rfl⟩ | ⟨hc0, o, rfl, rfl⟩
      all_goals
        refine KW.cnd rfl rfl (fun k2 => ?gin) (fun k2 => ?gout)
        case gin =>
          have k2 : (c : Int) ≤ ((2 ^ q - 1 : Nat) : Int) := k2
          refine KW.callE rfl rfl rfl rfl rfl ((by show Spec _ _ _ _ [ranksV q u (.slice a1 l.length c1), .int .u64 (IntKind.u64.wrap _)] _; rw [hXe]; exact rank _ _ _ hX s1.up)) (fun _ _ => ?_)
          refine KW.callE rfl rfl rfl rfl rfl (rank q u (2 ^ q - 1) hA s1.up) (fun _ _ => ?_)
          refine KW.callN1 rfl rfl rfl rfl rfl (group (x := c) (by omega)) (fun v HG SG mG _ _ hv => ?_)
          obtain ⟨a5, c5, rfl, hG⟩ := hv
          have hB0 : IntKind.i64.wrap (l.getD (dif (2 ^ q - 1) c) 0 - l.getD (2 ^ q - 1) 0) = l.getD (dif (2 ^ q - 1) c) 0 - l.getD (2 ^ q - 1) 0 := wr (by omega) (by omega)
          obtain ⟨B, hBe⟩ : ∃ B, l.getD (dif (2 ^ q - 1) c) 0 - l.getD (2 ^ q - 1) 0 = B := ⟨_, rfl⟩
          rw [hBe] at hB0
          refine KW.lp rfl rfl (fun i : Nat => [(2, .pointer (some ⟨H.n, 0, some 0⟩)), (3, .pointer (some ⟨H.n + 1, 0, some 1⟩)), (4, .pointer (some ⟨H.n + 2, 0, some 2⟩)), (8, .int .u64 ((2 ^ q - 1 : Nat) : Int)), (9, .pointer (some ⟨n9, 0, some 3⟩)), (10, .int .u64 c), (11, .int .i64 (B + sumL l ((hold c 7).take i))), (50, .slice a5 (hold c 7).length c5), (51, .int .i64 (hold c 7).length), (52, .int .i64 i)]) (fun i => i ≤ (hold c 7).length) (fun i => (hold c 7).length - i) (0) (by omega) ⟨rfl, rfl, rfl, rfl, rfl, rfl, congrArg (Value.int .i64) (by rw [hBe, hB0]; simp [sumL]), rfl, rfl, rfl, trivial⟩ (fun i hi bE n => ?_)
          have hst := sumL_in hw ((hold c 7).take i)
          have hsl : ((hold c 7).take i).length ≤ 7 := by rw [List.length_take]; omega
          refine KW.cnd rfl rfl (fun k3 => ?gin2) (fun k3 => ?gout2)
          case gin2 =>
            refine KW.getI hG.ups rfl rfl rfl rfl rfl rfl rfl rfl rfl rfl rfl rfl rfl rfl rfl rfl (by omega) (k3) (fun z hz => ?_)
            have hz' : (hold c 7)[i]? = some z := hz
            obtain ⟨j, rfl, hj7, hjb⟩ := hold_mem (List.mem_of_getElem? hz')
            have hjq : j < q := by
              rcases Nat.lt_or_ge j q with h | h
              · exact h
              · rw [Nat.testBit_lt_two_pow (Nat.lt_of_lt_of_le (show c < 2 ^ q by omega) (Nat.pow_le_pow_right (by decide) h))] at hjb; cases hjb
            have hjl : 2 ^ j < l.length := by rw [hll]; exact Nat.pow_lt_pow_right (by decide) hjq
            refine KW.shlU rfl rfl rfl rfl rfl rfl j rfl (by omega) ?_
            refine KW.callE rfl rfl rfl rfl rfl (rank q u (2 ^ j) hjl s1.up) (fun _ _ => ?_)
            have hjr := getD_in hw (2 ^ j)
            have hsum := sumL_take (l := l) hz'
            simp only [Int.toNat_natCast] at hsum
            refine KW.nxt rfl rfl (fun H' g => ⟨i + 1, by omega, by first | omega | (simp only; omega), ⟨rfl, rfl, rfl, rfl, rfl, rfl, congrArg (Value.int .i64) (by rw [hsum, wr (by omega) (by omega)]; omega), rfl, rfl, congrArg (Value.int .i64) (inc64 (by omega)), trivial⟩, g⟩)
          case gout2 =>
            obtain rfl : i = (hold c 7).length := by omega
            have e7 : hold c 7 = hold c q := by
              have := hold_up (x := c) (m := q) (by omega) (7 - q)
              rw [show q + (7 - q) = 7 by omega] at this
              exact this
            have hS : sumL l ((hold c 7).take (hold c 7).length) = sumH l c q := by rw [List.take_of_length_le (Nat.le_refl _), e7, sumL_hold]
            rw [hS] at hst ⊢
            have hdu : dualAt l u gs q c = B + sumH l c q + uO u gs (dif (2 ^ q - 1) c) := by unfold dualAt; rw [hBe]
            have enx := range_map_succ' (dualAt l u gs q) c
            refine KW.callE rfl rfl rfl rfl rfl ((by show Spec _ _ _ _ [familyV q (.slice a2 gs.length c2), .int .u64 (IntKind.u64.wrap _)] _; rw [hXe]; exact opens hq7 q hXs hsm hb s2.up)) (fun _ _ => ?_)
            by_cases hO : Opens gs (dif (2 ^ q - 1) c)
            · rw [tv_true hO]
              refine KW.cF rfl rfl (by first | (simp; done) | decide) ?_
              have hv : B + sumH l c q = dualAt l u gs q c := by rw [hdu]; unfold uO; rw [tv_true hO]; simp
              rw [hv]
              first
                | (refine KW.app0 (v := .int .i64 (dualAt l u gs q c)) 4 rfl rfl rfl rfl rfl rfl rfl rfl rfl rfl rfl rfl rfl rfl rfl rfl rfl rfl rfl rfl rfl rfl (by decide) ?_
                   subst hc0
                   exact KW.nxt rfl rfl (fun H' g => ⟨(1, _, _), ⟨by simp only; omega, .inr ⟨by simp, _, rfl, rfl⟩⟩, by simp only; omega, ⟨rfl, rfl, rfl, rfl, rfl, rfl, trivial⟩, g.back⟩))
                | (refine KW.app1 (xs := (dualL l u gs q c).map (Value.int .i64)) (v := .int .i64 (dualAt l u gs q c)) 4 5 rfl rfl rfl rfl rfl rfl rfl rfl rfl rfl rfl rfl rfl rfl rfl rfl rfl rfl rfl rfl rfl rfl rfl (by simp) (by show (_ + 1) * 8 ≤ _; omega) (by omega) ?_
                   exact KW.nxt rfl rfl (fun H' g => ⟨(c + 1, _, _), ⟨by simp only; omega, .inr ⟨by simp, _, by simp only [dualL, enx, List.length_append, List.length_singleton]; rfl, by simp only [dualL, enx, List.map_append]; rfl⟩⟩, by simp only; omega, ⟨rfl, rfl, rfl, rfl, rfl, congrArg (Value.int .u64) (incu64 (by omega)), trivial⟩, g.back.eqT (by simp only [dualL, enx, List.map_append]; rfl)⟩))
            · rw [tv_false hO]
              refine KW.cT rfl rfl (by first | (simp; done) | decide) ?_
              have hv : IntKind.i64.wrap (B + sumH l c q + u) = dualAt l u gs q c := by rw [wr (by omega) (by omega), hdu]; unfold uO; rw [tv_false hO]; simp
              first
                | (refine KW.app0 (v := .int .i64 (IntKind.i64.wrap (B + sumH l c q + u))) 4 rfl rfl rfl rfl rfl rfl rfl rfl rfl rfl rfl rfl rfl rfl rfl rfl rfl rfl rfl rfl rfl rfl (by decide) ?_
                   rw [hv]
                   subst hc0
                   exact KW.nxt rfl rfl (fun H' g => ⟨(1, _, _), ⟨by simp only; omega, .inr ⟨by simp, _, rfl, rfl⟩⟩, by simp only; omega, ⟨rfl, rfl, rfl, rfl, rfl, rfl, trivial⟩, g.back⟩))
                | (refine KW.app1 (xs := (dualL l u gs q c).map (Value.int .i64)) (v := .int .i64 (IntKind.i64.wrap (B + sumH l c q + u))) 4 5 rfl rfl rfl rfl rfl rfl rfl rfl rfl rfl rfl rfl rfl rfl rfl rfl rfl rfl rfl rfl rfl rfl rfl (by simp) (by show (_ + 1) * 8 ≤ _; omega) (by omega) ?_
                   rw [hv]
                   exact KW.nxt rfl rfl (fun H' g => ⟨(c + 1, _, _), ⟨by simp only; omega, .inr ⟨by simp, _, by simp only [dualL, enx, List.length_append, List.length_singleton]; rfl, by simp only [dualL, enx, List.map_append]; rfl⟩⟩, by simp only; omega, ⟨rfl, rfl, rfl, rfl, rfl, congrArg (Value.int .u64) (incu64 (by omega)), trivial⟩, g.back.eqT (by simp only [dualL, enx, List.map_append]; rfl)⟩))
        case gout =>
          have k2 : ¬ (c : Int) ≤ ((2 ^ q - 1 : Nat) : Int) := k2
          have hcq : c = 2 ^ q := by omega
          first
            | (exfalso; omega)
            | (have hne : dualL l u gs q c ≠ [] := fun hx => by rw [hx] at hlen; simp at hlen; omega
               refine KW.callVp1 rfl rfl rfl rfl rfl (fun H1 g _ => maxI hne (by rw [hlen]; omega) (g.ints (j := 4) rfl rfl (Nat.le_refl _))) (fun v n8 m8 hv => ?_)
               obtain ⟨r, rfl, hr, hmax⟩ := hv
               subst hcq
               have e0 : (q : Int).toNat = q := by simp
               refine KW.cnd rfl rfl (fun k3 => ?_) (fun k3 => ?_)
               · have k3 : r > 100000 := k3
                 have hno : ¬ ∀ z ∈ dualL l u gs q (2 ^ q), z ≤ 100000 := fun hz => by have := hz r hr; omega
                 have e1 : r1_DualRanks (q, u, l) (q, gs) = 3 := by unfold r1_DualRanks; rw [if_pos hc, if_pos (tv_true hmis)]; simp only [e0]; rw [if_neg (by rw [tv_false hno]; decide)]
                 rw [show r0_DualRanks (q, u, l) (q, gs) = (0, 0, []) from by unfold r0_DualRanks; rw [e1]; rfl, e1]
                 refine KW.build rfl rfl rfl rfl rfl built_Ranks0 ?_
                 refine KW.retM1 rfl rfl rfl rfl (fun H1 g => ?_)
                 exact MkRC.nil rfl
               · have k3 : ¬ r > 100000 := k3
                 have hyes : ∀ z ∈ dualL l u gs q (2 ^ q), z ≤ 100000 := fun z hz => by have := hmax z hz; omega
                 have e1 : r1_DualRanks (q, u, l) (q, gs) = 0 := by unfold r1_DualRanks; rw [if_pos hc, if_pos (tv_true hmis)]; simp only [e0]; rw [if_pos (tv_true hyes)]
                 rw [show r0_DualRanks (q, u, l) (q, gs) = (↑q, u, dualL l u gs q (2 ^ q)) from by unfold r0_DualRanks; rw [e1]; simp only [if_true, e0], e1]
                 refine KW.retM1 rfl rfl rfl rfl (fun H1 g => ?_)
                 exact ⟨_, rfl, ranksM (int_ml ⟨g.ge (H1 := H) (j := 4) rfl, (g.blk (j := 4) rfl).2⟩ (g.blk (j := 4) rfl).1 rfl rfl (Nat.le_refl _))⟩)
    · rw [tv_false hmis]
      refine KW.cT rfl rfl (by first | (simp; done) | decide) ?_
      have e1 : r1_DualRanks (q, u, l) (q, gs) = 8 := by unfold r1_DualRanks; rw [if_pos hc, if_neg (by rw [tv_false hmis]; decide)]
      rw [show r0_DualRanks (q, u, l) (q, gs) = (0, 0, []) from by unfold r0_DualRanks; rw [e1]; rfl, e1]
      refine KW.build rfl rfl rfl rfl rfl (built_Ranks0) ?_
      refine KW.retM1 rfl rfl rfl rfl (fun H1 g => ?_)
      exact MkRC.nil rfl
  · rw [fits_no hc] at hfit
    refine KW.callE rfl rfl rfl rfl rfl (hfit) (fun _ _ => ?_)
    refine KW.cndB rfl rfl (fun k2 => ?_) (fun k2 => ?_)
    · have e1 : r1_DualRanks (m, u, l) (h', gs) = fitC m u l h' gs := by unfold r1_DualRanks; rw [if_neg hc]
      rw [show r0_DualRanks (m, u, l) (h', gs) = (0, 0, []) from by unfold r0_DualRanks; rw [e1, if_neg hc], e1]
      refine KW.build rfl rfl rfl rfl rfl (built_Ranks0) ?_
      refine KW.retM1 rfl rfl rfl rfl (fun H1 g => ?_)
      exact MkRC.nil rfl
    · exact absurd (by simpa using k2) hc
end
end Go.Proofs.Ytaepgfafbnjccaa.Am
/- Contracts: DualRanks of the reference. Each holds under its own conditions. -/
set_option linter.unusedVariables false
set_option linter.unusedSimpArgs false
set_option maxRecDepth 20000
namespace Go.Proofs.Ytaepgfafbnjccaa.Am
open Go Go.RowKit Go.Proofs
theorem tabO_get {gs : List (List Int)} {n q : Nat} {j : Int} (hj : j = (q : Int)) (h : q < n) {y : Bool} (hy : (tabO gs n)[j.toNat]? = some y) : y = tv (Opens gs q) := by
  subst hj
  exact tabO_at h (by simpa using hy)
theorem bit1 {x h : Nat} (hx : x < 4611686018427387904) : (IntKind.i64.wrap ((BitVec.ofInt IntKind.i64.bits ((x / 2 ^ h : Nat) : Int) &&& BitVec.ofInt IntKind.i64.bits ((1 : Nat) : Int)).toNat : Int) == ((1 : Nat) : Int)) = x.testBit h := by
  rw [and_i64 (Nat.lt_of_le_of_lt (Nat.div_le_self _ _) hx) (by decide), ← bit_is]
  generalize x / 2 ^ h &&& 1 = q
  by_cases e : q = 1
  · subst e; rfl
  · rw [show (q == 1) = false from by simpa using e]
    simp only [beq_eq_false_iff_ne, ne_eq]
    omega
section
variable {S : Ids} {H0 : AH}
theorem spec_DualRanks {x : T_Ranks} {y : T_Family} {cs ds : List Value} (hB : B_Ranks x) (hF : B_Family y) (h : K_Ranks.R S H0 x cs) (k : K_Family.R S H0 y ds) : SpecM Try.prog S H0 50 [.agg cs.toArray, .agg ds.toArray] (MkRC (r0_DualRanks x y) (r1_DualRanks x y)) := by
  obtain ⟨a1, c1, rfl, h1⟩ := split_Ranks h
  obtain ⟨a2, c2, rfl, k1⟩ := split_Family k
  have s1 := sl1 h1
  have s2 := sl1 k1
  obtain ⟨m, u, l⟩ := x
  obtain ⟨h', gs⟩ := y
  simp only at s1 s2 ⊢
  have hl : l.length ≤ 1048576 := hB.2.2
  have hsm : Sml gs := hF.2
  refine SpecM.of1 Try.func50 rfl (by kernel_rfl) rfl (fun H _ => ?_)
  refine KW.callV1 rfl rfl rfl rfl rfl (fun H1 g _ => l07Both m u h' hl hsm (g.blk (j := 0) rfl).2 (g.blk (j := 0) rfl).1 (g.blk (j := 1) rfl).2 (g.blk (j := 1) rfl).1 s1.up s2.up) (fun _ _ => ?_)
  by_cases hc : fitC m u l h' gs = 0
  · rw [hc]
    refine KW.cF rfl rfl (by first | (simp; done) | decide) ?_
    obtain ⟨ho, hf, rfl⟩ := fitC_zero hc
    have hcf : codeF m gs = 0 := by
      unfold fitC at hc
      rw [if_pos (tv_true ho)] at hc
      by_cases hz : codeF m gs = 0
      · exact hz
      · rw [if_neg hz] at hc; exact absurd hc hz
    obtain ⟨q, hq⟩ : ∃ q : Nat, m = q := ⟨m.toNat, by have := hf.h1; omega⟩
    have hop := (familyOpens hq hcf).2
    subst hq
    have hq7 : q ≤ 7 := by have := hf.h2; omega
    have hq5 : q ≤ 5 := by have := ho.1.2; omega
    have hp := small_pow (m := q) (by omega)
    have hpos := Nat.two_pow_pos q
    have hll : l.length = 2 ^ q := by have := ho.2.2.1; simpa using this
    have hw := ho.2.2.2.2.1
    have hu := ho.2.1
    have hb : Below' q gs := by simpa using hf.below
    refine KW.callNV1 rfl rfl rfl rfl rfl (fun H1 g _ => l07Open hq7 hsm hb (g.blk (j := 1) rfl).2 (g.blk (j := 1) rfl).1 s2.up) (fun v HO SO mO _ _ hv => ?_)
    obtain ⟨a3, c3, rfl, hO⟩ := hv
    have hO' := hO
    rw [← hll] at hO'
    refine KW.callVp1 rfl rfl rfl rfl rfl (fun H1 g _ => by show Spec _ _ _ _ [.pointer _, .slice a3 (tabO gs (2 ^ q)).length c3] _; rw [← hll]; exact l07Misfit u hq7 hu hll hw (g.blk (j := 0) rfl).2 (g.blk (j := 0) rfl).1 s1.up hO'.up) (fun v n9 m9 hv => ?_)
    obtain ⟨xa, xb, xf, rfl, hv⟩ := hv
    have hnone := hv.none_
    by_cases hmis : ∀ a, a < l.length → ∀ b, b < l.length → ¬ Mis l u gs a b
    · obtain rfl : xf = false := by rw [tv_true hmis] at hnone; simpa using hnone
      refine KW.cF rfl rfl (by first | (simp; done) | decide) ?_
      refine KW.build rfl rfl rfl rfl rfl (built_Ranks _ _) ?_
      have hA : 2 ^ q - 1 < l.length := by omega
      have htl : (tabO gs (2 ^ q)).length = 2 ^ q := tabO_len _ _
      have hAe : IntKind.i64.wrap (((tabO gs (2 ^ q)).length : Nat) - (1 : Int)) = ((2 ^ q - 1 : Nat) : Int) := by rw [htl, wr (by omega) (by omega)]; omega
      refine KW.lpM rfl rfl (fun s : Nat × Value × List Var => [(2, .pointer (some ⟨H.n, 0, some 0⟩)), (4, .pointer (some ⟨H.n + 2, 0, some 2⟩)), (7, .slice a3 (tabO gs (2 ^ q)).length c3), (11, .pointer (some ⟨n9, 0, some 3⟩)), (12, .int .i64 ((2 ^ q - 1 : Nat) : Int)), (13, .int .i64 s.1)]) (fun s => SO) (fun s => HO) (fun s => [(H.n, ⟨49, true, [.int .i64 q, .int .i64 u, .slice a1 l.length c1]⟩), (H.n + 1, ⟨51, true, [.int .i64 q, .slice a2 gs.length c2]⟩), (H.n + 2, ⟨49, true, [.int .i64 0, .int .i64 0, .slice none 0 0]⟩), (n9, ⟨49, true, [.int .i64 q, .int .i64 u, s.2.1]⟩)] ++ s.2.2) (fun s => s.1 ≤ 2 ^ q ∧ ((s.1 = 0 ∧ s.2.1 = .slice none 0 0 ∧ s.2.2 = []) ∨ (0 < s.1 ∧ ∃ o, s.2.1 = .slice (some ⟨o, 0, some 1⟩) (dualL l u gs q s.1).length (dualL l u gs q s.1).length ∧ s.2.2 = [(o, ⟨2, true, (dualL l u gs q s.1).map (Value.int .i64)⟩)]))) (fun s => 2 ^ q - s.1) ((0, .slice none 0 0, [])) (⟨by simp only; omega, .inl ⟨rfl, rfl, rfl⟩⟩) ⟨rfl, rfl, rfl, rfl, congrArg (Value.int .i64) hAe, rfl, trivial⟩ rfl rfl rfl (fun s hi bE n => ?_)
      obtain ⟨c, lv, tail⟩ := s
      obtain ⟨hi, hcase⟩ := hi
      simp only at hi hcase
      have hX : dif (2 ^ q - 1) c < l.length := by rw [hll]; exact dif_lt (by omega)
      have hXs : dif (2 ^ q - 1) c < 4611686018427387904 := by omega
      have hXe : IntKind.i64.wrap ((BitVec.ofInt IntKind.i64.bits ((2 ^ q - 1 : Nat) : Int) &&& ~~~BitVec.ofInt IntKind.i64.bits (c : Int)).toNat : Int) = ((dif (2 ^ q - 1) c : Nat) : Int) := andnot_i64 (by omega) (by omega)
      have r1 := getD_in hw (dif (2 ^ q - 1) c)
      have r2 := getD_in hw (2 ^ q - 1)
      have hsx := sumH_in hw c q
      have hlen := dualL_len l u gs q c
      have enx := range_map_succ' (dualAt l u gs q) c
      rcases hcase with ⟨hc0, rfl, rfl⟩ | ⟨hc0, o, rfl, rfl⟩
      all_goals
        refine KW.cnd rfl rfl (fun k2 => ?gin) (fun k2 => ?gout)
        case gin =>
          have k2 : (c : Int) ≤ ((2 ^ q - 1 : Nat) : Int) := k2
          refine KW.getI s1.up rfl rfl rfl rfl rfl rfl rfl rfl rfl rfl rfl rfl rfl rfl rfl rfl (by rw [hXe]; omega) (by rw [hXe]; omega) (fun z1 hz1 => ?_)
          rw [hXe] at hz1
          have hz1 : l.getD (dif (2 ^ q - 1) c) 0 = z1 := getD_of hz1
          refine KW.getI s1.up rfl rfl rfl rfl rfl rfl rfl rfl rfl rfl rfl rfl rfl rfl rfl rfl (by omega) (by omega) (fun z2 hz2 => ?_)
          have hz2 : l.getD (2 ^ q - 1) 0 = z2 := getD_of hz2
          have hB0 : IntKind.i64.wrap (z1 - z2) = z1 - z2 := wr (by omega) (by omega)
          refine KW.getB hO.up rfl rfl rfl rfl rfl rfl rfl rfl rfl rfl rfl rfl rfl rfl rfl rfl (by rw [hXe]; omega) (by rw [hXe, htl]; omega) (fun y hy => ?_)
          obtain rfl := tabO_get hXe (by omega) hy
          have hdu : dualAt l u gs q c = (z1 - z2) + sumH l c q + uO u gs (dif (2 ^ q - 1) c) := by unfold dualAt; rw [hz1, hz2]
          -- the base with the unit
          have base : ∃ B : Int, B = (z1 - z2) + uO u gs (dif (2 ^ q - 1) c) := ⟨_, rfl⟩
          obtain ⟨B, hBe⟩ := base
          have hBin : -100000 ≤ B ∧ B ≤ 200000 := by
            rw [hBe]; unfold uO
            split <;> omega
          have hdu : dualAt l u gs q c = B + sumH l c q := by rw [hdu, hBe]; omega
          by_cases hOp : Opens gs (dif (2 ^ q - 1) c)
          case' pos =>
            rw [tv_true hOp]
            refine KW.cF rfl rfl (by first | (simp; done) | decide) ?_
            have hBv : IntKind.i64.wrap (z1 - z2) = B := by rw [hB0, hBe]; unfold uO; rw [tv_true hOp]; simp
          case' neg =>
            rw [tv_false hOp]
            refine KW.cT rfl rfl (by first | (simp; done) | decide) ?_
            have hBv : IntKind.i64.wrap (IntKind.i64.wrap (z1 - z2) + u) = B := by rw [hB0, wr (by omega) (by omega), hBe]; unfold uO; rw [tv_false hOp]; simp
          all_goals
            refine KW.lp rfl rfl (fun i : Nat => [(2, .pointer (some ⟨H.n, 0, some 0⟩)), (4, .pointer (some ⟨H.n + 2, 0, some 2⟩)), (7, .slice a3 (tabO gs (2 ^ q)).length c3), (11, .pointer (some ⟨n9, 0, some 3⟩)), (12, .int .i64 ((2 ^ q - 1 : Nat) : Int)), (13, .int .i64 c), (14, .int .i64 (B + sumH l c i)), (15, .int .i64 i)]) (fun i => i ≤ q) (fun i => q - i) (0) (by omega) ⟨rfl, rfl, rfl, rfl, rfl, rfl, congrArg (Value.int .i64) (by rw [hBv]; simp [sumH]), rfl, trivial⟩ (fun i hi bE n => ?_)
            have hst := sumH_in hw c i
            refine KW.cnd rfl rfl (fun k3 => ?gin2) (fun k3 => ?gout2)
            case gin2 =>
              have k3 : (i : Int) < q := k3
              refine KW.shr rfl rfl rfl rfl rfl rfl rfl c i rfl (wru (by omega) (by omega)) (by omega) ?_
              have hil : 2 ^ i < l.length := by rw [hll]; exact Nat.pow_lt_pow_right (by decide) (by omega)
              have hir := getD_in hw (2 ^ i)
              have hb1 := bit1 (x := c) (h := i) (by omega)
              refine KW.cndB rfl rfl (fun k4 => ?_) (fun k4 => ?_)
              · have k4 : c.testBit i = true := hb1.symm.trans k4
                refine KW.shlI rfl rfl rfl rfl rfl rfl i (wru (by omega) (by omega)) (by omega) ?_
                refine KW.getI s1.up rfl rfl rfl rfl rfl rfl rfl rfl rfl rfl rfl rfl rfl rfl rfl rfl (Int.natCast_nonneg _) (Int.ofNat_lt.2 hil) (fun w hw' => ?_)
                rw [Int.toNat_natCast] at hw'
                have hw' : l.getD (2 ^ i) 0 = w := getD_of hw'
                have hs1 : sumH l c (i + 1) = sumH l c i + w := by simp only [sumH, if_pos k4, hw']
                refine KW.nxt rfl rfl (fun H' g => ⟨i + 1, by omega, by first | omega | (simp only; omega), ⟨rfl, rfl, rfl, rfl, rfl, rfl, congrArg (Value.int .i64) (by rw [hs1, wr (by omega) (by omega)]; omega), congrArg (Value.int .i64) (inc64 (by omega)), trivial⟩, g⟩)
              · have k4 : c.testBit i = false := hb1.symm.trans k4
                have hs1 : sumH l c (i + 1) = sumH l c i := by simp only [sumH, k4]; simp
                refine KW.nxt rfl rfl (fun H' g => ⟨i + 1, by omega, by first | omega | (simp only; omega), ⟨rfl, rfl, rfl, rfl, rfl, rfl, congrArg (Value.int .i64) (by rw [hs1]), congrArg (Value.int .i64) (inc64 (by omega)), trivial⟩, g⟩)
            case gout2 =>
              obtain rfl : i = q := by have k3 : ¬ (i : Int) < q := k3; omega
              rw [← hdu]
              first
                | (refine KW.app0 (v := .int .i64 (dualAt l u gs i c)) 4 rfl rfl rfl rfl rfl rfl rfl rfl rfl rfl rfl rfl rfl rfl rfl rfl rfl rfl rfl rfl rfl rfl (by decide) ?_
                   subst hc0
                   exact KW.nxt rfl rfl (fun H' g => ⟨(1, _, _), ⟨by simp only; omega, .inr ⟨by simp, _, rfl, rfl⟩⟩, by simp only; omega, ⟨rfl, rfl, rfl, rfl, rfl, rfl, trivial⟩, g⟩))
                | (refine KW.app1 (xs := (dualL l u gs i c).map (Value.int .i64)) (v := .int .i64 (dualAt l u gs i c)) 4 5 rfl rfl rfl rfl rfl rfl rfl rfl rfl rfl rfl rfl rfl rfl rfl rfl rfl rfl rfl rfl rfl rfl rfl (by simp) (by show (_ + 1) * 8 ≤ _; omega) (by omega) ?_
                   exact KW.nxt rfl rfl (fun H' g => ⟨(c + 1, _, _), ⟨by simp only; omega, .inr ⟨by simp, _, by simp only [dualL, enx, List.length_append, List.length_singleton]; rfl, by simp only [dualL, enx, List.map_append]; rfl⟩⟩, by simp only; omega, ⟨rfl, rfl, rfl, rfl, rfl, congrArg (Value.int .i64) (inc64 (by omega)), trivial⟩, g.eqT (by simp only [dualL, enx, List.map_append]; rfl)⟩))
        case gout =>
          have k2 : ¬ (c : Int) ≤ ((2 ^ q - 1 : Nat) : Int) := k2
          have hcq : c = 2 ^ q := by omega
          first
            | (exfalso; omega)
            | (subst hcq
               refine KW.callV1 rfl rfl rfl rfl rfl (fun H1 g _ => l07Ok q u (by rw [hlen]; omega) (g.blk (j := 3) rfl).2 (g.blk (j := 3) rfl).1 (g.ints (j := 4) rfl rfl (Nat.le_refl _))) (fun _ _ => ?_)
               have e0 : (q : Int).toNat = q := by simp
               have hdk := dual_ok ho hop hmis
               by_cases hall : ∀ z ∈ dualL l u gs q (2 ^ q), z ≤ 100000
               · rw [tv_true (hdk.2 hall)]
                 refine KW.cF rfl rfl rfl ?_
                 have e1 : r1_DualRanks (q, u, l) (q, gs) = 0 := by unfold r1_DualRanks; rw [if_pos hc, if_pos (tv_true hmis)]; simp only [e0]; rw [if_pos (tv_true hall)]
                 rw [show r0_DualRanks (q, u, l) (q, gs) = (↑q, u, dualL l u gs q (2 ^ q)) from by unfold r0_DualRanks; rw [e1]; simp only [if_true, e0], e1]
                 refine KW.retM1 rfl rfl rfl rfl (fun H1 g => ?_)
                 exact ⟨_, rfl, ranksM (int_ml ⟨g.ge (H1 := H) (j := 4) rfl, (g.blk (j := 4) rfl).2⟩ (g.blk (j := 4) rfl).1 rfl rfl (Nat.le_refl _))⟩
               · rw [tv_false (fun hx => hall (hdk.1 hx))]
                 refine KW.cT rfl rfl rfl ?_
                 have e1 : r1_DualRanks (q, u, l) (q, gs) = 3 := by unfold r1_DualRanks; rw [if_pos hc, if_pos (tv_true hmis)]; simp only [e0]; rw [if_neg (by rw [tv_false hall]; decide)]
                 rw [show r0_DualRanks (q, u, l) (q, gs) = (0, 0, []) from by unfold r0_DualRanks; rw [e1]; rfl, e1]
                 refine KW.build rfl rfl rfl rfl rfl built_Ranks0 ?_
                 refine KW.retM1 rfl rfl rfl rfl (fun H1 g => ?_)
                 exact MkRC.nil rfl)
    · obtain rfl : xf = true := by rw [tv_false hmis] at hnone; simpa using hnone
      refine KW.cT rfl rfl (by first | (simp; done) | decide) ?_
      have e1 : r1_DualRanks (q, u, l) (q, gs) = 8 := by unfold r1_DualRanks; rw [if_pos hc, if_neg (by rw [tv_false hmis]; decide)]
      rw [show r0_DualRanks (q, u, l) (q, gs) = (0, 0, []) from by unfold r0_DualRanks; rw [e1]; rfl, e1]
      refine KW.build rfl rfl rfl rfl rfl (built_Ranks0) ?_
      refine KW.retM1 rfl rfl rfl rfl (fun H1 g => ?_)
      exact MkRC.nil rfl
  · refine KW.cndB rfl rfl (fun k2 => ?_) (fun k2 => ?_)
    · have e1 : r1_DualRanks (m, u, l) (h', gs) = fitC m u l h' gs := by unfold r1_DualRanks; rw [if_neg hc]
      rw [show r0_DualRanks (m, u, l) (h', gs) = (0, 0, []) from by unfold r0_DualRanks; rw [e1, if_neg hc], e1]
      refine KW.build rfl rfl rfl rfl rfl (built_Ranks0) ?_
      refine KW.retM1 rfl rfl rfl rfl (fun H1 g => ?_)
      exact MkRC.nil rfl
    · exact absurd (by simpa using k2) hc
theorem bound_DualRanks {x : T_Ranks} {y : T_Family} (hB : B_Ranks x) (hF : B_Family y) : B_Ranks (r0_DualRanks x y) := by
  unfold r0_DualRanks
  split
  · rename_i h
    refine ⟨hB.1, hB.2.1, ?_⟩
    show (dualL _ _ _ _ _).length ≤ 1048576
    rw [dualL_len]
    have h0 : fitC x.1 x.2.1 x.2.2 y.1 y.2 = 0 := by
      unfold r1_DualRanks at h
      by_cases hc : fitC x.1 x.2.1 x.2.2 y.1 y.2 = 0
      · exact hc
      · rw [if_neg hc] at h; exact h
    have h1 := (fitC_zero h0).1
    rw [← h1.2.2.1]
    exact hB.2.2
  · exact ⟨by unfold I64; simp, by unfold I64; simp, by show 0 ≤ _; omega⟩
end
end Go.Proofs.Ytaepgfafbnjccaa.Am
/- The law FnExactDualRanks returns true. No condition beyond the reading of the arguments. -/
set_option linter.unusedVariables false
set_option maxRecDepth 20000
set_option maxHeartbeats 4000000
namespace Go.Proofs.Ytaepgfafbnjccaa.Am
open Go Go.RowKit Go.Proofs
section
variable {S : Ids} {H0 : AH}
theorem lawDualRanks {ar0 : T_Ranks} {ar1 : T_Family} {cs0 : List Value} {cs1 : List Value} (hW0 : W_Ranks ar0) (h0 : K_Ranks.R S H0 ar0 cs0) (hW1 : W_Family ar1) (h1 : K_Family.R S H0 ar1 cs1) : Spec Try.prog S H0 10 [.agg cs0.toArray, .agg cs1.toArray] (fun v => v = .bool true) := by
  obtain ⟨p0_0, q0_0, rfl⟩ := form_Ranks h0
  obtain ⟨p1_0, q1_0, rfl⟩ := form_Family h1
  refine Spec.of1 Try.func10 rfl (by kernel_rfl) rfl (fun H _ => ?_)
  have A0 : Fk K_Ranks (Low H.n) (Low H.n) H ar0 _ := ⟨On.R h0, fun _ p => p⟩
  have A1 : Fk K_Family (Low H.n) (Low H.n) H ar1 _ := ⟨On.R h1, fun _ p => p⟩
  refine KW.call rfl rfl rfl rfl rfl (sz_Ranks' (left := 1048576) (by decide) (by decide) hW0 A0.all) (fun v n0 _ hv => ?_)
  obtain ⟨r0, rfl, k0⟩ := hv
  refine KW.cnd rfl rfl (fun h => KW.ret rfl rfl rfl rfl rfl) (fun h => ?_)
  have k0 := k0.resolve_left (by omega)
  have hB0 := k0.2.2
  refine KW.call rfl rfl rfl rfl rfl (sz_Family'  k0.1 (by have := k0.2.1; omega) hW1 A1.all) (fun v n1 _ hv => ?_)
  obtain ⟨r1, rfl, k1⟩ := hv
  refine KW.cnd rfl rfl (fun h => KW.ret rfl rfl rfl rfl rfl) (fun h => ?_)
  have k1 := k1.resolve_left (by omega)
  have hB1 := k1.2.2
  obtain ⟨q0r, eq0r⟩ : ∃ q, r0_DualRanks ar0 ar1 = q := ⟨_, rfl⟩
  obtain ⟨q1r, eq1r⟩ : ∃ q, r1_DualRanks ar0 ar1 = q := ⟨_, rfl⟩
  have cspec : ∀ {S1 : Ids} {H1 : AH} {ca0 : List Value} {ca1 : List Value} (_ : K_Ranks.R S1 H1 ar0 ca0) (_ : K_Family.R S1 H1 ar1 ca1), SpecM Try.prog S1 H1 50 [.agg ca0.toArray, .agg ca1.toArray] (fun n v H2 => ∃ cs, v = .tuple #[.agg cs.toArray, .int .i64 q1r] ∧ M_Ranks.R (New n H2.n) H2 q0r cs) := by
    subst eq0r; subst eq1r
    intros
    exact spec_DualRanks hB0 hB1 (by assumption) (by assumption)
  have cimpl : ∀ {S1 : Ids} {H1 : AH} {ca0 : List Value} {ca1 : List Value} (_ : K_Ranks.R S1 H1 ar0 ca0) (_ : K_Family.R S1 H1 ar1 ca1), SpecM Try.prog S1 H1 51 [.agg ca0.toArray, .agg ca1.toArray] (fun n v H2 => ∃ cs, v = .tuple #[.agg cs.toArray, .int .i64 q1r] ∧ M_Ranks.R (New n H2.n) H2 q0r cs) := by
    subst eq0r; subst eq1r
    intros
    exact impl_DualRanks hB0 hB1 (by assumption) (by assumption)
  have hBr : B_Ranks q0r := by subst eq0r; exact bound_DualRanks hB0 hB1
  refine KW.callN1 rfl rfl rfl rfl rfl (to_Ranks hB0 A0.all) (fun v Hb0 Sb0 mb0 _ _ hv => ?_)
  obtain ⟨wb0, rfl, b0⟩ := hv
  obtain ⟨b0_0, b0c_0, rfl⟩ := formM_Ranks b0
  refine KW.callN1 rfl rfl rfl rfl rfl (to_Family hB1 A1.all) (fun v Hb1 Sb1 mb1 _ _ hv => ?_)
  obtain ⟨wb1, rfl, b1⟩ := hv
  obtain ⟨b1_0, b1c_0, rfl⟩ := formM_Family b1
  refine KW.callN1 rfl rfl rfl rfl rfl (cspec ((le_Ranks).2 _ _ _ _ (On.R b0)) ((le_Family).2 _ _ _ _ (On.R b1))) (fun v Hw Sw mw _ _ hv => ?_)
  obtain ⟨ww, rfl, w⟩ := hv
  obtain ⟨w_0, wc_0, rfl⟩ := formM_Ranks w
  refine KW.callN1 rfl rfl rfl rfl rfl (to_Ranks hB0 A0.all) (fun v Hx0 Sx0 mx0 _ _ hv => ?_)
  obtain ⟨wx0, rfl, x0⟩ := hv
  obtain ⟨x0_0, x0c_0, rfl⟩ := formM_Ranks x0
  refine KW.callN1 rfl rfl rfl rfl rfl (to_Family hB1 A1.all) (fun v Hx1 Sx1 mx1 _ _ hv => ?_)
  obtain ⟨wx1, rfl, x1⟩ := hv
  obtain ⟨x1_0, x1c_0, rfl⟩ := formM_Family x1
  refine KW.callN1 rfl rfl rfl rfl rfl (cimpl ((le_Ranks).2 _ _ _ _ (On.R x0)) ((le_Family).2 _ _ _ _ (On.R x1))) (fun v Hg Sg mg _ _ hv => ?_)
  obtain ⟨wg, rfl, g⟩ := hv
  obtain ⟨g_0, gc_0, rfl⟩ := formM_Ranks g
  refine KW.callE rfl rfl rfl rfl rfl (eq_Ranks hBr ((le_Ranks).2 _ _ _ _ (On.R g)) ((le_Ranks).2 _ _ _ _ (On.R w))) (fun _ _ => ?_)
  refine KW.tF rfl rfl (by first | (simp; done) | decide) ?_
  refine KW.cF rfl rfl (by first | (simp; done) | decide) ?_
  refine KW.callN1 rfl rfl rfl rfl rfl (to_Ranks hB0 A0.all) (fun v Hy0 Sy0 my0 _ _ hv => ?_)
  obtain ⟨wy0, rfl, y0⟩ := hv
  obtain ⟨y0_0, y0c_0, rfl⟩ := formM_Ranks y0
  refine KW.callE rfl rfl rfl rfl rfl (eq_Ranks hB0 ((le_Ranks).2 _ _ _ _ (On.R x0)) ((le_Ranks).2 _ _ _ _ (On.R y0))) (fun _ _ => ?_)
  refine KW.cF rfl rfl (by first | (simp; done) | decide) ?_
  refine KW.callN1 rfl rfl rfl rfl rfl (to_Family hB1 A1.all) (fun v Hy1 Sy1 my1 _ _ hv => ?_)
  obtain ⟨wy1, rfl, y1⟩ := hv
  obtain ⟨y1_0, y1c_0, rfl⟩ := formM_Family y1
  refine KW.callE rfl rfl rfl rfl rfl (eq_Family hB1 ((le_Family).2 _ _ _ _ (On.R x1)) ((le_Family).2 _ _ _ _ (On.R y1))) (fun _ _ => ?_)
  refine KW.cF rfl rfl (by first | (simp; done) | decide) ?_
  have A0 : Fk _ _ Sy1 Hy1 _ _ := A0.up
  have A1 : Fk _ _ Sy1 Hy1 _ _ := A1.up
  have X0 : Fk _ _ Sy1 Hy1 _ _ := Fk.on x0
  have X1 : Fk _ _ Sy1 Hy1 _ _ := Fk.on x1
  have W : Fk _ _ Sy1 Hy1 _ _ := Fk.on w
  have G : Fk _ _ Sy1 Hy1 _ _ := Fk.on g
  have T : St (Low H.n) H Sy1 Hy1 := (inferInstance : On (Low H.n) H Sy1 Hy1).st
  refine KW.callW X0.i rfl rfl rfl rfl rfl (mark_Ranks hB0 (k := 1) (by have := size_Ranks hB0;  constructor <;> omega) X0.i X0.r) (fun v Hk0 Sk0 mk0 tk0 _ hv => ?_)
  obtain ⟨rfl, _⟩ := hv
  have A0 := A0.w tk0 (fun id p q => by have : id < H.n := p; have := q.1; have := q.2; omega)
  have A1 := A1.w tk0 (fun id p q => by have : id < H.n := p; have := q.1; have := q.2; omega)
  have X1 := X1.w tk0 (fun id p q => by have := p.1; have := p.2; have := q.1; have := q.2; omega)
  have W := W.w tk0 (fun id p q => by have := p.1; have := p.2; have := q.1; have := q.2; omega)
  have G := G.w tk0 (fun id p q => by have := p.1; have := p.2; have := q.1; have := q.2; omega)
  have T := tk0.low T (fun id p q => by have := q.1; omega)
  refine KW.callW X1.i rfl rfl rfl rfl rfl (mark_Family hB1 (k := 1 + (sz_Ranks ar0 : Nat)) (by have := size_Family hB1; have := size_Ranks hB0; constructor <;> omega) X1.i X1.r) (fun v Hk1 Sk1 mk1 tk1 _ hv => ?_)
  obtain ⟨rfl, _⟩ := hv
  have A0 := A0.w tk1 (fun id p q => by have : id < H.n := p; have := q.1; have := q.2; omega)
  have A1 := A1.w tk1 (fun id p q => by have : id < H.n := p; have := q.1; have := q.2; omega)
  have W := W.w tk1 (fun id p q => by have := p.1; have := p.2; have := q.1; have := q.2; omega)
  have G := G.w tk1 (fun id p q => by have := p.1; have := p.2; have := q.1; have := q.2; omega)
  have T := tk1.low T (fun id p q => by have := q.1; omega)
  refine KW.tno rfl rfl (by omega) ?_
  refine KW.callE rfl rfl rfl rfl rfl (eq_Ranks hBr ((le_Ranks).2 _ _ _ _ G.all) ((le_Ranks).2 _ _ _ _ W.all)) (fun _ _ => ?_)
  refine KW.tF rfl rfl (by first | (simp; done) | decide) ?_
  refine KW.cF rfl rfl (by first | (simp; done) | decide) ?_
  refine KW.callW G.i rfl rfl rfl rfl rfl (mark_Ranks hBr (k := 1) (by have := size_Ranks hBr; constructor <;> omega) G.i G.r) (fun v HM SM mM tM _ hv => ?_)
  obtain ⟨rfl, G1⟩ := hv
  have A0 := A0.w tM (fun id p q => by have : id < H.n := p; have := q.1; have := q.2; omega)
  have A1 := A1.w tM (fun id p q => by have : id < H.n := p; have := q.1; have := q.2; omega)
  have W := W.w tM (fun id p q => by have := p.1; have := p.2; have := q.1; have := q.2; omega)
  have T := tM.low T (fun id p q => by have := q.1; omega)
  have G1 : Fk _ _ SM HM _ _ := ⟨G1, fun id p => (tM id (G.i id p)).1⟩
  refine KW.callE rfl rfl rfl rfl rfl (held_Ranks hBr (k := 1) (by have := size_Ranks hBr; constructor <;> omega) ((le_Ranks).2 _ _ _ _ G1.all)) (fun _ _ => ?_)
  refine KW.no rfl rfl (by omega) ?_
  refine KW.cF rfl rfl (by first | (simp; done) | decide) ?_
  refine KW.callN1 rfl rfl rfl rfl rfl (to_Ranks hB0 A0.all) (fun v Hu0 Su0 mu0 _ _ hv => ?_)
  obtain ⟨wu0, rfl, u0⟩ := hv
  obtain ⟨u0_0, u0c_0, rfl⟩ := formM_Ranks u0
  refine KW.callN1 rfl rfl rfl rfl rfl (to_Family hB1 A1.all) (fun v Hu1 Su1 mu1 _ _ hv => ?_)
  obtain ⟨wu1, rfl, u1⟩ := hv
  obtain ⟨u1_0, u1c_0, rfl⟩ := formM_Family u1
  refine KW.callN1 rfl rfl rfl rfl rfl (cimpl ((le_Ranks).2 _ _ _ _ (On.R u0)) ((le_Family).2 _ _ _ _ (On.R u1))) (fun v Hh Sh mh _ _ hv => ?_)
  obtain ⟨wh, rfl, h⟩ := hv
  obtain ⟨h_0, hc_0, rfl⟩ := formM_Ranks h
  refine KW.callE rfl rfl rfl rfl rfl (eq_Ranks hBr ((le_Ranks).2 _ _ _ _ (On.R h)) ((le_Ranks).2 _ _ _ _ W.all)) (fun _ _ => ?_)
  refine KW.tF rfl rfl (by first | (simp; done) | decide) ?_
  refine KW.cF rfl rfl (by first | (simp; done) | decide) ?_
  refine KW.callE rfl rfl rfl rfl rfl (held_Ranks hBr (k := 1) (by have := size_Ranks hBr; constructor <;> omega) ((le_Ranks).2 _ _ _ _ G1.all)) (fun _ _ => ?_)
  refine KW.no rfl rfl (by omega) ?_
  refine KW.cF rfl rfl (by first | (simp; done) | decide) ?_
  exact KW.retM rfl rfl rfl rfl (fun id hid => (T.trans (inferInstance : On SM HM _ _).st) id hid) (fun H1 g => rfl)
end
end Go.Proofs.Ytaepgfafbnjccaa.Am
