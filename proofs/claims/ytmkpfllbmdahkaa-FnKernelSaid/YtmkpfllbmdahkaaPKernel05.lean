/- Contracts and laws on abstract memory, merged. Each holds under its own conditions. -/
import Derived.Test.YtmkpfllbmdahkaaPKernel04
/- The rank of a kernel, in plain Lean: by the number of solutions. Each holds under its own conditions. -/
set_option linter.unusedVariables false
set_option linter.unusedSimpArgs false
set_option maxRecDepth 20000
namespace Go.Proofs.Ytmkpfllbmdahkaa.Am
open Go Go.RowKit Go.Proofs Go.Proofs.Ytmkpfllbmdahkaa.Pl
def sumN (f : Nat → Nat) : Nat → Nat
  | 0 => 0
  | n + 1 => sumN f n + f n
theorem sumN_add {f g : Nat → Nat} : ∀ n, sumN (fun a => f a + g a) n = sumN f n + sumN g n
  | 0 => rfl
  | n + 1 => by simp only [sumN, sumN_add n]; omega
theorem sumN_congr {f g : Nat → Nat} : ∀ n, (∀ a, a < n → f a = g a) → sumN f n = sumN g n
  | 0, _ => rfl
  | n + 1, h => by simp only [sumN]; rw [sumN_congr n (fun a ha => h a (by omega)), h n (by omega)]
theorem sumN_const {q : Nat} : ∀ n, sumN (fun _ => q) n = n * q
  | 0 => by simp [sumN]
  | n + 1 => by simp only [sumN, sumN_const n, Nat.succ_mul]
theorem sumN_count {q : Nat} {R : Nat → Bool} : ∀ n, sumN (fun a => if R a = true then q else 0) n = q * (List.range n).countP R
  | 0 => by simp [sumN]
  | n + 1 => by
    simp only [sumN, sumN_count n, List.range_succ, List.countP_append, List.countP_singleton, Nat.mul_add]
    split <;> simp
theorem count_map {p : Nat} {Q : List Int → Bool} (t : List Int) : ((List.range p).map fun a : Nat => (a : Int) :: t).countP Q = sumN (fun a => if Q ((a : Int) :: t) = true then 1 else 0) p := by
  rw [sumN_count, Nat.one_mul, List.countP_map]
  rfl
theorem count_front {p : Nat} {Q : List Int → Bool} : ∀ l : List (List Int), (l.flatMap fun t => (List.range p).map fun a : Nat => (a : Int) :: t).countP Q = sumN (fun a => l.countP fun t => Q ((a : Int) :: t)) p
  | [] => by
    simp only [List.flatMap_nil, List.countP_nil]
    rw [sumN_const]; simp
  | t :: l => by
    rw [List.flatMap_cons, List.countP_append, count_front l, count_map, ← sumN_add]
    refine sumN_congr p (fun a _ => ?_)
    rw [List.countP_cons]
    omega
theorem dF_app {w : List Int} : ∀ (s t : List Int) (c : Nat), dF w c (s ++ t) = dF w c s + dF w (c + s.length) t
  | [], t, c => by show dF w c t = 0 + dF w (c + 0) t; rw [Nat.add_zero]; omega
  | a :: s, t, c => by
    show w.getD c 0 * a + dF w (c + 1) (s ++ t) = w.getD c 0 * a + dF w (c + 1) s + dF w (c + (s.length + 1)) t
    rw [dF_app s t (c + 1), show c + 1 + s.length = c + (s.length + 1) by omega]
    omega
theorem kr_self {E : List (List Int)} {P : List Nat} {p : Int} {k c : Nat} (hc : c < k) (hcP : c ∉ P) : ∀ n, n ≤ P.length → (kr E P p k c n).getD c 0 = 1
  | 0, _ => by
    unfold kr
    rw [List.getD_eq_getElem?_getD, List.getElem?_set_self (by simp; exact hc)]
    rfl
  | n + 1, hn => by
    have hmem : P.getD n 0 ∈ P := by rw [List.getD_eq_getElem?_getD, List.getElem?_eq_getElem (by omega)]; exact List.getElem_mem _
    unfold kr
    rw [List.getD_eq_getElem?_getD, List.getElem?_set_ne (fun e => hcP (by rw [← e]; exact hmem)), ← List.getD_eq_getElem?_getD]
    exact kr_self hc hcP n (by omega)
/-- Behind its own column a row of the kernel is 0. -/
theorem kr_tail {E : List (List Int)} {P : List Nat} {p : Int} {k c : Nat} (hz : ∀ i, i < P.length → c < P.getD i 0 → (E.getD i []).getD c 0 = 0) {j : Nat} (hj : c < j) : ∀ n, n ≤ P.length → (kr E P p k c n).getD j 0 = 0
  | 0, _ => kr_other (by omega) 0 (fun i hi => by omega)
  | n + 1, hn => by
    have ih := kr_tail (p := p) (k := k) hz hj n (by omega)
    unfold kr
    rw [List.getD_eq_getElem?_getD, List.getElem?_set]
    split
    · rename_i e
      split
      · rw [hz n (by omega) (by omega), Int.sub_zero, Int.emod_self]; rfl
      · rfl
    · rw [← List.getD_eq_getElem?_getD]; exact ih
theorem fr_diff (P : List Nat) (c : Nat) : ∀ d, fr P (c + d) ≤ fr P c + d
  | 0 => Nat.le_refl _
  | d + 1 => by
    have := fr_diff P c d
    show fr P (c + d) + (if c + d ∈ P then 0 else 1) ≤ _
    split <;> omega
/-- A list fits the rows of the kernel for the columns from c on. -/
def KFit (E : List (List Int)) (P : List Nat) (p : Int) (k c : Nat) (x : List Int) : Prop := ∀ f, c ≤ f → f < k → f ∉ P → dF (kr E P p k f P.length) 0 x % p = 0
theorem ker_count {p : Int} (hp : 0 < p) {k : Nat} {E : List (List Int)} {P : List Nat} (hz : ∀ c i, i < P.length → c < P.getD i 0 → (E.getD i []).getD c 0 = 0) : ∀ (m : Nat) (s : List Int), s.length + m = k → (vec p.toNat m).countP (fun t => tv (KFit E P p k s.length (s ++ t))) = p.toNat ^ (m - (fr P k - fr P s.length))
  | 0, s, h => by
    have hs : s.length = k := by omega
    have e : tv (KFit E P p k s.length (s ++ [])) = true := tv_true (fun f h1 h2 => by omega)
    rw [List.append_nil, hs] at e
    simp [vec, e, hs]
  | m + 1, s, h => by
    have hc : s.length < k := by omega
    have ih := fun (a : Nat) => ker_count (k := k) hp hz m (s ++ [(a : Int)]) (by rw [List.length_append, List.length_singleton]; omega)
    have hN : ∀ a : Nat, (s ++ [(a : Int)]).length = s.length + 1 := fun a => by simp
    have d1 := fr_diff P (s.length + 1) m
    rw [show s.length + 1 + m = k by omega] at d1
    have d2 := fr_le P (show s.length + 1 ≤ k by omega)
    have efr : fr P (s.length + 1) = fr P s.length + if s.length ∈ P then 0 else 1 := rfl
    have row : ∀ (a : Nat) (t : List Int), s.length ∉ P → dF (kr E P p k s.length P.length) 0 (s ++ (a : Int) :: t) = (a : Int) + dF (kr E P p k s.length P.length) 0 s := fun a t hcP => by
      rw [dF_app]
      show _ + ((kr E P p k s.length P.length).getD (0 + s.length) 0 * (a : Int) + dF _ (0 + s.length + 1) t) = _
      rw [Nat.zero_add, kr_self hc hcP _ (Nat.le_refl _), dF_zero t _ (fun j h1 h2 => kr_tail (fun i hi hlt => hz _ i hi hlt) (by omega) _ (Nat.le_refl _))]
      omega
    have split_ : ∀ (a : Nat) (t : List Int), KFit E P p k s.length (s ++ (a : Int) :: t) ↔ (s.length ∉ P → ((a : Int) + dF (kr E P p k s.length P.length) 0 s) % p = 0) ∧ KFit E P p k (s.length + 1) ((s ++ [(a : Int)]) ++ t) := fun a t => by
      rw [List.append_assoc, List.singleton_append]
      constructor
      · exact fun q => ⟨fun hcP => by rw [← row a t hcP]; exact q s.length (Nat.le_refl _) hc hcP, fun f h1 h2 => q f (by omega) h2⟩
      · rintro ⟨q1, q2⟩ f h1 h2 h3
        by_cases e : f = s.length
        · subst e; rw [row a t h3]; exact q1 h3
        · exact q2 f (by omega) h2 h3
    rw [vec, count_front]
    by_cases hcP : s.length ∈ P
    · rw [if_pos hcP] at efr
      rw [sumN_congr p.toNat (g := fun _ => p.toNat ^ (m - (fr P k - fr P s.length))) (fun a _ => by
        have h1 := ih a
        rw [hN, show m - (fr P k - fr P (s.length + 1)) = m - (fr P k - fr P s.length) by omega] at h1
        rw [← h1]
        exact List.countP_congr fun t _ => by
          rw [tv_iff, tv_iff, split_]
          exact ⟨fun q => q.2, fun q => ⟨fun hn => (hn hcP).elim, q⟩⟩), sumN_const, show m + 1 - (fr P k - fr P s.length) = m - (fr P k - fr P s.length) + 1 by omega, Nat.pow_succ, Nat.mul_comm]
    · rw [if_neg hcP] at efr
      rw [sumN_congr p.toNat (g := fun a : Nat => if decide (((a : Int) + dF (kr E P p k s.length P.length) 0 s) % p = 0) = true then p.toNat ^ (m - (fr P k - fr P (s.length + 1))) else 0) (fun a _ => by
        have h1 := ih a
        rw [hN] at h1
        by_cases hr : ((a : Int) + dF (kr E P p k s.length P.length) 0 s) % p = 0
        · rw [if_pos (decide_eq_true hr), ← h1]
          exact List.countP_congr fun t _ => by
            rw [tv_iff, tv_iff, split_]
            exact ⟨fun q => q.2, fun q => ⟨fun _ => hr, q⟩⟩
        · rw [if_neg (by simpa using hr)]
          exact List.countP_eq_zero.2 fun t _ hq => hr (((split_ a t).1 (tv_iff.1 hq)).1 hcP)), sumN_count, count_root hp, Nat.mul_one, efr]
      congr 1
      omega
/-- What the rows of the kernel are, out of an echelon. -/
structure KOk (p : Int) (k : Nat) (E : List (List Int)) (P : List Nat) : Prop where
  z : ∀ c i, i < P.length → c < P.getD i 0 → (E.getD i []).getD c 0 = 0
  lt : ∀ q ∈ P, q < k
  el : ∀ i, i < P.length → ∀ c, 0 ≤ (E.getD i []).getD c 0 ∧ (E.getD i []).getD c 0 < p
theorem kr_in {p : Int} (hp : 2 ≤ p) {k c : Nat} {E : List (List Int)} {P : List Nat} : ∀ n, ∀ x ∈ kr E P p k c n, 0 ≤ x ∧ x < p
  | 0, x, h => by
    unfold kr at h
    rcases List.mem_or_eq_of_mem_set h with h | h
    · rw [(List.mem_replicate.1 h).2]; omega
    · omega
  | n + 1, x, h => by
    unfold kr at h
    rcases List.mem_or_eq_of_mem_set h with h | h
    · exact kr_in hp n x h
    · rw [h]; exact ⟨Int.emod_nonneg _ (by omega), Int.emod_lt_of_pos _ (by omega)⟩
theorem kerL_mem {E : List (List Int)} {P : List Nat} {p : Int} {k : Nat} {r : List Int} : ∀ n, r ∈ kerL E P p k n ↔ ∃ c, c < n ∧ c ∉ P ∧ r = kr E P p k c P.length
  | 0 => by simp [kerL]
  | n + 1 => by
    have ih := kerL_mem (E := E) (P := P) (p := p) (k := k) (r := r) n
    unfold kerL
    split
    · rename_i h
      rw [ih]
      exact ⟨fun ⟨c, h1, h2⟩ => ⟨c, by omega, h2⟩, fun ⟨c, h1, h2, h3⟩ => ⟨c, by
        rcases Nat.lt_or_ge c n with hh | hh
        · exact hh
        · exact (h2 (by rw [show c = n by omega]; exact h)).elim, h2, h3⟩⟩
    · rename_i h
      rw [List.mem_append, ih, List.mem_singleton]
      constructor
      · rintro (⟨c, h1, h2⟩ | h3)
        · exact ⟨c, by omega, h2⟩
        · exact ⟨n, by omega, h, h3⟩
      · rintro ⟨c, h1, h2, h3⟩
        rcases Nat.lt_or_ge c n with hh | hh
        · exact .inl ⟨c, hh, h2, h3⟩
        · rw [show c = n by omega] at h3
          exact .inr h3
theorem kerL_rect {p : Int} (hp : 2 ≤ p) {k n : Nat} {E : List (List Int)} {P : List Nat} : Rect p k (kerL E P p k n) := fun r hr => by
  obtain ⟨c, _, _, rfl⟩ := (kerL_mem n).1 hr
  exact ⟨kr_len _, kr_in hp _⟩
theorem dF_pad {r : List Int} : ∀ (t : List Int) (c : Nat), c + t.length ≤ r.length → dF (r ++ [0]) c t = dF r c t
  | [], c, _ => rfl
  | a :: t, c, h => by
    simp only [List.length_cons] at h
    show (r ++ [0]).getD c 0 * a + dF (r ++ [0]) (c + 1) t = r.getD c 0 * a + dF r (c + 1) t
    rw [dF_pad t (c + 1) (by omega), List.getD_eq_getElem?_getD, List.getElem?_append_left (by omega), ← List.getD_eq_getElem?_getD]
theorem pad_take {k : Nat} {K : List (List Int)} (h : ∀ r ∈ K, r.length = k) : (K.map fun r => r ++ [0]).map (List.take k) = K := by
  rw [List.map_map]
  refine Eq.trans (List.map_congr_left (g := id) fun r hr => ?_) (List.map_id _)
  show (r ++ [0]).take k = r
  rw [← h r hr]
  simp
theorem pad_rect {p : Int} (hp : 0 < p) {k : Nat} {K : List (List Int)} (h : Rect p k K) : Rect p (k + 1) (K.map fun r => r ++ [0]) := fun w hw => by
  obtain ⟨r, hr, rfl⟩ := List.mem_map.1 hw
  have h1 := h r hr
  refine ⟨by simp [h1.1], fun x hx => ?_⟩
  rcases List.mem_append.1 hx with hx | hx
  · exact h1.2 x hx
  · rw [List.mem_singleton.1 hx]; omega
/-- The rank of a kernel is the number of its rows. -/
theorem ker_rank {p : Int} (hf : Fer p) {k : Nat} {E : List (List Int)} {P : List Nat} (h : KOk p k E P) (hfr : fr P k + P.length = k) : (ech p (kerL E P p k k) k).2.length = (kerL E P p k k).length := by
  have hp2 := hf.1
  have hp : 0 < p := by omega
  have hK := kerL_rect (k := k) (n := k) (E := E) (P := P) hp2
  have hW := pad_rect hp hK
  have c1 := @count_sol p k ((kerL E P p k k).map fun r => r ++ [0]) hf hW (fun _ => Classical.propDecidable _) (Classical.propDecidable _)
  have c2 := ker_count (k := k) hp h.z k [] (by simp)
  have et := ech_take hf hW k (Nat.le_refl _)
  rw [pad_take (fun r hr => (hK r hr).1)] at et
  have e2 : (ech p (kerL E P p k k) k).2 = (ech p ((kerL E P p k k).map fun r => r ++ [0]) k).2 := by rw [et]
  have zero : ∀ r ∈ (kerL E P p k k).map (fun r => r ++ [0]), r.getD k 0 = 0 := fun r hr => by
    obtain ⟨w, hw, rfl⟩ := List.mem_map.1 hr
    rw [← (hK w hw).1]
    simp [List.getD_eq_getElem?_getD]
  have eq : ∀ x ∈ vec p.toNat k, (AllS p k ((kerL E P p k k).map fun r => r ++ [0]) x ↔ KFit E P p k 0 x) := fun x hx => by
    have hxl := vec_len k hx
    constructor
    · intro q f _ h2 h3
      obtain ⟨j, hj⟩ := List.getElem?_of_mem (List.mem_map_of_mem (f := fun r => r ++ [(0 : Int)]) ((kerL_mem k).2 ⟨f, h2, h3, rfl⟩))
      have hs := sat_iff.1 (q j _ hj)
      rw [zero _ (List.mem_of_getElem? hj), Int.sub_zero, dF_pad x 0 (by rw [kr_len]; omega)] at hs
      exact hs
    · intro q j r hj
      have hm := List.mem_of_getElem? hj
      refine sat_iff.2 ?_
      rw [zero r hm, Int.sub_zero]
      obtain ⟨w, hw, rfl⟩ := List.mem_map.1 hm
      obtain ⟨f, h2, h3, rfl⟩ := (kerL_mem k).1 hw
      rw [dF_pad x 0 (by rw [kr_len]; omega)]
      exact q f (Nat.zero_le _) h2 h3
  have c3 : (vec p.toNat k).countP (fun x => @decide (AllS p k ((kerL E P p k k).map fun r => r ++ [0]) x) (Classical.propDecidable _)) = (vec p.toNat k).countP (fun t => tv (KFit E P p k 0 t)) := List.countP_congr fun x hx => by
    rw [tv_iff, @decide_eq_true_iff _ (Classical.propDecidable _)]
    exact eq x hx
  have c4 : (vec p.toNat k).countP (fun t => tv (KFit E P p k 0 t)) = p.toNat ^ (k - (fr P k - fr P 0)) := c2
  rw [c3, c4] at c1
  have hpos : p.toNat ^ (k - (fr P k - fr P 0)) ≠ 0 := by have := Nat.pow_pos (n := k - (fr P k - fr P 0)) (show 0 < p.toNat by omega); omega
  split at c1
  · have c5 := (Nat.pow_right_inj (show 1 < p.toNat by omega)).1 c1
    have hle := (ech_ok hp hK k).2.2.2
    rw [e2, kerL_fr]
    rw [e2] at hle
    have f0 : fr P 0 = 0 := rfl
    omega
  · exact (hpos c1).elim
theorem getD_take0 {L : List (List Int)} {n i : Nat} (h : i < n) : (L.take n).getD i [] = L.getD i [] := by
  rw [List.getD_eq_getElem?_getD, List.getD_eq_getElem?_getD, List.getElem?_take, if_pos h]
theorem ech_kok {p : Int} (hf : Fer p) {k : Nat} {L : List (List Int)} (hL : Rect p k L) : KOk p k ((ech p L k).1.take (ech p L k).2.length) (ech p L k).2 := by
  have hp : 0 < p := by have := hf.1; omega
  have sh := ech_shape hf hL k
  have at_ : ∀ i, i < (ech p L k).2.length → ∃ r, (ech p L k).1[i]? = some r ∧ ((ech p L k).1.take (ech p L k).2.length).getD i [] = r := fun i hi => by
    have hl : i < (ech p L k).1.length := by have := sh.le; omega
    exact ⟨_, List.getElem?_eq_getElem hl, by rw [getD_take0 hi, List.getD_eq_getElem?_getD, List.getElem?_eq_getElem hl]; rfl⟩
  refine ⟨fun c i hi hlt => ?_, fun q hq => ech_lt k q hq, fun i hi c => ?_⟩
  · obtain ⟨r, h1, h2⟩ := at_ i hi
    rw [h2]
    rw [List.getD_eq_getElem?_getD, List.getElem?_eq_getElem hi] at hlt
    exact (sh.piv i _ r (List.getElem?_eq_getElem hi) h1).2.2 c hlt
  · obtain ⟨r, h1, h2⟩ := at_ i hi
    rw [h2]
    exact sh.rect.el hp h1 c
/-- Each row gives 0 with each row of the kernel. -/
theorem ker_zero {p : Int} (hf : Fer p) {k : Nat} {L : List (List Int)} (hL : Rect p k L) {r x : List Int} (hr : r ∈ L) (hx : x ∈ kerL ((ech p L k).1.take (ech p L k).2.length) (ech p L k).2 p k k) : dF r 0 x % p = 0 := by
  have hp2 := hf.1
  have hp : 0 < p := by omega
  obtain ⟨c, hc, hcP, rfl⟩ := (kerL_mem k).1 hx
  have hW := pad_rect hp hL
  have et := ech_take hf hW k (Nat.le_refl _)
  rw [pad_take (fun r hr => (hL r hr).1)] at et
  have sh := ech_shape hf hL k
  have shW := ech_shape hf hW k
  have hx := kr_len (E := (ech p L k).1.take (ech p L k).2.length) (P := (ech p L k).2) (p := p) (k := k) (c := c) (ech p L k).2.length
  have all : AllS p k (L.map fun r => r ++ [0]) (kr ((ech p L k).1.take (ech p L k).2.length) (ech p L k).2 p k c (ech p L k).2.length) := by
    refine (ech_sat hf hW k).1 (fun j w hj => ?_)
    -- the last column is 0
    have zAll : AllS p k (L.map fun r => r ++ [0]) (List.replicate k 0) := fun j w hj => by
      obtain ⟨r, hr, rfl⟩ := List.mem_map.1 (List.mem_of_getElem? hj)
      refine sat_iff.2 ?_
      rw [dF_rep, ← (hL r hr).1]
      simp [List.getD_eq_getElem?_getD]
    have hz := sat_iff.1 ((ech_sat hf hW k).2 zAll j w hj)
    rw [dF_rep] at hz
    have hwb := shW.rect.el hp hj k
    have hwk : w.getD k 0 = 0 := by
      have h1 : (w.getD k 0) % p = 0 := by
        have h2 : (-(w.getD k 0)) % p = 0 := by rw [Int.zero_sub] at hz; exact hz
        have h3 := Int.dvd_of_emod_eq_zero h2
        exact Int.emod_eq_zero_of_dvd (Int.dvd_neg.1 h3)
      rw [small_mod hwb] at h1
      exact h1
    refine sat_iff.2 ?_
    rw [hwk, Int.sub_zero]
    have hw0 : (ech p L k).1[j]? = some (w.take k) := by rw [et, List.getElem?_map, hj]; rfl
    have hwl : w.length = k + 1 := (shW.rect.at hj).1
    have hwt : ∀ q, q < k → w.getD q 0 = (w.take k).getD q 0 := fun q hq => (take_get hq).symm
    have hPe : (ech p L k).2 = (ech p (L.map fun r => r ++ [0]) k).2 := by rw [et]
    have hlt := fun q hq => ech_lt (p := p) (L := L) k q hq
    have nd : ∀ i i', i < (ech p L k).2.length → i' < (ech p L k).2.length → (ech p L k).2.getD i 0 = (ech p L k).2.getD i' 0 → i = i' := fun i i' h1 h2 e => by
      refine Classical.byContradiction fun hne => ?_
      rw [List.getD_eq_getElem?_getD, List.getD_eq_getElem?_getD, List.getElem?_eq_getElem h1, List.getElem?_eq_getElem h2] at e
      have hl1 : i < (ech p L k).1.length := by have := sh.le; omega
      have p1 := (sh.piv i _ _ (List.getElem?_eq_getElem h1) (List.getElem?_eq_getElem hl1)).2.1
      have p2 := sh.red i' _ i _ (List.getElem?_eq_getElem h2) hne (List.getElem?_eq_getElem hl1)
      have e : (ech p L k).2[i] = (ech p L k).2[i'] := e
      rw [e] at p1
      rw [p1] at p2
      cases p2
    have hpv : ∀ i, i < (ech p L k).2.length → w.getD ((ech p L k).2.getD i 0) 0 = if i = j then 1 else 0 := fun i hi => by
      have hg : (ech p L k).2.getD i 0 = (ech p L k).2[i] := by rw [List.getD_eq_getElem?_getD, List.getElem?_eq_getElem hi]; rfl
      rw [hg, hwt _ (hlt _ (List.getElem_mem hi))]
      by_cases e : i = j
      · subst e
        rw [if_pos rfl]
        exact (sh.piv i _ _ (List.getElem?_eq_getElem hi) hw0).2.1
      · rw [if_neg e]
        exact sh.red i _ j _ (List.getElem?_eq_getElem hi) (Ne.symm e) hw0
    rw [dF_kr hc hlt hcP nd _ (Nat.le_refl _) j hpv, hwt c hc]
    by_cases hj2 : j < (ech p L k).2.length
    · rw [if_pos hj2, getD_take0 hj2, getDL_of hw0]
      have hb := sh.rect.el hp hw0 c
      rw [Int.add_emod, Int.emod_emod, ← Int.add_emod, show (w.take k).getD c 0 + (p - (w.take k).getD c 0) = p by omega, Int.emod_self]
    · rw [if_neg hj2, sh.zero j _ (by omega) hw0 c hc]
      simp
  obtain ⟨j, hj⟩ := List.getElem?_of_mem (List.mem_map_of_mem (f := fun r => r ++ [(0 : Int)]) hr)
  have hs := sat_iff.1 (all j _ hj)
  have h0 : (r ++ [(0 : Int)]).getD k 0 = 0 := by rw [← (hL r hr).1]; simp [List.getD_eq_getElem?_getD]
  rw [h0, Int.sub_zero, dF_pad _ 0 (by rw [hx, (hL r hr).1]; omega)] at hs
  exact hs
end Go.Proofs.Ytmkpfllbmdahkaa.Am
/- Contracts: the ranks of a scheme, of the program and of the reference. Each holds under its own conditions. -/
set_option linter.unusedVariables false
set_option linter.unusedSimpArgs false
set_option maxRecDepth 20000
namespace Go.Proofs.Ytmkpfllbmdahkaa.Am
open Go Go.RowKit Go.Proofs Go.Proofs.Ytmkpfllbmdahkaa.Pl
/-- The ranks of the rows of the groups with the numbers below n. -/
def srL (p : Int) (k : Nat) (ow : List Int) (rows : List (List Int)) (n : Nat) : List Int := (List.range n).map fun x => rkM p k (heldR ow rows x)
theorem srL_len {p : Int} {k n : Nat} {ow : List Int} {rows : List (List Int)} : (srL p k ow rows n).length = n := by simp [srL]
theorem srL_next {p : Int} {k n : Nat} {ow : List Int} {rows : List (List Int)} : srL p k ow rows (n + 1) = srL p k ow rows n ++ [rkM p k (heldR ow rows n)] := range_map_succ' _ n
def SchOk (x : T_Scheme) : Prop := OkSch x.1 x.2.1 x.2.2.1 x.2.2.2.1 x.2.2.2.2
noncomputable def r1_SchemeRanks (x : T_Scheme) : Int := if tv (SchOk x) = true then (if x.1 ≤ 5 then 0 else 3) else 1
noncomputable def r0_SchemeRanks (x : T_Scheme) : T_Ranks := if r1_SchemeRanks x = 0 then (x.1, 1, srL x.2.2.1 x.2.2.2.1.toNat x.2.1 x.2.2.2.2 (2 ^ x.1.toNat)) else (0, 0, [])
section
variable {S : Ids} {H0 : AH}
theorem split2_Scheme {x : T_Scheme} {cs : List Value} (h : K_Scheme.R S H0 x cs) : ∃ a1 c1 a2 c2, cs = [.int .i64 x.1, .slice a1 x.2.1.length c1, .int .i64 x.2.2.1, .int .i64 x.2.2.2.1, .slice a2 x.2.2.2.2.length c2] ∧ KI.Sl S H0 (.slice a1 x.2.1.length c1) x.2.1 ∧ KI.sl.Sl S H0 (.slice a2 x.2.2.2.2.length c2) x.2.2.2.2 := by
  obtain ⟨a1, c1, a2, c2, rfl, h1, h2⟩ := split_Scheme h
  obtain ⟨a3, c3, e, h3⟩ := split_Matrix h2
  simp only [List.cons.injEq, Value.slice.injEq, true_and, and_true] at e
  obtain ⟨rfl, rfl⟩ := e
  exact ⟨_, _, _, _, rfl, sl1 h1, sl1 h3⟩
theorem specValidScheme (h p c : Int) (hp : I64 p) {a1 c1 a2 c2} {ow : List Int} {rows : List (List Int)} (hO : B_Int64S ow) (hB : B_Int64SS rows) (ho : KI.Sl S H0 (.slice a1 ow.length c1) ow) (hs : KI.sl.Sl S H0 (.slice a2 rows.length c2) rows) :
    Spec Try.prog S H0 107 [.agg #[.int .i64 h, .slice a1 ow.length c1, .int .i64 p, .int .i64 c, .slice a2 rows.length c2]] (fun v => v = .bool (tv (OkSch h ow p c rows))) := by
  refine Spec.of1 Try.func107 rfl (by kernel_rfl) rfl (fun H _ => ?_)
  refine KW.callV1 rfl rfl rfl rfl rfl (fun H1 g _ => l04Ok h p c hp hO hB (g.has3 (j := 0) rfl) ho.up hs.up) (fun _ _ => ?_)
  exact KW.ret rfl rfl rfl rfl (rfl)
theorem hold_has {y : Int} {x q : Nat} (h0 : 0 ≤ y) (h1 : y < q) : decide (y ∈ hold x q) = x.testBit y.toNat := by
  obtain ⟨j, rfl⟩ : ∃ j : Nat, y = j := ⟨y.toNat, by omega⟩
  rw [Int.toNat_natCast]
  by_cases hb : x.testBit j = true
  · rw [hb, decide_eq_true]
    exact List.mem_map.2 ⟨j, List.mem_filter.2 ⟨List.mem_range.2 (by omega), hb⟩, rfl⟩
  · rw [decide_eq_false (fun hm => by obtain ⟨i, h2, _, h3⟩ := hold_mem hm; exact hb (by rw [show j = i by omega]; exact h3))]
    simpa using hb
theorem impl_SchemeRanks {x : T_Scheme} {cs : List Value} (hB : B_Scheme x) (h : K_Scheme.R S H0 x cs) : SpecM Try.prog S H0 23 [.agg cs.toArray] (MkRC (r0_SchemeRanks x) (r1_SchemeRanks x)) := by
  obtain ⟨a1, c1, a2, c2, rfl, s1, s2⟩ := split2_Scheme h
  obtain ⟨h', ow, p, c, rows⟩ := x
  simp only at s1 s2 ⊢
  have hO : B_Int64S ow := hB.2.1
  have hBr : B_Int64SS rows := hB.2.2.2.2
  have hp : I64 p := hB.2.2.1
  refine SpecM.of1 Try.func23 rfl (by kernel_rfl) rfl (fun H _ => ?_)
  refine KW.callE rfl rfl rfl rfl rfl (validScheme h' p c hp hO hBr s1.up s2.up) (fun n9 m9 => ?_)
  by_cases hk : OkSch h' ow p c rows
  · rw [tv_true hk]
    refine KW.cF rfl rfl (by first | (simp; done) | decide) ?_
    by_cases h5 : h' ≤ 5
    · have e1 : r1_SchemeRanks (h', ow, p, c, rows) = 0 := by unfold r1_SchemeRanks; rw [if_pos (show tv (SchOk (h', ow, p, c, rows)) = true from tv_true hk), if_pos h5]
      have e0 : r0_SchemeRanks (h', ow, p, c, rows) = (h', 1, srL p c.toNat ow rows (2 ^ h'.toNat)) := by unfold r0_SchemeRanks; rw [if_pos e1]
      rw [e0, e1]
      obtain ⟨q, rfl⟩ : ∃ q : Nat, h' = q := ⟨h'.toNat, by have := hk.h1; omega⟩
      obtain ⟨k, rfl⟩ : ∃ k : Nat, c = k := ⟨c.toNat, by have := hk.c1; omega⟩
      have hk12 := hk.mat.c1
      have hpr := hk.mat.pr
      simp only [Int.toNat_natCast]
      have hq5 : q ≤ 5 := by omega
      have hpw := small_pow (m := q) (by omega)
      have hpos := Nat.two_pow_pos q
      refine KW.no rfl rfl (by omega) ?_
      refine KW.build rfl rfl rfl rfl rfl (built_Ranks _ _) ?_
      refine KW.lpM rfl rfl (fun s : Nat × Value × List Var => [(1, .pointer (some ⟨H.n, 0, some 0⟩)), (2, .pointer (some ⟨H.n + 1, 0, some 1⟩)), (4, .pointer (some ⟨n9, 0, some 2⟩)), (5, .int .u64 s.1)]) (fun s => Low H.n) (fun s => H) (fun s => [(H.n, ⟨41, true, [.int .i64 q, .slice a1 ow.length c1, .int .i64 p, .int .i64 k, .slice a2 rows.length c2]⟩), (H.n + 1, ⟨37, true, [.int .i64 0, .int .i64 0, .slice none 0 0]⟩), (n9, ⟨37, true, [.int .i64 q, .int .i64 1, s.2.1]⟩)] ++ s.2.2) (fun s => s.1 ≤ 2 ^ q ∧ ((s.1 = 0 ∧ s.2.1 = .slice none 0 0 ∧ s.2.2 = []) ∨ (0 < s.1 ∧ ∃ o, s.2.1 = .slice (some ⟨o, 0, some 1⟩) (srL p k ow rows s.1).length (srL p k ow rows s.1).length ∧ s.2.2 = [(o, ⟨2, true, (srL p k ow rows s.1).map (Value.int .i64)⟩)]))) (fun s => 2 ^ q - s.1) ((0, .slice none 0 0, [])) (⟨by simp only; omega, .inl ⟨rfl, rfl, rfl⟩⟩) ⟨rfl, rfl, rfl, rfl, trivial⟩ rfl rfl rfl (fun s hi bE n => ?_)
      obtain ⟨x, lv, tail⟩ := s
      obtain ⟨hi, hcase⟩ := hi
      simp only at hi hcase
      have hlen := srL_len (p := p) (k := k) (n := x) (ow := ow) (rows := rows)
      have enx := srL_next (p := p) (k := k) (n := x) (ow := ow) (rows := rows)
      rcases hcase with ⟨hc0, rfl, rfl⟩ | ⟨hc0, o, rfl, rfl⟩
      all_goals
        refine KW.callE rfl rfl rfl rfl rfl (everybody (m := q) (by omega)) (fun n8 m8 => ?_)
        refine KW.cnd rfl rfl (fun k2 => ?gin) (fun k2 => ?gout)
        case gin =>
          have k2 : (x : Int) ≤ ((2 ^ q - 1 : Nat) : Int) := k2
          refine KW.callN1 rfl rfl rfl rfl rfl (held (q : Int) p k x (by omega) hO hBr hk s1.up s2.up) (fun v HM SM mM _ _ hv => ?_)
          obtain ⟨a6, c6, rfl, hM⟩ := hv
          refine KW.callN1 rfl rfl rfl rfl rfl (rankM ⟨hpr.1, hpr.2.1⟩ (by omega) (rect_sml (held_rect hk rfl) (by omega) (by have := held_len hk (q := fun i => x.testBit (ow.getD i 0).toNat); omega)) (held_rect hk rfl) hM.up) (fun v HC SC mC _ _ hv => ?_)
          obtain rfl := hv
          rw [show selR rows (rowsP (fun i => x.testBit (ow.getD i 0).toNat) ow.length) = heldR ow rows x from rfl]
          first
            | (refine KW.app0 (v := .int .i64 (rkM p k (heldR ow rows x))) 3 rfl rfl rfl rfl rfl rfl rfl rfl rfl rfl rfl rfl rfl rfl rfl rfl rfl rfl rfl rfl rfl rfl (by decide) ?_
               subst hc0
               exact KW.nxt rfl rfl (fun H' g => ⟨(1, _, _), ⟨by simp only; omega, .inr ⟨by simp, _, rfl, rfl⟩⟩, by simp only; omega, ⟨rfl, rfl, rfl, rfl, trivial⟩, g.back⟩))
            | (refine KW.app1 (xs := (srL p k ow rows x).map (Value.int .i64)) (v := .int .i64 (rkM p k (heldR ow rows x))) 3 4 rfl rfl rfl rfl rfl rfl rfl rfl rfl rfl rfl rfl rfl rfl rfl rfl rfl rfl rfl rfl rfl rfl rfl (by simp) (by show (_ + 1) * 8 ≤ _; omega) (by omega) ?_
               exact KW.nxt rfl rfl (fun H' g => ⟨(x + 1, _, _), ⟨by simp only; omega, .inr ⟨by simp, _, by simp only [enx, List.length_append, List.length_singleton]; rfl, by simp only [enx, List.map_append]; rfl⟩⟩, by simp only; omega, ⟨rfl, rfl, rfl, congrArg (Value.int .u64) (incu64 (by omega)), trivial⟩, g.back.eqT (by simp only [enx, List.map_append]; rfl)⟩))
        case gout =>
          have k2 : ¬ (x : Int) ≤ ((2 ^ q - 1 : Nat) : Int) := k2
          have hcq : x = 2 ^ q := by omega
          first
            | (exfalso; omega)
            | (subst hcq
               refine KW.retM1 rfl rfl rfl rfl (fun H1 g => ?_)
               exact ⟨_, rfl, ranksM (int_ml ⟨g.ge (H1 := H) (j := 3) rfl, (g.blk (j := 3) rfl).2⟩ (g.blk (j := 3) rfl).1 rfl rfl (Nat.le_refl _))⟩)
    · have e1 : r1_SchemeRanks (h', ow, p, c, rows) = 3 := by unfold r1_SchemeRanks; rw [if_pos (show tv (SchOk (h', ow, p, c, rows)) = true from tv_true hk), if_neg h5]
      rw [show r0_SchemeRanks (h', ow, p, c, rows) = (0, 0, []) from by unfold r0_SchemeRanks; rw [e1]; rfl, e1]
      refine KW.yes rfl rfl (by omega) ?_
      refine KW.build rfl rfl rfl rfl rfl (built_Ranks0) ?_
      refine KW.retM1 rfl rfl rfl rfl (fun H1 g => ?_)
      exact MkRC.nil rfl
  · have e1 : r1_SchemeRanks (h', ow, p, c, rows) = 1 := by unfold r1_SchemeRanks; rw [if_neg (by rw [show tv (SchOk (h', ow, p, c, rows)) = false from tv_false hk]; decide)]
    rw [show r0_SchemeRanks (h', ow, p, c, rows) = (0, 0, []) from by unfold r0_SchemeRanks; rw [e1]; rfl, e1, tv_false hk]
    refine KW.cT rfl rfl (by first | (simp; done) | decide) ?_
    refine KW.build rfl rfl rfl rfl rfl (built_Ranks0) ?_
    refine KW.retM1 rfl rfl rfl rfl (fun H1 g => ?_)
    exact MkRC.nil rfl
theorem spec_SchemeRanks {x : T_Scheme} {cs : List Value} (hB : B_Scheme x) (h : K_Scheme.R S H0 x cs) : SpecM Try.prog S H0 21 [.agg cs.toArray] (MkRC (r0_SchemeRanks x) (r1_SchemeRanks x)) := by
  obtain ⟨a1, c1, a2, c2, rfl, s1, s2⟩ := split2_Scheme h
  obtain ⟨h', ow, p, c, rows⟩ := x
  simp only at s1 s2 ⊢
  have hO : B_Int64S ow := hB.2.1
  have hBr : B_Int64SS rows := hB.2.2.2.2
  have hp : I64 p := hB.2.2.1
  refine SpecM.of1 Try.func21 rfl (by kernel_rfl) rfl (fun H _ => ?_)
  refine KW.callE rfl rfl rfl rfl rfl (specValidScheme h' p c hp hO hBr s1.up s2.up) (fun n9 m9 => ?_)
  by_cases hk : OkSch h' ow p c rows
  · rw [tv_true hk]
    refine KW.cF rfl rfl (by first | (simp; done) | decide) ?_
    by_cases h5 : h' ≤ 5
    · have e1 : r1_SchemeRanks (h', ow, p, c, rows) = 0 := by unfold r1_SchemeRanks; rw [if_pos (show tv (SchOk (h', ow, p, c, rows)) = true from tv_true hk), if_pos h5]
      have e0 : r0_SchemeRanks (h', ow, p, c, rows) = (h', 1, srL p c.toNat ow rows (2 ^ h'.toNat)) := by unfold r0_SchemeRanks; rw [if_pos e1]
      rw [e0, e1]
      obtain ⟨q, rfl⟩ : ∃ q : Nat, h' = q := ⟨h'.toNat, by have := hk.h1; omega⟩
      obtain ⟨k, rfl⟩ : ∃ k : Nat, c = k := ⟨c.toNat, by have := hk.c1; omega⟩
      have hk12 := hk.mat.c1
      have hpr := hk.mat.pr
      have hpI : I64 p := hp
      simp only [Int.toNat_natCast]
      have hq5 : q ≤ 5 := by omega
      have hpw := small_pow (m := q) (by omega)
      have hpos := Nat.two_pow_pos q
      refine KW.no rfl rfl (by omega) ?_
      refine KW.build rfl rfl rfl rfl rfl (built_Ranks _ _) ?_
      refine KW.lpM rfl rfl (fun s : Nat × Value × List Var => [(1, .pointer (some ⟨H.n, 0, some 0⟩)), (2, .pointer (some ⟨H.n + 1, 0, some 1⟩)), (4, .pointer (some ⟨n9, 0, some 2⟩)), (5, .int .i64 s.1)]) (fun s => Low H.n) (fun s => H) (fun s => [(H.n, ⟨41, true, [.int .i64 q, .slice a1 ow.length c1, .int .i64 p, .int .i64 k, .slice a2 rows.length c2]⟩), (H.n + 1, ⟨37, true, [.int .i64 0, .int .i64 0, .slice none 0 0]⟩), (n9, ⟨37, true, [.int .i64 q, .int .i64 1, s.2.1]⟩)] ++ s.2.2) (fun s => s.1 ≤ 2 ^ q ∧ ((s.1 = 0 ∧ s.2.1 = .slice none 0 0 ∧ s.2.2 = []) ∨ (0 < s.1 ∧ ∃ o, s.2.1 = .slice (some ⟨o, 0, some 1⟩) (srL p k ow rows s.1).length (srL p k ow rows s.1).length ∧ s.2.2 = [(o, ⟨2, true, (srL p k ow rows s.1).map (Value.int .i64)⟩)]))) (fun s => 2 ^ q - s.1) ((0, .slice none 0 0, [])) (⟨by simp only; omega, .inl ⟨rfl, rfl, rfl⟩⟩) ⟨rfl, rfl, rfl, rfl, trivial⟩ rfl rfl rfl (fun s hi bE n => ?_)
      obtain ⟨x, lv, tail⟩ := s
      obtain ⟨hi, hcase⟩ := hi
      simp only at hi hcase
      have hlen := srL_len (p := p) (k := k) (n := x) (ow := ow) (rows := rows)
      have enx := srL_next (p := p) (k := k) (n := x) (ow := ow) (rows := rows)
      rcases hcase with ⟨hc0, rfl, rfl⟩ | ⟨hc0, o, rfl, rfl⟩
      all_goals
        refine KW.shlI rfl rfl rfl rfl rfl rfl q (wru (by omega) (by omega)) (by omega) ?_
        refine KW.cnd rfl rfl (fun k2 => ?gin) (fun k2 => ?gout)
        case gin =>
          have k2 : (x : Int) < ((2 ^ q : Nat) : Int) := k2
          refine KW.callN1 rfl rfl rfl rfl rfl (l06Holders (x := x) (m := q) (by omega) (by omega)) (fun v HG SG mG _ _ hv => ?_)
          obtain ⟨a5, c5, rfl, hG⟩ := hv
          have hgl := hold_len x q
          refine KW.callNV1 rfl rfl rfl rfl rfl (fun H1 g _ => l04Part (q : Int) p k (id := H.n) (kk := 0) hO hBr hk (by omega) (g.has3 (j := 0) rfl) s1.up s2.up hG.ups) (fun v HM SM mM _ _ hv => ?_)
          obtain ⟨a6, c6, rfl, hM⟩ := hv
          have esel : selR rows (rowsP (fun i => decide (ow.getD i 0 ∈ hold x q)) ow.length) = heldR ow rows x := by
            unfold heldR
            rw [rowsP_congr fun i hi => ?_]
            have hm := hk.own (ow.getD i 0) (by rw [List.getD_eq_getElem?_getD, List.getElem?_eq_getElem hi]; exact List.getElem_mem hi)
            exact hold_has hm.1 (by omega)
          rw [esel] at hM ⊢
          have hRe : Rect p k (heldR ow rows x) := held_rect hk rfl
          have hRl : (heldR ow rows x).length ≤ 20 := held_len hk
          refine KW.callN1 rfl rfl rfl rfl rfl (spec_RankOf' hpI (rect_sml hRe (by omega) (by omega)) hM.up) (fun v HC SC mC _ _ hv => ?_)
          obtain rfl := hv
          have hOM : OkMat p k (heldR ow rows x) := ⟨hpr, by omega, hk12, hRl, fun r hr => hk.mat.row r (selR_mem (held_in hk) hr)⟩
          rw [tv_true hOM, if_pos rfl]
          first
            | (refine KW.app0 (v := .int .i64 (rkM p k (heldR ow rows x))) 3 rfl rfl rfl rfl rfl rfl rfl rfl rfl rfl rfl rfl rfl rfl rfl rfl rfl rfl rfl rfl rfl rfl (by decide) ?_
               subst hc0
               exact KW.nxt rfl rfl (fun H' g => ⟨(1, _, _), ⟨by simp only; omega, .inr ⟨by simp, _, rfl, rfl⟩⟩, by simp only; omega, ⟨rfl, rfl, rfl, rfl, trivial⟩, g.back⟩))
            | (refine KW.app1 (xs := (srL p k ow rows x).map (Value.int .i64)) (v := .int .i64 (rkM p k (heldR ow rows x))) 3 4 rfl rfl rfl rfl rfl rfl rfl rfl rfl rfl rfl rfl rfl rfl rfl rfl rfl rfl rfl rfl rfl rfl rfl (by simp) (by show (_ + 1) * 8 ≤ _; omega) (by omega) ?_
               exact KW.nxt rfl rfl (fun H' g => ⟨(x + 1, _, _), ⟨by simp only; omega, .inr ⟨by simp, _, by simp only [enx, List.length_append, List.length_singleton]; rfl, by simp only [enx, List.map_append]; rfl⟩⟩, by simp only; omega, ⟨rfl, rfl, rfl, congrArg (Value.int .i64) (inc64 (by omega)), trivial⟩, g.back.eqT (by simp only [enx, List.map_append]; rfl)⟩))
        case gout =>
          have k2 : ¬ (x : Int) < ((2 ^ q : Nat) : Int) := k2
          have hcq : x = 2 ^ q := by omega
          first
            | (exfalso; omega)
            | (subst hcq
               refine KW.retM1 rfl rfl rfl rfl (fun H1 g => ?_)
               exact ⟨_, rfl, ranksM (int_ml ⟨g.ge (H1 := H) (j := 3) rfl, (g.blk (j := 3) rfl).2⟩ (g.blk (j := 3) rfl).1 rfl rfl (Nat.le_refl _))⟩)
    · have e1 : r1_SchemeRanks (h', ow, p, c, rows) = 3 := by unfold r1_SchemeRanks; rw [if_pos (show tv (SchOk (h', ow, p, c, rows)) = true from tv_true hk), if_neg h5]
      rw [show r0_SchemeRanks (h', ow, p, c, rows) = (0, 0, []) from by unfold r0_SchemeRanks; rw [e1]; rfl, e1]
      refine KW.yes rfl rfl (by omega) ?_
      refine KW.build rfl rfl rfl rfl rfl (built_Ranks0) ?_
      refine KW.retM1 rfl rfl rfl rfl (fun H1 g => ?_)
      exact MkRC.nil rfl
  · have e1 : r1_SchemeRanks (h', ow, p, c, rows) = 1 := by unfold r1_SchemeRanks; rw [if_neg (by rw [show tv (SchOk (h', ow, p, c, rows)) = false from tv_false hk]; decide)]
    rw [show r0_SchemeRanks (h', ow, p, c, rows) = (0, 0, []) from by unfold r0_SchemeRanks; rw [e1]; rfl, e1, tv_false hk]
    refine KW.cT rfl rfl (by first | (simp; done) | decide) ?_
    refine KW.build rfl rfl rfl rfl rfl (built_Ranks0) ?_
    refine KW.retM1 rfl rfl rfl rfl (fun H1 g => ?_)
    exact MkRC.nil rfl
theorem bound_SchemeRanks {x : T_Scheme} (hB : B_Scheme x) : B_Ranks (r0_SchemeRanks x) := by
  unfold r0_SchemeRanks
  split
  · rename_i h
    refine ⟨hB.1, by unfold I64; simp, ?_⟩
    show (srL _ _ _ _ _).length ≤ 1048576
    rw [srL_len]
    have h5 : x.1 ≤ 5 := by
      unfold r1_SchemeRanks at h
      split at h
      · split at h
        · assumption
        · cases h
      · cases h
    have : 2 ^ x.1.toNat ≤ 2 ^ 5 := Nat.pow_le_pow_right (by decide) (by omega)
    omega
  · exact ⟨by unfold I64; simp, by unfold I64; simp, by show 0 ≤ _; omega⟩
end
end Go.Proofs.Ytmkpfllbmdahkaa.Am
/- Contracts: the change of blinds, of the program and of the reference. Each holds under its own conditions. -/
set_option linter.unusedVariables false
set_option linter.unusedSimpArgs false
set_option maxRecDepth 20000
namespace Go.Proofs.Ytmkpfllbmdahkaa.Am
open Go Go.RowKit Go.Proofs Go.Proofs.Ytmkpfllbmdahkaa.Pl
/-- 1 in the first place, 0 in the others. -/
def unitL (k : Nat) : List Int := 1 :: List.replicate (k - 1) 0
theorem unitL_len {k : Nat} (h : 1 ≤ k) : (unitL k).length = k := by simp [unitL]; omega
theorem unitL_cells {k : Nat} (h : 1 ≤ k) : (List.replicate k (Value.int .i64 0)).set (0 + (0 : Int).toNat * 1) (Value.int .i64 1) = (unitL k).map (Value.int .i64) := by
  obtain ⟨m, rfl⟩ : ∃ m, k = m + 1 := ⟨k - 1, by omega⟩
  simp [unitL, List.replicate_succ]
theorem ech_piv (p : Int) (L : List (List Int)) : ∀ c, (ech p L c).2.length ≤ c
  | 0 => by simp [ech]
  | c + 1 => by
    have h := ech_piv p L c
    simp only [ech]
    split
    · omega
    · simp; omega
theorem rk_le (p : Int) (k : Nat) (L : List (List Int)) : rkM p k L ≤ k := by
  unfold rkM
  have := ech_piv p L (k : Int).toNat
  simp only [Int.toNat_natCast] at this ⊢
  omega
def MatOk (y : T_Matrix) : Prop := OkMat y.1 y.2.1 y.2.2
noncomputable def r1_ChangeBlinds (x : T_Scheme) (y : T_Matrix) : Int :=
  if tv (SchOk x ∧ MatOk y) = true then
    (if y.1 = x.2.2.1 ∧ (y.2.2.length : Int) = x.2.2.2.1 ∧ y.2.1 = x.2.2.2.1 then (if rkM y.1 y.2.1 y.2.2 = y.2.1 ∧ y.2.2.getD 0 [] = unitL y.2.1.toNat then 0 else 4) else 2)
  else 1
noncomputable def r0_ChangeBlinds (x : T_Scheme) (y : T_Matrix) : T_Scheme := if r1_ChangeBlinds x y = 0 then (x.1, x.2.1, (y.1, y.2.1, prodL y.1 x.2.2.2.2 (trL y.2.2 y.2.1.toNat))) else (0, [], (0, 0, []))
/-- A scheme and a code. -/
def MkSC (r : T_Scheme) (code : Int) (n : Nat) (v : Value) (H1 : AH) : Prop := ∃ cs : List Value, v = .tuple #[.agg cs.toArray, .int .i64 code] ∧ M_Scheme.R (New n H1.n) H1 r cs
theorem schemeM {X X1 X2 : Ids} {H : AH} {h p c : Int} {v w : Value} {ow : List Int} {rows : List (List Int)} (h1 : KI.Ml X1 H v ow) (h2 : KI.ml.Ml X2 H w rows) (i1 : ∀ id, X1 id → X id) (i2 : ∀ id, X2 id → X id) (hd : ∀ id, X1 id → X2 id → False) : M_Scheme.R X H (h, ow, (p, c, rows)) [.int .i64 h, v, .int .i64 p, .int .i64 c, w] :=
  have k2 : M_Matrix.R X2 H (p, c, rows) [.int .i64 p, .int .i64 c, w] := mpR (X := None_) (cs := [.int .i64 p]) (show KI.R None_ H p _ from rfl) (mpR (X := None_) (cs := [.int .i64 c]) (show KI.R None_ H c _ from rfl) (ml1' h2) (fun _ p => p.elim) (fun _ p => p) (fun _ p _ => p.elim)) (fun _ p => p.elim) (fun _ p => p) (fun _ p _ => p.elim)
  mpR (X := None_) (cs := [.int .i64 h]) (show KI.R None_ H h _ from rfl) (mpR (cs := [v]) (ml1' h1) k2 i1 i2 hd) (fun _ p => p.elim) (fun _ p => p) (fun _ p _ => p.elim)
theorem MkSC.nil {code : Int} {n : Nat} {v : Value} {H1 : AH} (hv : v = .tuple #[.agg #[.int .i64 0, .slice none 0 0, .int .i64 0, .int .i64 0, .slice none 0 0], .int .i64 code]) : MkSC (0, [], (0, 0, [])) code n v H1 :=
  ⟨_, hv, schemeM (X1 := None_) (X2 := None_) (.inl ⟨rfl, _, _, rfl, fun _ => rfl⟩) (.inl ⟨rfl, _, _, rfl, fun _ => rfl⟩) (fun _ p => p.elim) (fun _ p => p.elim) (fun _ p _ => p.elim)⟩
theorem built_Scheme0 : Try.prog.built 41 [] = some #[.int .i64 0, .slice none 0 0, .int .i64 0, .int .i64 0, .slice none 0 0] := by kernel_rfl
theorem built_Scheme3 (h p c : Int) (a1 : Option Addr) (n1 c1 : Nat) (a2 : Option Addr) (n2 c2 : Nat) : Try.prog.built 41 [(0, .int .i64 h), (1, .slice a1 n1 c1), (2, .agg #[.int .i64 p, .int .i64 c, .slice a2 n2 c2])] = some #[.int .i64 h, .slice a1 n1 c1, .int .i64 p, .int .i64 c, .slice a2 n2 c2] := by kernel_rfl
theorem cb_bad {x : T_Scheme} {y : T_Matrix} (h : ¬ (SchOk x ∧ MatOk y)) : r1_ChangeBlinds x y = 1 ∧ r0_ChangeBlinds x y = (0, [], (0, 0, [])) := by
  have e : r1_ChangeBlinds x y = 1 := by unfold r1_ChangeBlinds; rw [if_neg (by rw [tv_false h]; decide)]
  exact ⟨e, by unfold r0_ChangeBlinds; rw [if_neg (by rw [e]; decide)]⟩
theorem cb_range {x : T_Scheme} {y : T_Matrix} (h : SchOk x ∧ MatOk y) (h2 : ¬ (y.1 = x.2.2.1 ∧ (y.2.2.length : Int) = x.2.2.2.1 ∧ y.2.1 = x.2.2.2.1)) : r1_ChangeBlinds x y = 2 ∧ r0_ChangeBlinds x y = (0, [], (0, 0, [])) := by
  have e : r1_ChangeBlinds x y = 2 := by unfold r1_ChangeBlinds; rw [if_pos (tv_true h), if_neg h2]
  exact ⟨e, by unfold r0_ChangeBlinds; rw [if_neg (by rw [e]; decide)]⟩
theorem cb_state {x : T_Scheme} {y : T_Matrix} (h : SchOk x ∧ MatOk y) (h2 : y.1 = x.2.2.1 ∧ (y.2.2.length : Int) = x.2.2.2.1 ∧ y.2.1 = x.2.2.2.1) (h3 : ¬ (rkM y.1 y.2.1 y.2.2 = y.2.1 ∧ y.2.2.getD 0 [] = unitL y.2.1.toNat)) : r1_ChangeBlinds x y = 4 ∧ r0_ChangeBlinds x y = (0, [], (0, 0, [])) := by
  have e : r1_ChangeBlinds x y = 4 := by unfold r1_ChangeBlinds; rw [if_pos (tv_true h), if_pos h2, if_neg h3]
  exact ⟨e, by unfold r0_ChangeBlinds; rw [if_neg (by rw [e]; decide)]⟩
theorem cb_ok {x : T_Scheme} {y : T_Matrix} (h : SchOk x ∧ MatOk y) (h2 : y.1 = x.2.2.1 ∧ (y.2.2.length : Int) = x.2.2.2.1 ∧ y.2.1 = x.2.2.2.1) (h3 : rkM y.1 y.2.1 y.2.2 = y.2.1 ∧ y.2.2.getD 0 [] = unitL y.2.1.toNat) : r1_ChangeBlinds x y = 0 ∧ r0_ChangeBlinds x y = (x.1, x.2.1, (y.1, y.2.1, prodL y.1 x.2.2.2.2 (trL y.2.2 y.2.1.toNat))) := by
  have e : r1_ChangeBlinds x y = 0 := by unfold r1_ChangeBlinds; rw [if_pos (tv_true h), if_pos h2, if_pos h3]
  exact ⟨e, by unfold r0_ChangeBlinds; rw [if_pos e]⟩
section
variable {S : Ids} {H0 : AH}
theorem unit (k : Nat) (h1 : 1 ≤ k) (hk : k ≤ 1000) : SpecM Try.prog S H0 127 [.int .i64 k] (MkL (unitL k)) := by
  refine SpecM.of1 Try.func127 rfl (by kernel_rfl) rfl (fun H _ => ?_)
  refine KW.mk1 rfl rfl rfl rfl rfl rfl rfl rfl rfl rfl rfl rfl (k) rfl rfl (by omega) (by show 8 * _ ≤ _; omega) ?_
  refine KW.idx0 rfl rfl rfl rfl rfl rfl rfl rfl rfl (by omega) (by omega) ?_
  refine KW.st1 0 rfl rfl rfl rfl rfl rfl rfl rfl rfl rfl rfl rfl (by simp; omega) ?_
  refine KW.retM1 rfl rfl rfl rfl (fun H1 g => ?_)
  have hb := g.blk (j := 0) rfl
  exact ⟨some ⟨H.n, 0, some 1⟩, k, by rw [unitL_len h1]; rfl, int_ml ⟨Nat.le_refl _, hb.2⟩ hb.1 rfl (unitL_cells h1) (by rw [unitL_len h1]; exact Nat.le_refl _)⟩
theorem l04First (k : Nat) (h1 : 1 ≤ k) (hk : k ≤ 1000) : SpecM Try.prog S H0 123 [.int .i64 k] (MkL (unitL k)) := by
  refine SpecM.of1 Try.func123 rfl (by kernel_rfl) rfl (fun H _ => ?_)
  refine KW.mk1 rfl rfl rfl rfl rfl rfl rfl rfl rfl rfl rfl rfl (k) rfl rfl (by omega) (by show 8 * _ ≤ _; omega) ?_
  refine KW.idx0 rfl rfl rfl rfl rfl rfl rfl rfl rfl (by omega) (by omega) ?_
  refine KW.st1 0 rfl rfl rfl rfl rfl rfl rfl rfl rfl rfl rfl rfl (by simp; omega) ?_
  refine KW.retM1 rfl rfl rfl rfl (fun H1 g => ?_)
  have hb := g.blk (j := 0) rfl
  exact ⟨some ⟨H.n, 0, some 1⟩, k, by rw [unitL_len h1]; rfl, int_ml ⟨Nat.le_refl _, hb.2⟩ hb.1 rfl (unitL_cells h1) (by rw [unitL_len h1]; exact Nat.le_refl _)⟩
theorem impl_ChangeBlinds {x : T_Scheme} {y : T_Matrix} {cs ds : List Value} (hB : B_Scheme x) (hM : B_Matrix y) (h : K_Scheme.R S H0 x cs) (k : K_Matrix.R S H0 y ds) : SpecM Try.prog S H0 36 [.agg cs.toArray, .agg ds.toArray] (MkSC (r0_ChangeBlinds x y) (r1_ChangeBlinds x y)) := by
  obtain ⟨a1, c1, a2, c2, rfl, s1, s2⟩ := split2_Scheme h
  obtain ⟨a3, c3, rfl, k3⟩ := split_Matrix k
  have s3 := sl1 k3
  obtain ⟨h', ow, p, c, rows⟩ := x
  obtain ⟨p', c', M⟩ := y
  simp only at s1 s2 s3 ⊢
  have hO : B_Int64S ow := hB.2.1
  have hBr : B_Int64SS rows := hB.2.2.2.2
  have hp : I64 p := hB.2.2.1
  have hp' : I64 p' := hM.1
  have hBM : B_Int64SS M := hM.2.2
  refine SpecM.of1 Try.func36 rfl (by kernel_rfl) rfl (fun H _ => ?_)
  refine KW.callE rfl rfl rfl rfl rfl (validScheme h' p c hp hO hBr s1.up s2.up) (fun _ _ => ?_)
  by_cases hk : OkSch h' ow p c rows
  · rw [tv_true hk]
    refine KW.tF rfl rfl (by first | (simp; done) | decide) ?_
    refine KW.callE rfl rfl rfl rfl rfl (validMatrix p' c' hp' hBM s3.up) (fun _ _ => ?_)
    by_cases hm : OkMat p' c' M
    · rw [tv_true hm]
      refine KW.cF rfl rfl (by first | (simp; done) | decide) ?_
      have hok : SchOk (h', ow, p, c, rows) ∧ MatOk (p', c', M) := ⟨hk, hm⟩
      obtain ⟨q, rfl⟩ : ∃ q : Nat, c = q := ⟨c.toNat, by have := hk.c1; omega⟩
      have hq12 := hk.mat.c1
      have hq1 := hk.c1
      by_cases h2 : p' = p ∧ (M.length : Int) = q ∧ c' = q
      · obtain ⟨rfl, h2b, rfl⟩ := h2
        have hML : M.length = q := by omega
        refine KW.tF rfl rfl (by simp) ?_
        refine KW.tF rfl rfl (by simp [h2b]) ?_
        refine KW.cF rfl rfl (by simp) ?_
        have hpr := hm.pr
        refine KW.callN1 rfl rfl rfl rfl rfl (rankM ⟨hpr.1, hpr.2.1⟩ (by omega) hBM (hm.rect rfl) s3.up) (fun v HC SC mC _ _ hv => ?_)
        obtain rfl := hv
        have hrk := rk_le p' q M
        by_cases h3a : rkM p' q M = q
        · refine KW.tno rfl rfl (by omega) ?_
          refine KW.getL s3.up rfl rfl rfl rfl rfl rfl rfl rfl rfl rfl rfl rfl rfl rfl rfl rfl (by omega) (by omega) (fun r0 ar cr hr hsr => ?_)
          have hr : M[0]? = some r0 := hr
          have hrd : M.getD 0 [] = r0 := by rw [List.getD_eq_getElem?_getD, hr]; rfl
          have hrl := hBM.each r0 (List.mem_of_getElem? hr)
          refine KW.callN1 rfl rfl rfl rfl rfl (unit q (by omega) (by omega)) (fun v HU SU mU _ _ hv => ?_)
          obtain ⟨au, cu, rfl, hU⟩ := hv
          refine KW.callE rfl rfl rfl rfl rfl (equalI hrl hsr.up hU.ups) (fun nE mE => ?_)
          by_cases h3b : r0 = unitL q
          · obtain ⟨e1, e0⟩ := cb_ok (x := (h', ow, p', ↑q, rows)) (y := (p', ↑q, M)) hok ⟨rfl, h2b, rfl⟩ ⟨h3a, by show M.getD 0 [] = unitL (q : Int).toNat; rw [hrd, h3b, Int.toNat_natCast]⟩
            rw [e1, e0, tv_true h3b]
            refine KW.cF rfl rfl (by first | (simp; done) | decide) ?_
            refine KW.callN1 rfl rfl rfl rfl rfl (productOf hk.mat hm hML hBr hBM s2.up s3.up) (fun v HP SP mP _ _ hv => ?_)
            obtain ⟨v', rfl, a5, c5, rfl, hP⟩ := hv
            refine KW.callN1 rfl rfl rfl rfl rfl (cloneI hO s1.up) (fun v HD SD mD _ _ hv => ?_)
            obtain ⟨a6, c6, rfl, hD⟩ := hv
            refine KW.build rfl rfl rfl rfl rfl (built_Scheme3 _ _ _ _ _ _ _ _ _) ?_
            refine KW.retM1 rfl rfl rfl rfl (fun H1 g => ?_)
            refine ⟨_, rfl, schemeM (X1 := New (HP.n + 1) HD.n) (X2 := New nE HP.n) (ml1 (g.keep (ml1' hD))) (ml1 (g.keep (ml1' hP))) (g.inn (H := HD) (fun _ p => by have := p.1; omega)) (g.inn (H := HP) (fun _ p => by have := p.1; omega)) (fun _ p r => by have := p.1; have := r.2; omega)⟩
          · obtain ⟨e1, e0⟩ := cb_state (x := (h', ow, p', ↑q, rows)) (y := (p', ↑q, M)) hok ⟨rfl, h2b, rfl⟩ (fun hc => h3b (by have h9 : M.getD 0 [] = unitL (q : Int).toNat := hc.2; rw [hrd, Int.toNat_natCast] at h9; exact h9))
            rw [e1, e0, tv_false h3b]
            refine KW.cT rfl rfl (by first | (simp; done) | decide) ?_
            refine KW.build rfl rfl rfl rfl rfl (built_Scheme0) ?_
            refine KW.retM1 rfl rfl rfl rfl (fun H1 g => ?_)
            exact MkSC.nil rfl
        · obtain ⟨e1, e0⟩ := cb_state (x := (h', ow, p', ↑q, rows)) (y := (p', ↑q, M)) hok ⟨rfl, h2b, rfl⟩ (fun hc => h3a hc.1)
          rw [e1, e0]
          refine KW.tyes rfl rfl (by omega) ?_
          refine KW.cT rfl rfl (by first | (simp; done) | decide) ?_
          refine KW.build rfl rfl rfl rfl rfl (built_Scheme0) ?_
          refine KW.retM1 rfl rfl rfl rfl (fun H1 g => ?_)
          exact MkSC.nil rfl
      · obtain ⟨e1, e0⟩ := cb_range (x := (h', ow, p, ↑q, rows)) (y := (p', c', M)) hok h2
        rw [e1, e0]
        by_cases h2a : p' = p
        · refine KW.tF rfl rfl (by simp [h2a]) ?_
          by_cases h2b : (M.length : Int) = q
          · refine KW.tF rfl rfl (by simp [h2b]) ?_
            refine KW.cT rfl rfl (by simp; exact fun h => h2 ⟨h2a, h2b, h⟩) ?_
            refine KW.build rfl rfl rfl rfl rfl (built_Scheme0) ?_
            refine KW.retM1 rfl rfl rfl rfl (fun H1 g => ?_)
            exact MkSC.nil rfl
          · refine KW.tT rfl rfl (by simpa using h2b) ?_
            refine KW.cT rfl rfl (by first | (simp; done) | decide) ?_
            refine KW.build rfl rfl rfl rfl rfl (built_Scheme0) ?_
            refine KW.retM1 rfl rfl rfl rfl (fun H1 g => ?_)
            exact MkSC.nil rfl
        · refine KW.tT rfl rfl (by simpa using h2a) ?_
          refine KW.tT rfl rfl (by first | (simp; done) | decide) ?_
          refine KW.cT rfl rfl (by first | (simp; done) | decide) ?_
          refine KW.build rfl rfl rfl rfl rfl (built_Scheme0) ?_
          refine KW.retM1 rfl rfl rfl rfl (fun H1 g => ?_)
          exact MkSC.nil rfl
    · obtain ⟨e1, e0⟩ := cb_bad (x := (h', ow, p, c, rows)) (y := (p', c', M)) (fun hc => hm hc.2)
      rw [e1, e0, tv_false hm]
      refine KW.cT rfl rfl (by first | (simp; done) | decide) ?_
      refine KW.build rfl rfl rfl rfl rfl (built_Scheme0) ?_
      refine KW.retM1 rfl rfl rfl rfl (fun H1 g => ?_)
      exact MkSC.nil rfl
  · obtain ⟨e1, e0⟩ := cb_bad (x := (h', ow, p, c, rows)) (y := (p', c', M)) (fun hc => hk hc.1)
    rw [e1, e0, tv_false hk]
    refine KW.tT rfl rfl (by first | (simp; done) | decide) ?_
    refine KW.cT rfl rfl (by first | (simp; done) | decide) ?_
    refine KW.build rfl rfl rfl rfl rfl (built_Scheme0) ?_
    refine KW.retM1 rfl rfl rfl rfl (fun H1 g => ?_)
    exact MkSC.nil rfl
theorem spec_ChangeBlinds {x : T_Scheme} {y : T_Matrix} {cs ds : List Value} (hB : B_Scheme x) (hM : B_Matrix y) (h : K_Scheme.R S H0 x cs) (k : K_Matrix.R S H0 y ds) : SpecM Try.prog S H0 35 [.agg cs.toArray, .agg ds.toArray] (MkSC (r0_ChangeBlinds x y) (r1_ChangeBlinds x y)) := by
  obtain ⟨a1, c1, a2, c2, rfl, s1, s2⟩ := split2_Scheme h
  obtain ⟨a3, c3, rfl, k3⟩ := split_Matrix k
  have s3 := sl1 k3
  obtain ⟨h', ow, p, c, rows⟩ := x
  obtain ⟨p', c', M⟩ := y
  simp only at s1 s2 s3 ⊢
  have hO : B_Int64S ow := hB.2.1
  have hBr : B_Int64SS rows := hB.2.2.2.2
  have hp : I64 p := hB.2.2.1
  have hp' : I64 p' := hM.1
  have hBM : B_Int64SS M := hM.2.2
  refine SpecM.of1 Try.func35 rfl (by kernel_rfl) rfl (fun H _ => ?_)
  refine KW.callV1 rfl rfl rfl rfl rfl (fun H1 g _ => l04Ok (S := Low H1.n) (H0 := H1) h' p c hp hO hBr (g.has (j := 0) rfl rfl) s1.up s2.up) (fun _ _ => ?_)
  by_cases hk : OkSch h' ow p c rows
  · rw [tv_true hk]
    refine KW.tF rfl rfl (by first | (simp; done) | decide) ?_
    refine KW.callV1 rfl rfl rfl rfl rfl (fun H1 g _ => l03Ok (S := Low H1.n) (H0 := H1) p' c' hp' hBM (g.has3 (j := 1) rfl) s3.up) (fun _ _ => ?_)
    by_cases hm : OkMat p' c' M
    · rw [tv_true hm]
      refine KW.cF rfl rfl (by first | (simp; done) | decide) ?_
      have hok : SchOk (h', ow, p, c, rows) ∧ MatOk (p', c', M) := ⟨hk, hm⟩
      obtain ⟨q, rfl⟩ : ∃ q : Nat, c = q := ⟨c.toNat, by have := hk.c1; omega⟩
      have hq12 := hk.mat.c1
      have hq1 := hk.c1
      by_cases h2 : p' = p ∧ (M.length : Int) = q ∧ c' = q
      · obtain ⟨rfl, h2b, rfl⟩ := h2
        have hML : M.length = q := by omega
        refine KW.tF rfl rfl (by simp) ?_
        refine KW.tF rfl rfl (by simp) ?_
        refine KW.cF rfl rfl (by simp [h2b]) ?_
        have hpr := hm.pr
        refine KW.callNV1 rfl rfl rfl rfl rfl (fun H1 g _ => l03Rank (S := Low H1.n) (H0 := H1) ⟨hpr.1, hpr.2.1⟩ (by omega) hBM (hm.rect rfl) (g.has3 (j := 1) rfl) s3.up) (fun v HC SC mC _ _ hv => ?_)
        obtain rfl := hv
        have hrk := rk_le p' q M
        by_cases h3a : rkM p' q M = q
        · refine KW.tF rfl rfl (by simp [h3a]) ?_
          refine KW.getL s3.up rfl rfl rfl rfl rfl rfl rfl rfl rfl rfl rfl rfl rfl rfl rfl rfl (by omega) (by omega) (fun r0 ar cr hr hsr => ?_)
          have hr : M[0]? = some r0 := hr
          have hrd : M.getD 0 [] = r0 := by rw [List.getD_eq_getElem?_getD, hr]; rfl
          have hrl := hBM.each r0 (List.mem_of_getElem? hr)
          refine KW.callN1 rfl rfl rfl rfl rfl (l04First q (by omega) (by omega)) (fun v HU SU mU _ _ hv => ?_)
          obtain ⟨au, cu, rfl, hU⟩ := hv
          refine KW.callE rfl rfl rfl rfl rfl (l00Same hrl hsr.up hU.ups) (fun nE mE => ?_)
          by_cases h3b : r0 = unitL q
          · obtain ⟨e1, e0⟩ := cb_ok (x := (h', ow, p', ↑q, rows)) (y := (p', ↑q, M)) hok ⟨rfl, h2b, rfl⟩ ⟨h3a, by show M.getD 0 [] = unitL (q : Int).toNat; rw [hrd, h3b, Int.toNat_natCast]⟩
            rw [e1, e0, tv_true h3b]
            refine KW.cF rfl rfl (by first | (simp; done) | decide) ?_
            refine KW.callN1 rfl rfl rfl rfl rfl (specProductOf hk.mat hm hML hBr hBM s2.up s3.up) (fun v HP SP mP _ _ hv => ?_)
            obtain ⟨v', rfl, a5, c5, rfl, hP⟩ := hv
            refine KW.callN1 rfl rfl rfl rfl rfl (l00Own hO s1.up) (fun v HD SD mD _ _ hv => ?_)
            obtain ⟨a6, c6, rfl, hD⟩ := hv
            refine KW.build rfl rfl rfl rfl rfl (built_Scheme3 _ _ _ _ _ _ _ _ _) ?_
            refine KW.retM1 rfl rfl rfl rfl (fun H1 g => ?_)
            refine ⟨_, rfl, schemeM (X1 := New (HP.n + 1) HD.n) (X2 := New nE HP.n) (ml1 (g.keep (ml1' hD))) (ml1 (g.keep (ml1' hP))) (g.inn (H := HD) (fun _ p => by have := p.1; omega)) (g.inn (H := HP) (fun _ p => by have := p.1; omega)) (fun _ p r => by have := p.1; have := r.2; omega)⟩
          · obtain ⟨e1, e0⟩ := cb_state (x := (h', ow, p', ↑q, rows)) (y := (p', ↑q, M)) hok ⟨rfl, h2b, rfl⟩ (fun hc => h3b (by have h9 : M.getD 0 [] = unitL (q : Int).toNat := hc.2; rw [hrd, Int.toNat_natCast] at h9; exact h9))
            rw [e1, e0, tv_false h3b]
            refine KW.cT rfl rfl (by first | (simp; done) | decide) ?_
            refine KW.build rfl rfl rfl rfl rfl (built_Scheme0) ?_
            refine KW.retM1 rfl rfl rfl rfl (fun H1 g => ?_)
            exact MkSC.nil rfl
        · obtain ⟨e1, e0⟩ := cb_state (x := (h', ow, p', ↑q, rows)) (y := (p', ↑q, M)) hok ⟨rfl, h2b, rfl⟩ (fun hc => h3a hc.1)
          rw [e1, e0]
          refine KW.tT rfl rfl (by simpa using h3a) ?_
          refine KW.cT rfl rfl (by first | (simp; done) | decide) ?_
          refine KW.build rfl rfl rfl rfl rfl (built_Scheme0) ?_
          refine KW.retM1 rfl rfl rfl rfl (fun H1 g => ?_)
          exact MkSC.nil rfl
      · obtain ⟨e1, e0⟩ := cb_range (x := (h', ow, p, ↑q, rows)) (y := (p', c', M)) hok h2
        rw [e1, e0]
        by_cases h2a : p' = p
        · refine KW.tF rfl rfl (by simp [h2a]) ?_
          by_cases h2b : c' = q
          · refine KW.tF rfl rfl (by simp [h2b]) ?_
            refine KW.cT rfl rfl (by simp; exact fun h => h2 ⟨h2a, h.trans h2b, h2b⟩) ?_
            refine KW.build rfl rfl rfl rfl rfl (built_Scheme0) ?_
            refine KW.retM1 rfl rfl rfl rfl (fun H1 g => ?_)
            exact MkSC.nil rfl
          · refine KW.tT rfl rfl (by simpa using h2b) ?_
            refine KW.cT rfl rfl (by first | (simp; done) | decide) ?_
            refine KW.build rfl rfl rfl rfl rfl (built_Scheme0) ?_
            refine KW.retM1 rfl rfl rfl rfl (fun H1 g => ?_)
            exact MkSC.nil rfl
        · refine KW.tT rfl rfl (by simpa using h2a) ?_
          refine KW.tT rfl rfl (by first | (simp; done) | decide) ?_
          refine KW.cT rfl rfl (by first | (simp; done) | decide) ?_
          refine KW.build rfl rfl rfl rfl rfl (built_Scheme0) ?_
          refine KW.retM1 rfl rfl rfl rfl (fun H1 g => ?_)
          exact MkSC.nil rfl
    · obtain ⟨e1, e0⟩ := cb_bad (x := (h', ow, p, c, rows)) (y := (p', c', M)) (fun hc => hm hc.2)
      rw [e1, e0, tv_false hm]
      refine KW.cT rfl rfl (by first | (simp; done) | decide) ?_
      refine KW.build rfl rfl rfl rfl rfl (built_Scheme0) ?_
      refine KW.retM1 rfl rfl rfl rfl (fun H1 g => ?_)
      exact MkSC.nil rfl
  · obtain ⟨e1, e0⟩ := cb_bad (x := (h', ow, p, c, rows)) (y := (p', c', M)) (fun hc => hk hc.1)
    rw [e1, e0, tv_false hk]
    refine KW.tT rfl rfl (by first | (simp; done) | decide) ?_
    refine KW.cT rfl rfl (by first | (simp; done) | decide) ?_
    refine KW.build rfl rfl rfl rfl rfl (built_Scheme0) ?_
    refine KW.retM1 rfl rfl rfl rfl (fun H1 g => ?_)
    exact MkSC.nil rfl
end
theorem bound_ChangeBlinds {x : T_Scheme} {y : T_Matrix} (hB : B_Scheme x) (hM : B_Matrix y) : B_Scheme (r0_ChangeBlinds x y) := by
  by_cases h : r1_ChangeBlinds x y = 0
  · have hok : SchOk x ∧ MatOk y := Classical.byContradiction fun hc => by rw [(cb_bad hc).1] at h; cases h
    have hk := hok.1
    have hm := hok.2
    have e : r0_ChangeBlinds x y = (x.1, x.2.1, (y.1, y.2.1, prodL y.1 x.2.2.2.2 (trL y.2.2 y.2.1.toNat))) := by unfold r0_ChangeBlinds; rw [if_pos h]
    rw [e]
    have hp := hm.pr
    refine ⟨hB.1, hB.2.1, hM.1, hM.2.1, rect_sml (p := y.1) (k := y.2.1.toNat) (fun r hr => ?_) (by have := hm.c1; omega) (by have := hk.mat.len; show (prodL _ _ _).length ≤ _; simp [prodL]; omega)⟩
    obtain ⟨w, hw, rfl⟩ := List.mem_map.1 hr
    refine ⟨by rw [List.length_map, trL_len], fun z hz => ?_⟩
    obtain ⟨u, _, rfl⟩ := List.mem_map.1 hz
    have := dotS_in (a := w) (b := u) hp
    exact ⟨this.1, by omega⟩
  · have e : r0_ChangeBlinds x y = (0, [], (0, 0, [])) := by unfold r0_ChangeBlinds; rw [if_neg h]
    rw [e]
    exact ⟨by unfold I64; simp, by show 0 ≤ _; omega, by unfold I64; simp, by unfold I64; simp, ⟨by simp, by simp [lens, sum]⟩⟩
end Go.Proofs.Ytmkpfllbmdahkaa.Am
/- Contracts: codes of schemes, groups and held shares; products of equal factors. Each holds under its own conditions. -/
set_option linter.unusedVariables false
set_option linter.unusedSimpArgs false
set_option maxRecDepth 20000
namespace Go.Proofs.Ytmkpfllbmdahkaa.Am
open Go Go.RowKit Go.Proofs Go.Proofs.Ytmkpfllbmdahkaa.Pl
/-- The code of a scheme and a group. -/
noncomputable def codeS (x : T_Scheme) (g : List Int) : Int := if tv (SchOk x) = true then (if tv (Rises 0 (x.1 - 1) g) = true then 0 else 2) else 1
noncomputable def rowsG (ow : List Int) (g : List Int) : List Int := rowsP (fun i => (bitsOf g).testBit (ow.getD i 0).toNat) ow.length
/-- .. and of held shares. -/
noncomputable def codeH (x : T_Scheme) (g held : List Int) : Int := if codeS x g = 0 then (if tv (held.length = (rowsG x.2.1 g).length ∧ Elems x.2.2.1 held) = true then 0 else 2) else codeS x g
theorem codeS_ok {x : T_Scheme} {g : List Int} (h : codeS x g = 0) : SchOk x ∧ Rises 0 (x.1 - 1) g := by
  unfold codeS at h
  split at h
  · rename_i h1
    split at h
    · rename_i h2; exact ⟨tv_iff.1 h1, tv_iff.1 h2⟩
    · cases h
  · cases h
theorem codeH_ok {x : T_Scheme} {g held : List Int} (h : codeH x g held = 0) : SchOk x ∧ Rises 0 (x.1 - 1) g ∧ held.length = (rowsG x.2.1 g).length ∧ Elems x.2.2.1 held := by
  unfold codeH at h
  split at h
  · rename_i h1
    split at h
    · rename_i h2
      exact ⟨(codeS_ok h1).1, (codeS_ok h1).2, (tv_iff.1 h2).1, (tv_iff.1 h2).2⟩
    · cases h
  · rename_i h1; exact absurd h h1
theorem rises_small {q : Nat} {g : List Int} (h : Rises 0 ((q : Int) - 1) g) : ∀ x ∈ g, 0 ≤ x ∧ x < (q : Int) := fun x hx => by have := rises_mem h x hx; omega
theorem group_bits {q : Nat} {g : List Int} (h : Rises 0 ((q : Int) - 1) g) {y : Int} (h0 : 0 ≤ y) (h1 : y < q) : decide (y ∈ g) = (bitsOf g).testBit y.toNat := by
  rw [← hold_has h0 h1, hold_bits q h]
theorem rowsG_spec {h p c : Int} {ow g : List Int} {rows : List (List Int)} (hk : OkSch h ow p c rows) (hg : Rises 0 (h - 1) g) : rowsP (fun i => decide (ow.getD i 0 ∈ g)) ow.length = rowsG ow g := by
  obtain ⟨q, rfl⟩ : ∃ q : Nat, h = q := ⟨h.toNat, by have := hk.h1; omega⟩
  unfold rowsG
  refine rowsP_congr fun i hi => ?_
  have hm := hk.own (ow.getD i 0) (by rw [List.getD_eq_getElem?_getD, List.getElem?_eq_getElem hi]; exact List.getElem_mem hi)
  exact group_bits hg hm.1 (by omega)
section
variable {S : Ids} {H0 : AH}
theorem schemeCode (x : T_Scheme) (g : List Int) {a1 c1 a2 c2 a3 c3} (hB : B_Scheme x) (hG : B_Int64S g) (h1 : KI.Sl S H0 (.slice a1 x.2.1.length c1) x.2.1) (h2 : KI.sl.Sl S H0 (.slice a2 x.2.2.2.2.length c2) x.2.2.2.2) (h3 : KI.Sl S H0 (.slice a3 g.length c3) g) :
    Spec Try.prog S H0 150 [.agg #[.int .i64 x.1, .slice a1 x.2.1.length c1, .int .i64 x.2.2.1, .int .i64 x.2.2.2.1, .slice a2 x.2.2.2.2.length c2], .slice a3 g.length c3] (fun v => v = .int .i64 (codeS x g)) := by
  refine Spec.of1 Try.func150 rfl (by kernel_rfl) rfl (fun H _ => ?_)
  have hG' : g.length ≤ 1048576 := hG
  refine KW.callE rfl rfl rfl rfl rfl (validScheme x.1 x.2.2.1 x.2.2.2.1 hB.2.2.1 hB.2.1 hB.2.2.2.2 h1.up h2.up) (fun _ _ => ?_)
  by_cases hk : SchOk x
  · rw [show tv (OkSch x.1 x.2.1 x.2.2.1 x.2.2.2.1 x.2.2.2.2) = true from tv_true hk]
    refine KW.cF rfl rfl (by first | (simp; done) | decide) ?_
    refine KW.callE rfl rfl rfl rfl rfl (isGroup x.1 (by omega) (by have := hk.h1; have := hk.h7; omega) h3.up) (fun _ _ => ?_)
    by_cases hg : Rises 0 (x.1 - 1) g
    · rw [tv_true hg]
      refine KW.cF rfl rfl (by first | (simp; done) | decide) ?_
      exact KW.ret rfl rfl rfl rfl (by unfold codeS; rw [if_pos (tv_true hk), if_pos (tv_true hg)]; rfl)
    · rw [tv_false hg]
      refine KW.cT rfl rfl (by first | (simp; done) | decide) ?_
      exact KW.ret rfl rfl rfl rfl (by unfold codeS; rw [if_pos (tv_true hk), if_neg (by rw [tv_false hg]; decide)]; rfl)
  · rw [show tv (OkSch x.1 x.2.1 x.2.2.1 x.2.2.2.1 x.2.2.2.2) = false from tv_false hk]
    refine KW.cT rfl rfl (by first | (simp; done) | decide) ?_
    exact KW.ret rfl rfl rfl rfl (by unfold codeS; rw [if_neg (by rw [tv_false hk]; decide)]; rfl)
theorem l04Asked (x : T_Scheme) (g : List Int) {id k : Nat} {a1 c1 a2 c2 a3 c3} (hB : B_Scheme x) (hG : B_Int64S g) (hv : Has3 S H0 id k [.int .i64 x.1, .slice a1 x.2.1.length c1, .int .i64 x.2.2.1, .int .i64 x.2.2.2.1, .slice a2 x.2.2.2.2.length c2]) (h1 : KI.Sl S H0 (.slice a1 x.2.1.length c1) x.2.1) (h2 : KI.sl.Sl S H0 (.slice a2 x.2.2.2.2.length c2) x.2.2.2.2) (h3 : KI.Sl S H0 (.slice a3 g.length c3) g) :
    Spec Try.prog S H0 201 [.pointer (some ⟨id, k, none⟩), .slice a3 g.length c3] (fun v => v = .int .i64 (codeS x g)) := by
  refine Spec.of1 Try.func201 rfl (by kernel_rfl) rfl (fun H _ => ?_)
  have hv := hv.up (S' := Low H.n) (H' := H)
  have hG' : g.length ≤ 1048576 := hG
  refine KW.callE rfl rfl rfl rfl rfl (l04Ok x.1 x.2.2.1 x.2.2.2.1 hB.2.2.1 hB.2.1 hB.2.2.2.2 hv h1.up h2.up) (fun _ _ => ?_)
  by_cases hk : SchOk x
  · rw [show tv (OkSch x.1 x.2.1 x.2.2.1 x.2.2.2.1 x.2.2.2.2) = true from tv_true hk]
    refine KW.cF rfl rfl (by first | (simp; done) | decide) ?_
    refine KW.ldF 0 hv rfl rfl rfl rfl rfl rfl rfl rfl rfl ?_
    refine KW.callE rfl rfl rfl rfl rfl (l01Group x.1 hG (by have := hk.h1; have := hk.h7; omega) h3.up) (fun _ _ => ?_)
    by_cases hg : Rises 0 (x.1 - 1) g
    · rw [tv_true hg]
      refine KW.cF rfl rfl (by first | (simp; done) | decide) ?_
      exact KW.ret rfl rfl rfl rfl (by unfold codeS; rw [if_pos (tv_true hk), if_pos (tv_true hg)]; rfl)
    · rw [tv_false hg]
      refine KW.cT rfl rfl (by first | (simp; done) | decide) ?_
      exact KW.ret rfl rfl rfl rfl (by unfold codeS; rw [if_pos (tv_true hk), if_neg (by rw [tv_false hg]; decide)]; rfl)
  · rw [show tv (OkSch x.1 x.2.1 x.2.2.1 x.2.2.2.1 x.2.2.2.2) = false from tv_false hk]
    refine KW.cT rfl rfl (by first | (simp; done) | decide) ?_
    exact KW.ret rfl rfl rfl rfl (by unfold codeS; rw [if_neg (by rw [tv_false hk]; decide)]; rfl)
theorem heldCode (x : T_Scheme) (g held : List Int) {a1 c1 a2 c2 a3 c3 a4 c4} (hB : B_Scheme x) (hG : B_Int64S g) (hH : B_Int64S held) (h1 : KI.Sl S H0 (.slice a1 x.2.1.length c1) x.2.1) (h2 : KI.sl.Sl S H0 (.slice a2 x.2.2.2.2.length c2) x.2.2.2.2) (h3 : KI.Sl S H0 (.slice a3 g.length c3) g) (h4 : KI.Sl S H0 (.slice a4 held.length c4) held) :
    Spec Try.prog S H0 116 [.agg #[.int .i64 x.1, .slice a1 x.2.1.length c1, .int .i64 x.2.2.1, .int .i64 x.2.2.2.1, .slice a2 x.2.2.2.2.length c2], .slice a3 g.length c3, .slice a4 held.length c4] (fun v => v = .int .i64 (codeH x g held)) := by
  refine Spec.of1 Try.func116 rfl (by kernel_rfl) rfl (fun H _ => ?_)
  have hG' : g.length ≤ 1048576 := hG
  have hH' : held.length ≤ 1048576 := hH
  refine KW.callE rfl rfl rfl rfl rfl (schemeCode x g hB hG h1.up h2.up h3.up) (fun _ _ => ?_)
  by_cases hs : codeS x g = 0
  · obtain ⟨hk, hg⟩ := codeS_ok hs
    have hk' : OkSch x.1 x.2.1 x.2.2.1 x.2.2.2.1 x.2.2.2.2 := hk
    obtain ⟨q, hq⟩ : ∃ q : Nat, x.1 = q := ⟨x.1.toNat, by have := hk'.h1; omega⟩
    have hq7 := hk'.h7
    rw [hq] at hg
    have hgs := rises_small hg
    have hbt : bitsOf g < 256 := Nat.lt_of_lt_of_le (bitsOf_lt (m := q) (fun x hx => by have := hgs x hx; omega)) (Nat.pow_le_pow_right (by decide) (show q ≤ 8 by omega))
    rw [hs]
    refine KW.tT rfl rfl (by first | (simp; done) | decide) ?_
    refine KW.callE rfl rfl rfl rfl rfl (crowdOf (m := q) (by omega) (by omega) hgs h3.up) (fun _ _ => ?_)
    refine KW.callN1 rfl rfl rfl rfl rfl (rowsHeld x.1 x.2.2.1 x.2.2.2.1 (bitsOf g) (by omega) hB.2.1 hk'.own hk'.h7 h1.up) (fun v HR SR mR _ _ hv => ?_)
    obtain ⟨a5, c5, rfl, hR⟩ := hv
    rw [show rowsP (fun i => (bitsOf g).testBit (x.2.1.getD i 0).toNat) x.2.1.length = rowsG x.2.1 g from rfl]
    by_cases hl : held.length = (rowsG x.2.1 g).length
    · refine KW.tF rfl rfl (by simp [hl]) ?_
      refine KW.callE rfl rfl rfl rfl rfl (areElements x.2.2.1 hB.2.2.1 (by omega) h4.up) (fun _ _ => ?_)
      by_cases he : Elems x.2.2.1 held
      · rw [tv_true (p := PrimeP x.2.2.1 ∧ Elems x.2.2.1 held) ⟨hk'.mat.pr, he⟩]
        refine KW.cF rfl rfl (by first | (simp; done) | decide) ?_
        refine KW.retM1 rfl rfl rfl rfl (fun H1 g => by unfold codeH; rw [if_pos hs, if_pos (tv_true ⟨hl, he⟩)]; rfl)
      · rw [tv_false (p := PrimeP x.2.2.1 ∧ Elems x.2.2.1 held) (fun hc => he hc.2)]
        refine KW.cT rfl rfl (by first | (simp; done) | decide) ?_
        refine KW.retM1 rfl rfl rfl rfl (fun H1 g => by unfold codeH; rw [if_pos hs, if_neg (by rw [tv_false (fun hc => he hc.2)]; decide)]; rfl)
    · refine KW.tT rfl rfl (by simp; omega) ?_
      refine KW.cT rfl rfl (by first | (simp; done) | decide) ?_
      refine KW.retM1 rfl rfl rfl rfl (fun H1 g => by unfold codeH; rw [if_pos hs, if_neg (by rw [tv_false (fun hc => hl hc.1)]; decide)]; rfl)
  · refine KW.tF rfl rfl (by simpa using hs) ?_
    refine KW.cF rfl rfl (by first | (simp; done) | decide) ?_
    exact KW.ret rfl rfl rfl rfl (by unfold codeH; rw [if_neg hs]; rfl)
theorem l04With (x : T_Scheme) (g held : List Int) {id k : Nat} {a1 c1 a2 c2 a3 c3 a4 c4} (hB : B_Scheme x) (hG : B_Int64S g) (hH : B_Int64S held) (hv : Has3 S H0 id k [.int .i64 x.1, .slice a1 x.2.1.length c1, .int .i64 x.2.2.1, .int .i64 x.2.2.2.1, .slice a2 x.2.2.2.2.length c2]) (h1 : KI.Sl S H0 (.slice a1 x.2.1.length c1) x.2.1) (h2 : KI.sl.Sl S H0 (.slice a2 x.2.2.2.2.length c2) x.2.2.2.2) (h3 : KI.Sl S H0 (.slice a3 g.length c3) g) (h4 : KI.Sl S H0 (.slice a4 held.length c4) held) :
    Spec Try.prog S H0 113 [.pointer (some ⟨id, k, none⟩), .slice a3 g.length c3, .slice a4 held.length c4] (fun v => v = .int .i64 (codeH x g held)) := by
  refine Spec.of1 Try.func113 rfl (by kernel_rfl) rfl (fun H _ => ?_)
  have hv := hv.up (S' := Low H.n) (H' := H)
  have hG' : g.length ≤ 1048576 := hG
  have hH' : held.length ≤ 1048576 := hH
  refine KW.callE rfl rfl rfl rfl rfl (l04Asked x g hB hG hv h1.up h2.up h3.up) (fun _ _ => ?_)
  by_cases hs : codeS x g = 0
  · obtain ⟨hk, hg⟩ := codeS_ok hs
    have hk' : OkSch x.1 x.2.1 x.2.2.1 x.2.2.2.1 x.2.2.2.2 := hk
    have hrg := rowsG_spec hk' hg
    have hpr := hk'.mat.pr
    rw [hs]
    refine KW.tT rfl rfl (by first | (simp; done) | decide) ?_
    refine KW.ldF 2 hv rfl rfl rfl rfl rfl rfl rfl rfl rfl ?_
    refine KW.callN1 rfl rfl rfl rfl rfl (l04Held x.1 x.2.2.1 x.2.2.2.1 hB.2.1 hG' hv.up h1.up h3.up) (fun v HR SR mR _ _ hv => ?_)
    obtain ⟨a5, c5, rfl, hR⟩ := hv
    rw [hrg]
    refine KW.callE rfl rfl rfl rfl rfl (l03Row x.2.2.1 (rowsG x.2.1 g).length (by unfold I64; have := hpr.1; have := hpr.2.1; omega) hH h4.up) (fun _ _ => ?_)
    by_cases hl : held.length = (rowsG x.2.1 g).length ∧ Elems x.2.2.1 held
    · rw [show tv ((held.length : Int) = ((rowsG x.2.1 g).length : Nat) ∧ Elems x.2.2.1 held) = true from tv_true ⟨by omega, hl.2⟩]
      refine KW.cF rfl rfl (by first | (simp; done) | decide) ?_
      refine KW.retM1 rfl rfl rfl rfl (fun H1 g => by unfold codeH; rw [if_pos hs, if_pos (tv_true hl)]; rfl)
    · rw [show tv ((held.length : Int) = ((rowsG x.2.1 g).length : Nat) ∧ Elems x.2.2.1 held) = false from tv_false (fun hc => hl ⟨by omega, hc.2⟩)]
      refine KW.cT rfl rfl (by first | (simp; done) | decide) ?_
      refine KW.retM1 rfl rfl rfl rfl (fun H1 g => by unfold codeH; rw [if_pos hs, if_neg (by rw [tv_false hl]; decide)]; rfl)
  · refine KW.tF rfl rfl (by simpa using hs) ?_
    refine KW.cF rfl rfl (by first | (simp; done) | decide) ?_
    exact KW.ret rfl rfl rfl rfl (by unfold codeH; rw [if_neg hs]; rfl)
/-- A product of n factors, held at 20001. -/
def tmN (p : Int) : Nat → Int
  | 0 => 1
  | n + 1 => if tmN p n * p < 20001 then tmN p n * p else 20001
theorem tmN_in {p : Int} (hp : 2 ≤ p ∧ p ≤ 31) : ∀ n, 1 ≤ tmN p n ∧ tmN p n ≤ 20001
  | 0 => by simp [tmN]
  | n + 1 => by
    have h := tmN_in hp n
    have h1 : 1 * 2 ≤ tmN p n * p := Int.mul_le_mul h.1 hp.1 (by omega) (by omega)
    simp only [tmN]
    split <;> omega
theorem Int.one_le_of_pow (p : Int) : ∀ n : Nat, 1 ≤ p → 1 ≤ p ^ n
  | 0, _ => by simp
  | n + 1, h => by
    have h1 := Int.one_le_of_pow p n h
    rw [Int.pow_succ]
    have := Int.mul_le_mul h1 h (by omega) (by omega)
    omega
theorem Int.pow_le_of_le {p : Int} (hp : 2 ≤ p ∧ p ≤ 31) {i c : Nat} (h : i ≤ c) : p ^ i ≤ p ^ c := by
  obtain ⟨d, rfl⟩ : ∃ d, c = i + d := ⟨c - i, by omega⟩
  rw [Int.pow_add]
  have h1 := Int.one_le_of_pow p d (by omega)
  have h2 := Int.one_le_of_pow p i (by omega)
  have := Int.mul_le_mul_of_nonneg_left h1 (show 0 ≤ p ^ i by omega)
  omega
theorem tmN_le {p : Int} (hp : 2 ≤ p ∧ p ≤ 31) : ∀ n, p ^ n ≤ 20000 → tmN p n = p ^ n
  | 0, _ => by simp [tmN]
  | n + 1, h => by
    have h1 : p ^ n ≤ p ^ n * p := by
      have h2 : 0 ≤ p ^ n := Int.pow_nonneg (by omega)
      have := Int.mul_le_mul_of_nonneg_left hp.1 h2
      omega
    rw [Int.pow_succ] at h ⊢
    simp only [tmN]
    rw [tmN_le hp n (by omega), if_pos (by omega)]
theorem tmN_gt {p : Int} (hp : 2 ≤ p ∧ p ≤ 31) : ∀ n, 20000 < p ^ n → 20000 < tmN p n
  | 0, h => by simp at h
  | n + 1, h => by
    simp only [tmN]
    split
    · rcases Int.lt_or_le 20000 (p ^ n) with h1 | h1
      · have h2 := tmN_gt hp n h1
        have := Int.mul_le_mul_of_nonneg_left hp.1 (show 0 ≤ tmN p n by omega)
        omega
      · rw [tmN_le hp n h1, ← Int.pow_succ]
        exact h
    · omega
theorem times (p : Int) (c : Nat) (hp : 2 ≤ p ∧ p ≤ 31) (hn : c ≤ 1000) : Spec Try.prog S H0 118 [.int .i64 p, .int .i64 c, .int .i64 20000] (fun v => v = .int .i64 (tmN p c)) := by
  refine Spec.of1 Try.func118 rfl (by kernel_rfl) rfl (fun H _ => ?_)
  refine KW.lp rfl rfl (fun i : Nat => [(0, .int .i64 p), (2, .int .i64 20000), (7, .int .i64 (tmN p i)), (8, .int .i64 c), (9, .int .i64 i)]) (fun i => i ≤ c) (fun i => c - i) (0) (by omega) ⟨rfl, rfl, rfl, rfl, rfl, trivial⟩ (fun i hi bE n => ?_)
  have ht := tmN_in hp i
  have h2 : tmN p i * p ≤ 20001 * 31 := Int.mul_le_mul ht.2 hp.2 (by omega) (by omega)
  have h3 : 0 ≤ tmN p i * p := Int.mul_nonneg (by omega) (by omega)
  refine KW.cnd rfl rfl (fun k1 => ?_) (fun k1 => ?_)
  · have k1 : (i : Int) < c := k1
    refine KW.nxt rfl rfl (fun H' g => ⟨i + 1, ?_, ?_, ?_, g⟩)
    · omega
    · omega
    · refine ⟨rfl, rfl, ?_, rfl, ?_, trivial⟩
      · refine Eq.trans (b := Value.int .i64 (if IntKind.i64.wrap (tmN p i * p) < 20001 then IntKind.i64.wrap (tmN p i * p) else 20001)) rfl ?_
        rw [wr (by omega) (by omega)]
        rfl
      · exact congrArg (Value.int .i64) (inc64 (by omega))
  · obtain rfl : i = c := by have k1 : ¬ (i : Int) < c := k1; omega
    exact KW.ret rfl rfl rfl rfl (rfl)
theorem l04Cases (p : Int) (c : Nat) (hp : 2 ≤ p ∧ p ≤ 31) (hn : c ≤ 1000) : Spec Try.prog S H0 114 [.int .i64 p, .int .i64 c] (fun v => ∃ r : Int, v = .int .i64 r ∧ 1 ≤ r ∧ (p ^ c ≤ 20000 → r = p ^ c) ∧ (20000 < p ^ c → 20000 < r)) := by
  refine Spec.of1 Try.func114 rfl (by kernel_rfl) rfl (fun H _ => ?_)
  refine KW.lp rfl rfl (fun i : Nat => [(0, .int .i64 p), (1, .int .i64 c), (5, .int .i64 (p ^ i)), (6, .int .i64 i)]) (fun i => i ≤ c ∧ p ^ i ≤ 620000) (fun i => c - i) (0) (⟨by omega, by simp⟩) ⟨rfl, rfl, congrArg (Value.int .i64) (by simp), rfl, trivial⟩ (fun i hi bE n => ?_)
  obtain ⟨hi, hpi⟩ := hi
  have hpos : 1 ≤ p ^ i := Int.one_le_of_pow p i (by omega)
  refine KW.tst rfl rfl (fun k1 => ?_) (fun k1 => ?_)
  · have k1 : (i : Int) < c := k1
    refine KW.cnd rfl rfl (fun k2 => ?_) (fun k2 => ?_)
    · have h3 : p ^ i * p ≤ 20000 * 31 := Int.mul_le_mul k2 hp.2 (by omega) (by omega)
      have h4 : 0 ≤ p ^ i * p := Int.mul_nonneg (by omega) (by omega)
      refine KW.nxt rfl rfl (fun H' g => ⟨i + 1, ⟨by omega, by rw [Int.pow_succ]; omega⟩, by first | omega | (simp only; omega), ⟨rfl, rfl, congrArg (Value.int .i64) (by rw [wr (by omega) (by omega), Int.pow_succ]), congrArg (Value.int .i64) (inc64 (by omega)), trivial⟩, g⟩)
    · exact KW.ret rfl rfl rfl rfl (⟨_, rfl, hpos, fun h => absurd (Int.le_trans (Int.pow_le_of_le hp (by omega)) h) k2, fun _ => by omega⟩)
  · obtain rfl : i = c := by have k1 : ¬ (i : Int) < c := k1; omega
    refine KW.cF rfl rfl (by first | (simp; done) | decide) ?_
    exact KW.ret rfl rfl rfl rfl (⟨_, rfl, hpos, fun _ => rfl, fun h => h⟩)
end
end Go.Proofs.Ytmkpfllbmdahkaa.Am
/- Contracts: rows from a place on; copies in blocks of their own; systems of equations solved by the program. Each holds under its own conditions. -/
set_option linter.unusedVariables false
set_option linter.unusedSimpArgs false
set_option maxRecDepth 20000
namespace Go.Proofs.Ytmkpfllbmdahkaa.Am
open Go Go.RowKit Go.Proofs Go.Proofs.Ytmkpfllbmdahkaa.Pl
theorem fer_all : ((List.range 32).all fun p => (List.range p).all fun a => Nat.beq a 0 || !((List.range p).all fun d => Nat.ble d 1 || !Nat.beq (p % d) 0) || Nat.ble p 1 || ((a : Int) * pw p a (p - 2) - 1) % p == 0) = true := by decide +kernel
theorem fer {p : Int} (h : PrimeP p) : Fer p := by
  obtain ⟨h2, h31, hd⟩ := h
  refine ⟨h2, fun a h0 h1 => ?_⟩
  obtain ⟨q, rfl⟩ : ∃ q : Nat, p = q := ⟨p.toNat, by omega⟩
  obtain ⟨b, rfl⟩ : ∃ b : Nat, a = b := ⟨a.toNat, by omega⟩
  have h3 := List.all_eq_true.1 (List.all_eq_true.1 fer_all q (List.mem_range.2 (by omega))) b (List.mem_range.2 (by omega))
  have h4 : ((List.range q).all fun d => Nat.ble d 1 || !Nat.beq (q % d) 0) = true := by
    refine List.all_eq_true.2 fun d hdm => ?_
    have hdq := List.mem_range.1 hdm
    by_cases hd1 : d ≤ 1
    · rw [Nat.ble_eq_true_of_le hd1]; rfl
    · have h5 := hd d (by omega) (by omega)
      have h6 : Nat.beq (q % d) 0 = false := by
        cases hb : Nat.beq (q % d) 0 with
        | false => rfl
        | true => exact absurd (by have := Nat.eq_of_beq_eq_true hb; omega) h5
      rw [h6]; simp
  rw [h4] at h3
  have hb0 : Nat.beq b 0 = false := by
    cases hb : Nat.beq b 0 with
    | false => rfl
    | true => have := Nat.eq_of_beq_eq_true hb; omega
  have hp1 : Nat.ble q 1 = false := by
    cases hb : Nat.ble q 1 with
    | false => rfl
    | true => have := Nat.le_of_ble_eq_true hb; omega
  rw [hb0, hp1] at h3
  simp only [Bool.not_true, Bool.false_or, beq_iff_eq] at h3
  have e : ((q : Int) - 2).toNat = q - 2 := by omega
  rw [e]
  obtain ⟨k, hk⟩ := Int.dvd_of_emod_eq_zero h3
  exact ⟨k, by omega⟩
section
variable {P : Program} {S : Ids} {H0 : AH} {Q : PostC} {k k1 : List It} {e e1 : Env} {T T1 : List Var} {n n1 : Nat} {l1 r1 : List Nat} {d1 : Tmp}
/-- x[m:] of a list that is not empty. -/
theorem KW.slFrom {o : Oper} {dr : Bool} {t el : TypeId} {x y : Operand} {inf : TypeInfo} {a : Option Addr} {c m : Nat} {kk : IntKind} {xs : List Int} (hs : KI.Sl S H0 (.slice a xs.length c) xs) (hx0 : 0 < xs.length) (hm : m ≤ xs.length) (h : Go1 P k e T n (.op o dr) k1 e1 T1 n1 l1 r1) (hlr : l1 = r1) (ho : o.op = .slice t x (some y) none none) (hd : o.dst = some d1) (hx : ev e1 x = .slice a xs.length c) (hy : ev e1 y = .int kk (m : Nat))
    (hu : P.underlying t = some (.slice el)) (hi : P.info? el = some inf) (he : inf.size = 1) (hk : ∀ a' c', KI.Sl S H0 (.slice a' (xs.drop m).length c') (xs.drop m) → KW P S H0 Q n1 T1 k1 (put1 e1 d1 (.slice a' (xs.drop m).length c'))) : KW P S H0 Q n T k e := by
  rcases hs with ⟨rfl, _⟩ | ⟨id, o0, c1, b, h1, h2, h3, h4, h5, h6⟩
  · simp at hx0
  · cases h1
    have h5 : o0 + xs.length * 1 ≤ b.cells.length := h5
    have ab : abound (.int kk (m : Nat)) xs.length = some m := by simp [abound]; omega
    have hlen : (xs.drop m).length = xs.length - m := List.length_drop
    have hsub : ∀ c', xs.length - m ≤ c' → KI.Sl S H0 (.slice (some ⟨id, o0 + m * 1, some 1⟩) (xs.drop m).length c') (xs.drop m) := fun c' hc' => .inr ⟨id, o0 + m * 1, c', b, rfl, by rw [hlen]; exact hc', h3, h4, by rw [hlen]; show o0 + m * 1 + (xs.length - m) * 1 ≤ _; omega, fun i z hz => by
      rw [List.getElem?_drop] at hz
      have := h6 (m + i) z hz
      rw [show o0 + m * 1 + i * KI.es = o0 + (m + i) * KI.es by show o0 + m * 1 + i * 1 = o0 + (m + i) * 1; omega]
      exact this⟩
    by_cases hm0 : m = 0
    · subst hm0
      refine KW.pure h hlr ho hd rfl _ ?_ (hk (some ⟨id, o0, some 1⟩) c (by simpa using hsub c (by omega)))
      simp only [pop, acut, hu, hx, hi, Option.map, hy, bHi, bLo, ab]
      simp [he]
      rfl
    · by_cases hcm : c = m
      · have hd0 : xs.drop m = [] := List.drop_eq_nil_of_le (by omega)
        refine KW.pure h hlr ho hd rfl _ ?_ (hk (some ⟨id, o0, none⟩) 0 (.inl ⟨hd0, _, 0, by rw [hd0]; rfl, fun h => by cases h⟩))
        simp only [pop, acut, hu, hx, hi, Option.map, hy, bHi, bLo, ab, hd0]
        simp [he, hm0, hcm]
        rfl
      · refine KW.pure h hlr ho hd rfl _ ?_ (hk (some ⟨id, o0 + m * 1, some 1⟩) (c - m) (hsub _ (by omega)))
        simp only [pop, acut, hu, hx, hi, Option.map, hy, bHi, bLo, ab, hlen]
        simp [he, hm0, hcm]
        exact ⟨rfl, Nat.mul_one m, rfl⟩
end
/-- A copy in a block of its own, or nil. -/
def MkB (xs : List Int) (n : Nat) (v : Value) (H1 : AH) : Prop := (xs = [] ∧ v = .slice none 0 0) ∨ ∃ o, v = .slice (some ⟨o, 0, some 1⟩) xs.length xs.length ∧ New n H1.n o ∧ H1.m o = some ⟨2, true, xs.map (Value.int .i64)⟩
section
variable {S : Ids} {H0 : AH}
theorem cloneB {a c} {xs : List Int} (hl : xs.length ≤ 1048576) (hs : KI.Sl S H0 (.slice a xs.length c) xs) : SpecM Try.prog S H0 119 [.slice a xs.length c] (MkB xs) := by
  refine SpecM.of1 Try.func119 rfl (by kernel_rfl) rfl (fun H _ => ?_)
  refine KW.cndB rfl rfl (fun h => ?_) (fun h => ?_)
  · have ha : a = none := by cases a with
      | none => rfl
      | some a => simp at h
    have hx : xs = [] := by
      rcases hs with ⟨hx, _⟩ | ⟨id, k, c1, b, h1, _⟩
      · exact hx
      · rw [ha] at h1; cases h1
    subst hx
    refine KW.retM1 rfl rfl rfl rfl (fun H1 g => .inl ⟨rfl, rfl⟩)
  · refine KW.lit rfl rfl rfl rfl rfl rfl rfl rfl rfl rfl [] rfl rfl (fun v hv => by simp at hv) rfl ?_
    refine KW.appV 0 rfl rfl rfl rfl rfl rfl rfl rfl rfl rfl (fun H1 g => acells_I hs.up g) (by simp) (by simp) (fun v hv => by obtain ⟨_, _, rfl⟩ := List.mem_map.1 hv; rfl) (by show (_ + _) * 8 ≤ _; simp only [List.length_cons, List.length_nil]; omega) (by simp only [List.length_cons, List.length_nil]; omega) (show 0 + xs.length = xs.length from by omega) (fun oa _ _ => ?_)
    refine KW.retM1 rfl rfl rfl rfl (fun H1 g => .inr ⟨_, rfl, ⟨g.ge (H1 := H) (j := 0) rfl, (g.blk (j := 0) rfl).2⟩, (g.blk (j := 0) rfl).1⟩)
end
/-- Rows with their values behind them. -/
def augW (L : List (List Int)) (vals : List Int) : List (List Int) := List.zipWith (fun r v => r ++ [v]) L vals
theorem augW_at {L : List (List Int)} {vals : List Int} {i : Nat} {r : List Int} {v : Int} (h : L[i]? = some r) (h' : vals[i]? = some v) : (augW L vals)[i]? = some (r ++ [v]) := by
  simp [augW, List.getElem?_zipWith, h, h']
theorem augW_len {L : List (List Int)} {vals : List Int} (h : vals.length = L.length) : (augW L vals).length = L.length := by simp [augW, h]
theorem augW_rect {p : Int} {k : Nat} {L : List (List Int)} {vals : List Int} (hL : Rect p k L) (hv : ∀ v ∈ vals, 0 ≤ v ∧ v < p) : Rect p (k + 1) (augW L vals) := fun w hw => by
  obtain ⟨i, hi⟩ := List.getElem?_of_mem hw
  simp only [augW, List.getElem?_zipWith] at hi
  split at hi
  · rename_i r v hr hv'
    simp only [Option.some.injEq] at hi
    subst hi
    have h1 := hL r (List.mem_of_getElem? hr)
    refine ⟨by simp [h1.1], fun x hx => ?_⟩
    rcases List.mem_append.1 hx with h | h
    · exact h1.2 x h
    · rw [List.mem_singleton.1 h]; exact hv v (List.mem_of_getElem? hv')
  · cases hi
/-- Rows in a variable of one's own read as rows. -/
theorem RowsB.slV {S V : Ids} {A H1 : AH} {rows : List (List Int)} {cs : List Value} {T : List Var} {n j o : Nat} {ty : TypeId} (h : RowsB KI.ml S A V rows cs) (g : Good S A T n H1) (hT : T[j]? = some (o, ⟨ty, true, cs⟩)) : KI.sl.Sl (Low H1.n) H1 (.slice (some ⟨o, 0, some 1⟩) rows.length rows.length) rows :=
  (h.ml rfl g hT (X := Low H1.n) (g.blk hT).2 (fun id hid => by have := (g.froz id (h.sub id hid)).1; have := g.n_; show id < _; omega)).to (KLe.row (KLe.refl KI))
end Go.Proofs.Ytmkpfllbmdahkaa.Am
/- Contracts: KernelOf of the program, products of rows in the law. Each holds under its own conditions. -/
set_option linter.unusedVariables false
set_option linter.unusedSimpArgs false
set_option maxRecDepth 20000
set_option maxHeartbeats 4000000
namespace Go.Proofs.Ytmkpfllbmdahkaa.Am
open Go Go.RowKit Go.Proofs Go.Proofs.Ytmkpfllbmdahkaa.Pl
section
variable {S : Ids} {H0 : AH}
theorem a2Dot {p : Int} (hp : 2 ≤ p ∧ p ≤ 31) {k : Nat} {xs ys : List Int} (hx : xs.length = k) (hy : ys.length = k) (hxb : ∀ x ∈ xs, 0 ≤ x ∧ x < p) (hyb : ∀ y ∈ ys, 0 ≤ y ∧ y < p) (hk : k ≤ 1000) {a c a' c'} (hs : KI.Sl S H0 (.slice a xs.length c) xs) (hs' : KI.Sl S H0 (.slice a' ys.length c') ys) :
    Spec Try.prog S H0 43 [.int .i64 p, .slice a xs.length c, .slice a' ys.length c'] (fun v => v = .int .i64 (dF xs 0 ys % p)) := by
  refine Spec.of1 Try.func43 rfl (by kernel_rfl) rfl (fun H _ => ?_)
  refine KW.lp rfl rfl (fun i : Nat => [(0, .int .i64 p), (1, .slice a xs.length c), (2, .slice a' ys.length c'), (7, .int .i64 (dF xs 0 (ys.take i) % p)), (8, .int .i64 i)]) (fun i => i ≤ k) (fun i => k - i) (0) (Nat.zero_le _) ⟨rfl, rfl, rfl, rfl, rfl, trivial⟩ (fun i hi bE n => ?_)
  have hm0 := Int.emod_nonneg (dF xs 0 (ys.take i)) (show p ≠ 0 by omega)
  have hm1 := Int.emod_lt_of_pos (dF xs 0 (ys.take i)) (show 0 < p by omega)
  refine KW.tst rfl rfl (fun k1 => ?_) (fun k1 => ?_)
  · have k1 : (i : Int) < (xs.length : Int) := k1
    refine KW.yes rfl rfl (by omega) ?_
    refine KW.getI hs.up rfl rfl rfl rfl rfl rfl rfl rfl rfl rfl rfl rfl rfl rfl rfl rfl (by omega) (k1) (fun x hx1 => ?_)
    have hx1 : xs[i]? = some x := hx1
    refine KW.getI hs'.up rfl rfl rfl rfl rfl rfl rfl rfl rfl rfl rfl rfl rfl rfl rfl rfl (by omega) (by omega) (fun y hy1 => ?_)
    have hy1 : ys[i]? = some y := hy1
    have xb := hxb x (List.mem_of_getElem? hx1)
    have yb := hyb y (List.mem_of_getElem? hy1)
    have hm := mul_in (x := x) (y := y) (by omega) (by omega)
    have ew : IntKind.i64.wrap (dF xs 0 (ys.take i) % p + IntKind.i64.wrap (x * y)) = dF xs 0 (ys.take i) % p + x * y := by rw [wr (x := x * y) (by omega) (by omega), wr (by omega) (by omega)]
    refine KW.rem rfl rfl rfl rfl rfl rfl (by rw [ew]; omega) (by omega) ?_
    have et : ys.take (i + 1) = ys.take i ++ [y] := by
      obtain ⟨h1, rfl⟩ := List.getElem?_eq_some_iff.1 hy1
      exact List.take_succ_eq_append_getElem h1
    have en : (dF xs 0 (ys.take i) % p + x * y) % p = dF xs 0 (ys.take (i + 1)) % p := by
      rw [et, dF_app]
      show _ = (dF xs 0 (ys.take i) + (xs.getD (0 + (ys.take i).length) 0 * y + 0)) % p
      rw [List.length_take, show 0 + min i ys.length = i by omega, getD_of hx1, Int.add_zero, Int.add_emod, Int.emod_emod, ← Int.add_emod]
    refine KW.nxt rfl rfl (fun H' g => ⟨(i + 1), (by omega), by first | omega | (simp only; omega), ⟨rfl, rfl, rfl, (congrArg (fun z => Value.int .i64 (z % p)) ew |>.trans (congrArg (Value.int .i64) en)), congrArg (Value.int .i64) (inc64 (by omega)), trivial⟩, g⟩)
  · have k1 : ¬ (i : Int) < (xs.length : Int) := k1
    refine KW.cF rfl rfl (by first | (simp; done) | decide) ?_
    exact KW.ret rfl rfl rfl rfl (by rw [List.take_of_length_le (by omega)]; rfl)
theorem prL_prime {p : Int} (h : p ∈ prL) : PrimeP p := by
  unfold prL at h
  simp only [List.mem_cons, List.not_mem_nil, or_false] at h
  have k2 : ∀ d : Nat, d < 31 → 2 ≤ d → (d : Int) < 2 → ¬ (2 : Int) % d = 0 := by decide
  have k3 : ∀ d : Nat, d < 31 → 2 ≤ d → (d : Int) < 3 → ¬ (3 : Int) % d = 0 := by decide
  have k5 : ∀ d : Nat, d < 31 → 2 ≤ d → (d : Int) < 5 → ¬ (5 : Int) % d = 0 := by decide
  have k7 : ∀ d : Nat, d < 31 → 2 ≤ d → (d : Int) < 7 → ¬ (7 : Int) % d = 0 := by decide
  have k11 : ∀ d : Nat, d < 31 → 2 ≤ d → (d : Int) < 11 → ¬ (11 : Int) % d = 0 := by decide
  have k13 : ∀ d : Nat, d < 31 → 2 ≤ d → (d : Int) < 13 → ¬ (13 : Int) % d = 0 := by decide
  have k17 : ∀ d : Nat, d < 31 → 2 ≤ d → (d : Int) < 17 → ¬ (17 : Int) % d = 0 := by decide
  have k31 : ∀ d : Nat, d < 31 → 2 ≤ d → (d : Int) < 31 → ¬ (31 : Int) % d = 0 := by decide
  rcases h with rfl | rfl | rfl | rfl | rfl | rfl | rfl | rfl | rfl | rfl | rfl | rfl <;> refine ⟨by omega, by omega, fun d h1 h2 => ?_⟩
  · exact k2 d (by omega) h1 h2
  · exact k2 d (by omega) h1 h2
  · exact k3 d (by omega) h1 h2
  · exact k3 d (by omega) h1 h2
  · exact k5 d (by omega) h1 h2
  · exact k5 d (by omega) h1 h2
  · exact k7 d (by omega) h1 h2
  · exact k7 d (by omega) h1 h2
  · exact k11 d (by omega) h1 h2
  · exact k13 d (by omega) h1 h2
  · exact k17 d (by omega) h1 h2
  · exact k31 d (by omega) h1 h2
theorem okMat_of {p : Int} (hp : PrimeP p) {k : Nat} (hk : k ≤ 6) {L : List (List Int)} (hl : L.length ≤ 6) (hL : Rect p k L) : OkMat p k L :=
  ⟨hp, by omega, by omega, by omega, fun r hr => ⟨by rw [(hL r hr).1], fun x hx => by have := (hL r hr).2 x hx; omega⟩⟩
theorem specValidMatrix (p c : Int) (hp : I64 p) {a m} {rows : List (List Int)} (hB : B_Int64SS rows) (hs : KI.sl.Sl S H0 (.slice a rows.length m) rows) :
    Spec Try.prog S H0 42 [.agg #[.int .i64 p, .int .i64 c, .slice a rows.length m]] (fun v => v = .bool (tv (OkMat p c rows))) := by
  refine Spec.of1 Try.func42 rfl (by kernel_rfl) rfl (fun H _ => ?_)
  refine KW.callV1 rfl rfl rfl rfl rfl (fun H1 g _ => l03Ok p c hp hB (g.has3 (j := 0) rfl) hs.up) (fun _ _ => ?_)
  exact KW.ret rfl rfl rfl rfl (rfl)
abbrev KerOf (p : Int) (k : Nat) (L : List (List Int)) : List (List Int) := kerL ((ech p L k).1.take (ech p L k).2.length) (ech p L k).2 p k k
theorem matrixOrLimit {p : Int} {k : Nat} {L : List (List Int)} (hB : B_Int64SS L) (hM : OkMat p k L) {a m} (hs : KI.sl.Sl S H0 (.slice a L.length m) L) :
    Spec Try.prog S H0 132 [.agg #[.int .i64 p, .int .i64 k, .slice a L.length m]] (fun v => v = .tuple #[.agg #[.int .i64 p, .int .i64 k, .slice a L.length m], .int .i64 0]) := by
  have h2 := hM.pr
  have hp : I64 p := ⟨by have := h2.1; omega, by have := h2.2.1; omega⟩
  refine Spec.of1 Try.func132 rfl (by kernel_rfl) rfl (fun H _ => ?_)
  refine KW.callE rfl rfl rfl rfl rfl (validMatrix p k hp hB hs.up) (fun _ _ => ?_)
  rw [tv_true hM]
  refine KW.cF rfl rfl (by first | (simp; done) | decide) ?_
  exact KW.ret rfl rfl rfl rfl (rfl)
theorem kernelOf {p : Int} {k : Nat} (hk : k ≤ 6) {L : List (List Int)} (hl : L.length ≤ 6) (hpm : p ∈ prL) (hL : Rect p k L) {a m} (hs : KI.sl.Sl S H0 (.slice a L.length m) L) :
    SpecM Try.prog S H0 41 [.agg #[.int .i64 p, .int .i64 k, .slice a L.length m]] (fun n v H1 => ∃ a1 m1, v = .tuple #[.agg #[.int .i64 p, .int .i64 k, .slice a1 (KerOf p k L).length m1], .int .i64 0] ∧ KI.ml.Ml (New n H1.n) H1 (.slice a1 (KerOf p k L).length m1) (KerOf p k L)) := by
  have hpp := prL_prime hpm
  have hM := okMat_of hpp hk hl hL
  have hp : I64 p := ⟨by have := hpp.1; omega, by have := hpp.2.1; omega⟩
  have hB : B_Int64SS L := rect_sml hL (by omega) (by omega)
  have hKl : (KerOf p k L).length ≤ k := kerL_len k
  have hKR : Rect p k (KerOf p k L) := kerL_rect hpp.1
  have hKB : B_Int64SS (KerOf p k L) := rect_sml hKR (by omega) (by omega)
  refine SpecM.of1 Try.func41 rfl (by kernel_rfl) rfl (fun H _ => ?_)
  refine KW.callE rfl rfl rfl rfl rfl (validMatrix p k hp hB hs.up) (fun _ _ => ?_)
  rw [tv_true hM]
  refine KW.cF rfl rfl (by first | (simp; done) | decide) ?_
  refine KW.callN1 rfl rfl rfl rfl rfl (kernel ⟨hpp.1, hpp.2.1⟩ (by omega) hB hL hs.up) (fun v HC SC mC _ _ hv => ?_)
  obtain ⟨a1, m1, rfl, hC⟩ := hv
  refine KW.callE rfl rfl rfl rfl rfl (matrixOrLimit hKB (okMat_of hpp hk (by omega) hKR) hC.upS) (fun _ _ => ?_)
  refine KW.retM1 rfl rfl rfl rfl (fun H1 g => ?_)
  exact ⟨_, _, rfl, (ml1 (g.keep (ml1' hC))).more (g.inn (H := HC) (fun _ p => by have := p.1; omega))⟩
end
end Go.Proofs.Ytmkpfllbmdahkaa.Am
/- The law FnKernel returns true. No condition beyond the reading of the arguments. -/
set_option linter.unusedVariables false
set_option linter.unusedSimpArgs false
set_option maxRecDepth 20000
set_option maxHeartbeats 4000000
namespace Go.Proofs.Ytmkpfllbmdahkaa.Am
open Go Go.RowKit Go.Proofs Go.Proofs.Ytmkpfllbmdahkaa.Pl
abbrev W_B (x : List Int) : Prop := x.length ≤ 9223372036854775807 ∧ ∀ y ∈ x, 0 ≤ y ∧ y < 256
abbrev K_B : Kn (List Int) := KB.sl
section
variable {S : Ids} {H0 : AH}
theorem a2Long {p0 p1 : Option Addr} {n0 n1 q0 q1 : Nat} : Spec Try.prog S H0 39 [.slice p0 n0 q0, .slice p1 n1 q1] (fun v => ∃ b : Bool, v = .bool b ∧ (b = false → n0 ≤ 3000)) := by
  refine Spec.of1 Try.func39 rfl (by kernel_rfl) rfl (fun H _ => ?_)
  refine KW.tst rfl rfl (fun h => ?_) (fun h => ?_)
  · refine KW.ret rfl rfl rfl rfl ?_
    exact ⟨_, rfl, fun h2 => by cases h2⟩
  · have h : ¬ (n0 : Int) > 3000 := h
    refine KW.ret rfl rfl rfl rfl ?_
    exact ⟨_, rfl, fun _ => by omega⟩
theorem rankK {p : Int} {k : Nat} (hk : k ≤ 6) {L : List (List Int)} (hB : B_Int64SS L) (hM : OkMat p k L) {a m} (hs : KI.sl.Sl S H0 (.slice a L.length m) L) : SpecM Try.prog S H0 18 [.agg #[.int .i64 p, .int .i64 k, .slice a L.length m]] (fun _ v _ => v = .tuple #[.int .i64 ((ech p L k).2.length : Nat), .int .i64 0]) := by
  have hp : I64 p := ⟨by have := hM.pr.1; omega, by have := hM.pr.2.1; omega⟩
  have h := impl_RankOf' (S := S) (H0 := H0) (p := p) (c := (k : Int)) hp hB hs
  simp only [tv_true hM, if_true, rkM, Int.toNat_natCast] at h
  exact h
theorem lawKernel {ar0 ar1 : List Int} {p0 p1 : Option Addr} {q0 q1 : Nat} (hW0 : W_B ar0) (h0 : K_B.R S H0 ar0 [.slice p0 ar0.length q0]) (hW1 : W_B ar1) (h1 : K_B.R S H0 ar1 [.slice p1 ar1.length q1]) : Spec Try.prog S H0 7 [.slice p0 ar0.length q0, .slice p1 ar1.length q1] (fun v => v = .bool true) := by
  have s0 := sl1 h0
  refine Spec.of1 Try.func7 rfl (by kernel_rfl) rfl (fun H _ => ?_)
  refine KW.call rfl rfl rfl rfl rfl (a2Long) (fun v _ _ hv => ?_)
  obtain ⟨b, rfl, hb⟩ := hv
  cases b with
  | true =>
    refine KW.cT rfl rfl (by first | (simp; done) | decide) ?_
    exact KW.ret rfl rfl rfl rfl (rfl)
  | false =>
  have hb := hb rfl
  refine KW.cF rfl rfl (by first | (simp; done) | decide) ?_
  refine KW.callN1 rfl rfl rfl rfl rfl (a2Matrix hW0.2 (by omega) s0.up) (fun v HM SM mM _ _ hv => ?_)
  obtain ⟨p, k, L, hpm, hk, hl, hL, a1, m1, rfl, hml⟩ := hv
  have hpp := prL_prime hpm
  have hf := fer hpp
  have hM := okMat_of hpp hk hl hL
  have hp : I64 p := ⟨by have := hpp.1; omega, by have := hpp.2.1; omega⟩
  have hB : B_Int64SS L := rect_sml hL (by omega) (by omega)
  have hKl : (KerOf p k L).length ≤ k := kerL_len k
  have hKR : Rect p k (KerOf p k L) := kerL_rect hpp.1
  have hKB : B_Int64SS (KerOf p k L) := rect_sml hKR (by omega) (by omega)
  have hKM := okMat_of hpp hk (by omega) hKR
  have hfr := ech_fr hf hL k
  have hown : (ech p (KerOf p k L) k).2.length = (KerOf p k L).length := ker_rank hf (ech_kok hf hL) hfr
  have hsum : (ech p L k).2.length + (KerOf p k L).length = k := by
    have : (KerOf p k L).length = fr (ech p L k).2 k := kerL_fr k
    omega
  have hdot : ∀ r ∈ L, ∀ x ∈ KerOf p k L, dF r 0 x % p = 0 := fun r hr x hx => ker_zero hf hL hr hx
  refine KW.callN1 rfl rfl rfl rfl rfl (kernelOf hk hl hpm hL hml.upS) (fun v HK SK mK _ _ hv => ?_)
  obtain ⟨a2, m2, rfl, hkm⟩ := hv
  generalize hKe : KerOf p k L = K at *
  refine KW.callN1 rfl rfl rfl rfl rfl (rankK hk hB hM hml.upS) (fun v HR SR mR _ _ hv => ?_)
  obtain rfl := hv
  refine KW.callN1 rfl rfl rfl rfl rfl (rankK hk hKB hKM hkm.upS) (fun v HT ST mT _ _ hv => ?_)
  obtain rfl := hv
  rw [hown]
  refine KW.tF rfl rfl (by first | (simp; done) | decide) ?_
  refine KW.tF rfl rfl (by first | (simp; done) | decide) ?_
  refine KW.tF rfl rfl (by first | (simp; done) | decide) ?_
  refine KW.callE rfl rfl rfl rfl rfl (specValidMatrix p k hp hKB hkm.upS) (fun _ _ => ?_)
  rw [tv_true hKM]
  refine KW.tF rfl rfl (by first | (simp; done) | decide) ?_
  refine KW.tF rfl rfl (by first | (simp; done) | decide) ?_
  have es : IntKind.i64.wrap (((ech p L k).2.length : Int) + (K.length : Int)) = (k : Int) := by rw [wr (by omega) (by omega)]; omega
  refine KW.tF rfl rfl (show (!(IntKind.i64.wrap (((ech p L k).2.length : Int) + (K.length : Int)) == (k : Int))) = false by rw [es]; simp) ?_
  refine KW.cF rfl rfl (by first | (simp; done) | decide) ?_
  have sL : KI.sl.Sl ST HT (.slice a1 L.length m1) L := hml.upS
  have sK : KI.sl.Sl ST HT (.slice a2 K.length m2) K := hkm.upS
  refine KW.lp rfl rfl (fun i : Nat => [(5, .pointer (some ⟨HM.n, 0, some 0⟩)), (6, .pointer (some ⟨HK.n, 0, some 1⟩)), (12, .int .i64 i)]) (fun i => i ≤ L.length) (fun i => L.length - i) (0) (Nat.zero_le _) ⟨rfl, rfl, rfl, trivial⟩ (fun i hi bE n => ?_)
  refine KW.cnd rfl rfl (fun k1 => ?_) (fun k1 => ?_)
  · have k1 : (i : Int) < (L.length : Int) := k1
    refine KW.lp rfl rfl (fun x : Nat => [(5, .pointer (some ⟨HM.n, 0, some 0⟩)), (6, .pointer (some ⟨HK.n, 0, some 1⟩)), (12, .int .i64 i), (13, .int .i64 x)]) (fun x => x ≤ K.length) (fun x => K.length - x) (0) (Nat.zero_le _) ⟨rfl, rfl, rfl, rfl, trivial⟩ (fun x hi bE n => ?_)
    refine KW.cnd rfl rfl (fun k2 => ?_) (fun k2 => ?_)
    · have k2 : (x : Int) < (K.length : Int) := k2
      refine KW.getL sL rfl rfl rfl rfl rfl rfl rfl rfl rfl rfl rfl rfl rfl rfl rfl rfl (by omega) (k1) (fun r ar cr hr hsr => ?_)
      have hr : L[i]? = some r := hr
      refine KW.getL sK rfl rfl rfl rfl rfl rfl rfl rfl rfl rfl rfl rfl rfl rfl rfl rfl (by omega) (k2) (fun y ay cy hy hsy => ?_)
      have hy : K[x]? = some y := hy
      have ro := hL.at hr
      have yo := hKR.at hy
      refine KW.callE rfl rfl rfl rfl rfl (a2Dot ⟨hpp.1, hpp.2.1⟩ ro.1 yo.1 ro.2 yo.2 (by omega) hsr hsy) (fun _ _ => ?_)
      rw [hdot r (List.mem_of_getElem? hr) y (List.mem_of_getElem? hy)]
      refine KW.cF rfl rfl (by first | (simp; done) | decide) ?_
      refine KW.nxt rfl rfl (fun H' g => ⟨(x + 1), (by omega), by first | omega | (simp only; omega), ⟨rfl, rfl, rfl, congrArg (Value.int .i64) (inc64 (by omega)), trivial⟩, g⟩)
    · have k2 : ¬ (x : Int) < (K.length : Int) := k2
      refine KW.nxt rfl rfl (fun H' g => ⟨(i + 1), (by omega), by first | omega | (simp only; omega), ⟨rfl, rfl, congrArg (Value.int .i64) (inc64 (by omega)), trivial⟩, g⟩)
  · exact KW.retM rfl rfl rfl rfl (fun id hid => (inferInstance : On (Low H.n) H ST HT).st id hid) (fun H1 g => rfl)
end
end Go.Proofs.Ytmkpfllbmdahkaa.Am
/- A row's closed facts, each by itself. No condition beyond them. -/
namespace Go.Proofs.Ytmkpfllbmdahkaa.Am
open Go
theorem joined_of {P : Program} {f : FuncId} {fn : Func} {s : ChangeSpec} {c : OpenClaim}
    (h0 : (c.wf (OpenSpec.ofChange s)) = true)
    (h1 : (laidOutB P) = true)
    (h2 : (mapsRowed P) = true)
    (h3 : (fn.params.all (P.readableRec ·)) = true)
    (h4 : (namedTie P c.named s.vars) = true)
    (h5 : ((c.stops == [])) = true)
    (h6 : ((P.stops == [])) = true)
    (h7 : ((c.knobs == [])) = true)
    (h8 : ((P.stopKnobs == [])) = true)
    (h9 : ((c.inPlace == P.inPlace f)) = true)
    (h10 : ((c.unfollowed == P.unfollowed f)) = true)
    (h11 : ((c.recurses == P.recurses f)) = true)
    (h12 : ((c.named == P.varsNamed f)) = true)
    (h13 : ((c.maps == (fn.params.toList ++ s.plain.varTypes P).any (P.mapsRec ·))) = true)
    (h14 : ((c.ifaces == (fn.params.toList ++ s.plain.varTypes P).any (P.ifacesRec ·))) = true)
    (h15 : ((c.mapsOut == P.mapsAmong fn.resultTypes.toList)) = true)
    (h16 : ((c.loops == (fn.params.toList ++ s.plain.varTypes P).any (P.loopsFrom ·))) = true)
    (h17 : ((c.wideKeys == (fn.params.toList ++ s.plain.varTypes P ++ fn.resultTypes.toList).any (P.wideKeysFrom ·))) = true)
    (h18 : (s.vars.all (P.varReadable ·)) = true)
    (h19 : (fn.resultTypes.all (fun t => P.readableRec t && decide (t < P.types.size))) = true)
    (h20 : ((c.ifacesOut == fn.resultTypes.toList.any (P.ifacesRec ·))) = true)
    (h21 : ((c.loopsOut == fn.resultTypes.toList.any (P.loopsFrom ·))) = true)
    (h22 : ((c.plainKeys == P.plainKeys)) = true)
    (h23 : (c.shortTexts.isNone) = true)
    (h24 : (P.stopsHeard) = true)
    (h25 : (P.mayEnter) = true)
    (h26 : ((c.lifted == P.liftsFinal)) = true)
    (h27 : ((P.make == some c.make)) = true)
    (h28 : ((c.kinds == (if c.domain.isEmpty then [] else fn.params.toList.map fun t => match P.underlying t with | some (.int k) => some k | _ => none))) = true)
    (h29 : ((c.pinned == c.pinnedBy)) = true)
    (h30 : ((c.veiled == (fn.params.toList ++ s.plain.varTypes P ++ fn.resultTypes.toList).any (P.veiledRec ·))) = true)
    (h31 : (c.veiledFits P fn.params.toList (fn.params.toList ++ s.plain.varTypes P ++ fn.resultTypes.toList)) = true)
    : joinedFacts P f fn s c = true := by
  unfold joinedFacts
  simp only [Bool.and_eq_true]
  exact ⟨⟨⟨⟨⟨⟨⟨⟨⟨⟨⟨⟨⟨⟨⟨⟨⟨⟨⟨⟨⟨⟨⟨⟨⟨⟨⟨⟨⟨⟨⟨h0, h1⟩, h2⟩, h3⟩, h4⟩, h5⟩, h6⟩, h7⟩, h8⟩, h9⟩, h10⟩, h11⟩, h12⟩, h13⟩, h14⟩, h15⟩, h16⟩, h17⟩, h18⟩, h19⟩, h20⟩, h21⟩, h22⟩, h23⟩, h24⟩, h25⟩, h26⟩, h27⟩, h28⟩, h29⟩, h30⟩, h31⟩
end Go.Proofs.Ytmkpfllbmdahkaa.Am
