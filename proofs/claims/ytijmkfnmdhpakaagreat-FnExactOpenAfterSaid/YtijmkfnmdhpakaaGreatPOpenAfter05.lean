/- Contracts and laws on abstract memory, merged. Each holds under its own conditions. -/
import Derived.Test.YtijmkfnmdhpakaaGreatPOpenAfter04
/- Combinations of rows modulo a prime, in plain Lean: a basis that notes of which rows each of its rows is made. Each holds under its own conditions. -/
set_option linter.unusedVariables false
set_option linter.unusedSimpArgs false
namespace Go.Proofs.YtijmkfnmdhpakaaGreat.Pl
def Cg (p a b : Int) : Prop := ∃ k, a = b + p * k
theorem Cg.rfl' {p a : Int} : Cg p a a := ⟨0, by simp⟩
theorem Cg.symm {p a b : Int} (h : Cg p a b) : Cg p b a := by obtain ⟨k, h⟩ := h; exact ⟨-k, by rw [h]; grind⟩
theorem Cg.trans {p a b c : Int} (h : Cg p a b) (h' : Cg p b c) : Cg p a c := by
  obtain ⟨k, h⟩ := h; obtain ⟨j, h'⟩ := h'; exact ⟨k + j, by rw [h, h']; grind⟩
theorem Cg.add {p a b c d : Int} (h : Cg p a b) (h' : Cg p c d) : Cg p (a + c) (b + d) := by
  obtain ⟨k, h⟩ := h; obtain ⟨j, h'⟩ := h'; exact ⟨k + j, by rw [h, h']; grind⟩
theorem Cg.sub {p a b c d : Int} (h : Cg p a b) (h' : Cg p c d) : Cg p (a - c) (b - d) := by
  obtain ⟨k, h⟩ := h; obtain ⟨j, h'⟩ := h'; exact ⟨k - j, by rw [h, h']; grind⟩
theorem Cg.mul {p a b c d : Int} (h : Cg p a b) (h' : Cg p c d) : Cg p (a * c) (b * d) := by
  obtain ⟨k, h⟩ := h; obtain ⟨j, h'⟩ := h'; exact ⟨b * j + k * d + p * k * j, by rw [h, h']; grind⟩
theorem Cg.mod {p a : Int} : Cg p (a % p) a := by obtain ⟨k, h⟩ := mod_eq a p; exact ⟨-k, by rw [h]; grind⟩
theorem Cg.eq {p a b : Int} (h : Cg p a b) (ha : 0 ≤ a ∧ a < p) (hb : 0 ≤ b ∧ b < p) : a = b := by
  obtain ⟨k, h⟩ := h
  have h1 : a % p = b % p := by rw [h, Int.add_mul_emod_self_left]
  rwa [Int.emod_eq_of_lt ha.1 ha.2, Int.emod_eq_of_lt hb.1 hb.2] at h1
theorem Cg.emod {p a b : Int} (h : Cg p a b) : a % p = b % p := by obtain ⟨k, h⟩ := h; rw [h, Int.add_mul_emod_self_left]
theorem Cg.of {p a b : Int} (h : a % p = b % p) : Cg p a b := by
  obtain ⟨k, hk⟩ := mod_eq a p
  obtain ⟨j, hj⟩ := mod_eq b p
  exact ⟨k - j, by rw [hk, hj] at h; grind⟩
/-- The sum of rows, each times an element, at a column. -/
def lcS : List (List Int) → List Int → Nat → Int
  | r :: L, c :: cs, j => c * r.getD j 0 + lcS L cs j
  | _, _, _ => 0
theorem dF_lc {j : Nat} : ∀ (L : List (List Int)) (cs pre : List Int), L.length = cs.length → dF (pre ++ L.map (fun r => r.getD j 0)) pre.length cs = lcS L cs j
  | [], [], _, _ => rfl
  | r :: L, c :: cs, pre, h => by
    have ih := dF_lc (j := j) L cs (pre ++ [r.getD j 0]) (by simpa using h)
    simp only [List.length_append, List.length_cons, List.length_nil, Nat.zero_add, List.append_assoc, List.cons_append, List.nil_append] at ih
    simp only [dF, lcS, List.map_cons]
    rw [ih]
    congr 1
    rw [List.getD_eq_getElem?_getD, List.getElem?_append_right (Nat.le_refl _), Nat.sub_self]
    simp only [List.getElem?_cons_zero, Option.getD_some]
    exact Int.mul_comm _ _
  | [], _ :: _, _, h => by simp at h
  | _ :: _, [], _, h => by simp at h
theorem lcS_sc {p b : Int} {j : Nat} : ∀ (L : List (List Int)) (cs : List Int), Cg p (lcS L (sc p b cs) j) (b * lcS L cs j)
  | [], _ => by simp only [lcS]; exact ⟨0, by simp⟩
  | _ :: _, [] => by simp only [sc, List.map_nil, lcS]; exact ⟨0, by simp⟩
  | r :: L, c :: cs => by
    have ih := lcS_sc (p := p) (b := b) (j := j) L cs
    simp only [sc, List.map_cons, lcS] at ih ⊢
    refine (((Cg.mod (p := p) (a := c * b)).mul Cg.rfl').add ih).trans ⟨0, by grind⟩
theorem lcS_tk {p s : Int} {j : Nat} : ∀ (L : List (List Int)) (a b : List Int), a.length = b.length → Cg p (lcS L (tk p s a b) j) (lcS L a j - s * lcS L b j)
  | [], _, _, _ => by simp only [lcS]; exact ⟨0, by simp⟩
  | _ :: _, [], [], _ => by simp only [tk, List.zipWith_nil_left, lcS]; exact ⟨0, by simp⟩
  | r :: L, x :: a, y :: b, h => by
    have ih := lcS_tk (p := p) (s := s) (j := j) L a b (by simpa using h)
    simp only [tk, List.zipWith_cons_cons, lcS] at ih ⊢
    refine (((Cg.mod (p := p) (a := x + (p - s) * y)).mul Cg.rfl').add ih).trans ⟨y * r.getD j 0, by grind⟩
  | _ :: _, [], _ :: _, h => by simp at h
  | _ :: _, _ :: _, [], h => by simp at h
theorem lcS_zero {j : Nat} : ∀ (L : List (List Int)) (n : Nat), lcS L (List.replicate n 0) j = 0
  | [], _ => by simp [lcS]
  | _ :: _, 0 => by simp [lcS]
  | r :: L, n + 1 => by simp [lcS, List.replicate_succ, lcS_zero L n]
theorem lcS_unit {j : Nat} : ∀ (L : List (List Int)) (i n : Nat), i < L.length → i < n → lcS L ((List.replicate n 0).set i 1) j = (L.getD i []).getD j 0
  | [], i, _, h, _ => by simp at h
  | r :: L, 0, n + 1, h, hn => by simp [lcS, List.replicate_succ, lcS_zero L n]
  | r :: L, i + 1, n + 1, h, hn => by
    have ih := lcS_unit (j := j) L i n (by simpa using h) (by omega)
    simp only [lcS, List.replicate_succ, List.set_cons_succ, ih]
    simp
/-- The first place whose element is not 0; the length if there is none. -/
def fz (r : List Int) : Nat := r.findIdx (fun a => decide (a ≠ 0))
theorem fz_le {r : List Int} : fz r ≤ r.length := List.findIdx_le_length
theorem fz_at {r : List Int} (h : fz r < r.length) : r.getD (fz r) 0 ≠ 0 := by
  have := List.findIdx_getElem (w := h)
  rw [List.getD_eq_getElem?_getD, List.getElem?_eq_getElem h]
  simpa [fz] using this
theorem fz_zero {r : List Int} (h : fz r = r.length) (j : Nat) : r.getD j 0 = 0 := by
  rcases Nat.lt_or_ge j r.length with hj | hj
  · have := List.not_of_lt_findIdx (p := fun a : Int => decide (a ≠ 0)) (xs := r) (i := j) (by show j < fz r; omega)
    rw [List.getD_eq_getElem?_getD, List.getElem?_eq_getElem hj]
    simpa using this
  · rw [List.getD_eq_getElem?_getD, List.getElem?_eq_none hj]; rfl
theorem fz_of_zero {r : List Int} (h : ∀ j, r.getD j 0 = 0) : fz r = r.length := by
  have := fz_le (r := r)
  rcases Nat.lt_or_ge (fz r) r.length with hj | hj
  · exact absurd (h _) (fz_at hj)
  · omega
abbrev PrT := List Int × List Int
/-- A row of the basis is taken off. -/
def stp (p : Int) (x b : PrT) : PrT := if x.1.getD (fz b.1) 0 ≠ 0 then (tk p (x.1.getD (fz b.1) 0) x.1 b.1, tk p (x.1.getD (fz b.1) 0) x.2 b.2) else x
def less (p : Int) (B : List PrT) (x : PrT) : PrT := B.foldl (stp p) x
/-- The row times the inverse of its first element. -/
def nrm (p : Int) (x : PrT) : PrT := (sc p (pw p (x.1.getD (fz x.1) 0) (p - 2).toNat) x.1, sc p (pw p (x.1.getD (fz x.1) 0) (p - 2).toNat) x.2)
def unitR (n i : Nat) : List Int := (List.replicate n 0).set i 1
def insR (p : Int) (B : List PrT) (x : PrT) : List PrT := if fz (less p B x).1 < (less p B x).1.length then B ++ [nrm p (less p B x)] else B
def basN (p : Int) (L : List (List Int)) : Nat → List PrT
  | 0 => []
  | m + 1 => insR p (basN p L m) (L.getD m [], unitR L.length m)
def leftC (p : Int) (L : List (List Int)) (t : List Int) : PrT := less p (basN p L L.length) (t, List.replicate L.length 0)
def comb (p : Int) (L : List (List Int)) (t : List Int) : Option (List Int) := if fz (leftC p L t).1 < (leftC p L t).1.length then none else some (sc p (p - 1) (leftC p L t).2)
/-- A pair of lists of elements, so long. -/
def PrOk (p : Int) (k n : Nat) (x : PrT) : Prop := (x.1.length = k ∧ ∀ a ∈ x.1, 0 ≤ a ∧ a < p) ∧ (x.2.length = n ∧ ∀ a ∈ x.2, 0 ≤ a ∧ a < p)
theorem stp_ok {p : Int} {k n : Nat} {x b : PrT} (hp : 0 < p) (hx : PrOk p k n x) (hb : PrOk p k n b) : PrOk p k n (stp p x b) := by
  unfold stp
  split
  · exact ⟨tk_ok hp hx.1.1 hb.1.1, tk_ok hp hx.2.1 hb.2.1⟩
  · exact hx
theorem less_ok {p : Int} {k n : Nat} (hp : 0 < p) : ∀ (B : List PrT) (x : PrT), (∀ b ∈ B, PrOk p k n b) → PrOk p k n x → PrOk p k n (less p B x)
  | [], x, _, hx => hx
  | b :: B, x, hB, hx => less_ok hp B (stp p x b) (fun c hc => hB c (List.mem_cons_of_mem _ hc)) (stp_ok hp hx (hB b List.mem_cons_self))
theorem less_snoc {p : Int} {B : List PrT} {b x : PrT} : less p (B ++ [b]) x = stp p (less p B x) b := by simp [less]
theorem nrm_ok {p : Int} {k n : Nat} {x : PrT} (hp : 0 < p) (hx : PrOk p k n x) : PrOk p k n (nrm p x) := ⟨sc_ok hp hx.1, sc_ok hp hx.2⟩
/-- What a pair says: its row is a target less the rows, so many times. -/
def Say (p : Int) (L : List (List Int)) (τ : Nat → Int) (x : PrT) : Prop := ∀ j, Cg p (lcS L x.2 j) (x.1.getD j 0 - τ j)
theorem tk_cg {p s : Int} {a b : List Int} (h : a.length = b.length) {j : Nat} : Cg p ((tk p s a b).getD j 0) (a.getD j 0 - s * b.getD j 0) := by
  rw [tk_get h]
  exact Cg.mod.trans ⟨b.getD j 0, by grind⟩
theorem stp_say {p : Int} {k n : Nat} {L : List (List Int)} {τ : Nat → Int} {x b : PrT} (hx : PrOk p k n x) (hb : PrOk p k n b) (h : Say p L τ x) (h' : Say p L (fun _ => 0) b) : Say p L τ (stp p x b) := by
  unfold stp
  split
  · intro j
    refine (lcS_tk L _ _ (hx.2.1.trans hb.2.1.symm)).trans (((h j).sub (Cg.rfl'.mul (h' j))).trans ?_)
    refine Cg.trans ⟨0, ?_⟩ ((tk_cg (s := x.1.getD (fz b.1) 0) (hx.1.1.trans hb.1.1.symm) (j := j)).symm.sub Cg.rfl')
    grind
  · exact h
theorem less_say {p : Int} {k n : Nat} {L : List (List Int)} {τ : Nat → Int} (hp : 0 < p) : ∀ (B : List PrT) (x : PrT), (∀ b ∈ B, PrOk p k n b ∧ Say p L (fun _ => 0) b) → PrOk p k n x → Say p L τ x → Say p L τ (less p B x)
  | [], x, _, _, h => h
  | b :: B, x, hB, hx, h => by
    have hb := hB b List.mem_cons_self
    exact less_say hp B (stp p x b) (fun c hc => hB c (List.mem_cons_of_mem _ hc)) (stp_ok hp hx hb.1) (stp_say hx hb.1 h hb.2)
theorem sc_cg {p b : Int} {w : List Int} {j : Nat} : Cg p ((sc p b w).getD j 0) (b * w.getD j 0) := by
  rw [sc_get]
  exact Cg.mod.trans ⟨0, by grind⟩
theorem nrm_say {p : Int} {L : List (List Int)} {x : PrT} (h : Say p L (fun _ => 0) x) : Say p L (fun _ => 0) (nrm p x) := fun j => by
  refine (lcS_sc L x.2).trans (((Cg.rfl' (a := pw p (x.1.getD (fz x.1) 0) (p - 2).toNat)).mul (h j)).trans ?_)
  exact Cg.trans ⟨0, by grind⟩ (sc_cg.symm.sub Cg.rfl')
theorem unitR_ok {p : Int} {n i : Nat} (hp : 2 ≤ p) : (unitR n i).length = n ∧ ∀ a ∈ unitR n i, 0 ≤ a ∧ a < p := by
  refine ⟨by simp [unitR], fun a ha => ?_⟩
  rcases List.mem_or_eq_of_mem_set ha with h | h
  · rw [List.eq_of_mem_replicate h]; omega
  · rw [h]; omega
theorem row_ok {p : Int} {k : Nat} {L : List (List Int)} (hp : 2 ≤ p) (hL : Rect p k L) {m : Nat} (hm : m < L.length) : PrOk p k L.length (L.getD m [], unitR L.length m) := ⟨hL.getD hm, unitR_ok hp⟩
theorem fz_eq {r : List Int} {i : Nat} (hi : r.getD i 0 ≠ 0) (h : ∀ j, j < i → r.getD j 0 = 0) : fz r = i := by
  have hl : i < r.length := by
    rcases Nat.lt_or_ge i r.length with h1 | h1
    · exact h1
    · exact absurd (by rw [List.getD_eq_getElem?_getD, List.getElem?_eq_none h1]; rfl) hi
  have h1 := fz_le (r := r)
  rcases Nat.lt_trichotomy (fz r) i with h2 | h2 | h2
  · exact absurd (h _ h2) (fz_at (by omega))
  · exact h2
  · have := List.not_of_lt_findIdx (p := fun a : Int => decide (a ≠ 0)) (xs := r) (i := i) h2
    rw [List.getD_eq_getElem?_getD, List.getElem?_eq_getElem hl] at hi
    exact absurd (by simpa using this) hi
theorem fz_before {r : List Int} {j : Nat} (h : j < fz r) : r.getD j 0 = 0 := by
  have h1 := fz_le (r := r)
  have := List.not_of_lt_findIdx (p := fun a : Int => decide (a ≠ 0)) (xs := r) (i := j) h
  rw [List.getD_eq_getElem?_getD, List.getElem?_eq_getElem (by omega)]
  simpa using this
theorem el_ok {p : Int} {k : Nat} {r : List Int} (hp : 0 < p) (h : r.length = k ∧ ∀ a ∈ r, 0 ≤ a ∧ a < p) (j : Nat) : 0 ≤ r.getD j 0 ∧ r.getD j 0 < p := by
  rcases Nat.lt_or_ge j r.length with hj | hj
  · rw [List.getD_eq_getElem?_getD, List.getElem?_eq_getElem hj]
    exact h.2 _ (List.getElem_mem hj)
  · rw [List.getD_eq_getElem?_getD, List.getElem?_eq_none hj]
    exact ⟨Int.le_refl 0, hp⟩
theorem nrm_one {p : Int} {k n : Nat} {x : PrT} (hf : Fer p) (hx : PrOk p k n x) (h : fz x.1 < x.1.length) : (nrm p x).1.getD (fz x.1) 0 = 1 := by
  have hp := hf.1
  have h0 := fz_at h
  have h1 := el_ok (by omega) hx.1 (fz x.1)
  obtain ⟨q, hq⟩ := hf.2 (x.1.getD (fz x.1) 0) (by omega) h1.2
  show (sc _ _ _).getD _ 0 = 1
  rw [sc_get, hq, Int.add_mul_emod_self_left]
  exact Int.emod_eq_of_lt (by omega) (by omega)
theorem nrm_fz {p : Int} {k n : Nat} {x : PrT} (hf : Fer p) (hx : PrOk p k n x) (h : fz x.1 < x.1.length) : fz (nrm p x).1 = fz x.1 := by
  refine fz_eq (by rw [nrm_one hf hx h]; decide) fun j hj => ?_
  show (sc _ _ _).getD _ 0 = 0
  rw [sc_get, fz_before hj, Int.zero_mul, Int.zero_emod]
theorem basN_ok {p : Int} {k : Nat} {L : List (List Int)} (hf : Fer p) (hL : Rect p k L) : ∀ m, m ≤ L.length → ∀ b ∈ basN p L m, (PrOk p k L.length b ∧ fz b.1 < k) ∧ Say p L (fun _ => 0) b
  | 0, _ => fun b hb => by simp [basN] at hb
  | m + 1, hm => fun b hb => by
    have hp := hf.1
    have ih := basN_ok hf hL m (by omega)
    have hr := row_ok hp hL (by omega : m < L.length)
    have hl := less_ok (by omega : 0 < p) (basN p L m) _ (fun b hb => (ih b hb).1.1) hr
    have hs : Say p L (fun _ => 0) (L.getD m [], unitR L.length m) := fun j => ⟨0, by
      show lcS L (unitR L.length m) j = _
      rw [unitR, lcS_unit L m _ (by omega) (by omega)]; simp⟩
    have hy := less_say (by omega : 0 < p) (basN p L m) _ (fun b hb => ⟨(ih b hb).1.1, (ih b hb).2⟩) hr hs
    simp only [basN, insR] at hb
    split at hb
    · rename_i h
      rcases List.mem_append.1 hb with hb | hb
      · exact ih b hb
      · rw [List.mem_singleton.1 hb]
        refine ⟨⟨nrm_ok (by omega) hl, ?_⟩, nrm_say hy⟩
        rw [nrm_fz hf hl h]
        have := hl.1.1
        omega
    · exact ih b hb
theorem basN_len {p : Int} {L : List (List Int)} : ∀ m, (basN p L m).length ≤ m
  | 0 => Nat.le_refl _
  | m + 1 => by
    have := basN_len (p := p) (L := L) m
    simp only [basN, insR]
    split
    · simp; omega
    · omega
theorem zero_ok {p : Int} {n : Nat} (hp : 0 < p) : (List.replicate n (0 : Int)).length = n ∧ ∀ a ∈ List.replicate n (0 : Int), 0 ≤ a ∧ a < p := ⟨by simp, fun a ha => by rw [List.eq_of_mem_replicate ha]; exact ⟨Int.le_refl 0, hp⟩⟩
theorem leftC_ok {p : Int} {k : Nat} {L : List (List Int)} {t : List Int} (hf : Fer p) (hL : Rect p k L) (ht : t.length = k ∧ ∀ a ∈ t, 0 ≤ a ∧ a < p) : PrOk p k L.length (leftC p L t) := by
  have hp := hf.1
  exact less_ok (by omega) _ _ (fun b hb => (basN_ok hf hL _ (Nat.le_refl _) b hb).1.1) ⟨ht, zero_ok (by omega)⟩
/-- What is found makes the target. -/
theorem comb_sound {p : Int} {k : Nat} {L : List (List Int)} {t cs : List Int} (hf : Fer p) (hL : Rect p k L) (ht : t.length = k ∧ ∀ a ∈ t, 0 ≤ a ∧ a < p) (h : comb p L t = some cs) :
    (cs.length = L.length ∧ ∀ a ∈ cs, 0 ≤ a ∧ a < p) ∧ ∀ j, Cg p (lcS L cs j) (t.getD j 0) := by
  have hp := hf.1
  have ok := leftC_ok hf hL ht
  unfold comb at h
  split at h
  · cases h
  · rename_i hz
    obtain rfl := Option.some.inj h
    refine ⟨sc_ok (by omega) ok.2, fun j => ?_⟩
    have hy : Say p L (fun j => t.getD j 0) (leftC p L t) := less_say (by omega) _ _ (fun b hb => ⟨(basN_ok hf hL _ (Nat.le_refl _) b hb).1.1, (basN_ok hf hL _ (Nat.le_refl _) b hb).2⟩) ⟨ht, zero_ok (by omega)⟩ (fun j => ⟨0, by
      show lcS L (List.replicate L.length 0) j = _
      rw [lcS_zero]
      show (0 : Int) = t.getD j 0 - t.getD j 0 + p * 0
      simp⟩)
    have h0 : (leftC p L t).1.getD j 0 = 0 := fz_zero (by have := fz_le (r := (leftC p L t).1); omega) j
    have h1 := hy j
    rw [h0] at h1
    refine (lcS_sc L _).trans ((Cg.rfl'.mul h1).trans ⟨- t.getD j 0, ?_⟩)
    grind
/-- Rows alone. -/
def st1 (p : Int) (b v : List Int) : List Int := if v.getD (fz b) 0 ≠ 0 then tk p (v.getD (fz b) 0) v b else v
def red (p : Int) : List PrT → List Int → List Int
  | [], v => v
  | b :: B, v => red p B (st1 p b.1 v)
theorem red_less {p : Int} : ∀ (B : List PrT) (x : PrT), (less p B x).1 = red p B x.1
  | [], x => rfl
  | b :: B, x => by
    show (less p B (stp p x b)).1 = red p B (st1 p b.1 x.1)
    rw [red_less B]
    congr 1
    unfold stp st1
    split <;> rfl
theorem red_snoc {p : Int} {b : PrT} : ∀ (B : List PrT) (v : List Int), red p (B ++ [b]) v = st1 p b.1 (red p B v)
  | [], v => rfl
  | c :: B, v => red_snoc B (st1 p c.1 v)
theorem st1_cg {p : Int} {b v : List Int} (h : v.length = b.length) (j : Nat) : Cg p ((st1 p b v).getD j 0) (v.getD j 0 - v.getD (fz b) 0 * b.getD j 0) := by
  unfold st1
  split
  · exact tk_cg h
  · rename_i h0
    rw [show v.getD (fz b) 0 = 0 from Decidable.not_not.1 h0]
    exact ⟨0, by simp⟩
theorem st1_ok {p : Int} {k : Nat} {b v : List Int} (hp : 0 < p) (hb : b.length = k) (hv : v.length = k ∧ ∀ a ∈ v, 0 ≤ a ∧ a < p) : (st1 p b v).length = k ∧ ∀ a ∈ st1 p b v, 0 ≤ a ∧ a < p := by
  unfold st1
  split
  · exact tk_ok hp hv.1 hb
  · exact hv
theorem lc_st1 {p : Int} {k : Nat} {b : List Int} (hb : b.length = k) {j : Nat} : ∀ (L : List (List Int)) (c : List Int), (∀ r ∈ L, r.length = k) → Cg p (lcS (L.map (st1 p b)) c j) (lcS L c j - lcS L c (fz b) * b.getD j 0)
  | [], c, _ => by simp only [List.map_nil, lcS]; exact ⟨0, by simp⟩
  | r :: L, [], _ => by simp only [List.map_cons, lcS]; exact ⟨0, by simp⟩
  | r :: L, c :: cs, h => by
    have ih := lc_st1 (p := p) hb (j := j) L cs (fun r hr => h r (List.mem_cons_of_mem _ hr))
    have h1 := st1_cg (p := p) ((h r List.mem_cons_self).trans hb.symm) j
    simp only [List.map_cons, lcS]
    exact ((Cg.rfl'.mul h1).add ih).trans ⟨0, by grind⟩
theorem red_lin {p : Int} {k : Nat} (hp : 0 < p) : ∀ (B : List PrT), (∀ b ∈ B, b.1.length = k) → ∀ (L : List (List Int)) (c v : List Int), Rect p k L → (v.length = k ∧ ∀ a ∈ v, 0 ≤ a ∧ a < p) → (∀ j, Cg p (v.getD j 0) (lcS L c j)) → ∀ j, Cg p ((red p B v).getD j 0) (lcS (L.map (red p B)) c j)
  | [], _, L, c, v, _, _, h => fun j => by
    rw [show L.map (red p []) = L from List.map_id L]
    exact h j
  | b :: B, hB, L, c, v, hL, hv, h => by
    have hb := hB b List.mem_cons_self
    have h1 : ∀ r ∈ L, r.length = k := fun r hr => (hL r hr).1
    have := red_lin hp B (fun c hc => hB c (List.mem_cons_of_mem _ hc)) (L.map (st1 p b.1)) c (st1 p b.1 v) (fun r hr => by
      obtain ⟨q, hq, rfl⟩ := List.mem_map.1 hr
      exact st1_ok hp hb (hL q hq)) (st1_ok hp hb hv) (fun j => by
      refine (st1_cg (hv.1.trans hb.symm) j).trans (((h j).sub ((h (fz b.1)).mul Cg.rfl')).trans ?_)
      exact (lc_st1 hb L c h1).symm)
    rw [List.map_map] at this
    exact this
theorem st1_zero {p : Int} {b v : List Int} (h : ∀ j, v.getD j 0 = 0) : st1 p b v = v := by
  unfold st1
  rw [if_neg (by rw [h]; simp)]
theorem red_zero {p : Int} {k : Nat} {L : List (List Int)} (hf : Fer p) (hL : Rect p k L) : ∀ m, m ≤ L.length → ∀ i, i < m → ∀ j, (red p (basN p L m) (L.getD i [])).getD j 0 = 0
  | 0, _ => fun i hi => by omega
  | m + 1, hm => fun i hi => by
    have hp := hf.1
    have ih := red_zero hf hL m (by omega)
    have ok := basN_ok hf hL m (by omega)
    have hr := row_ok hp hL (by omega : m < L.length)
    have hl := less_ok (by omega : 0 < p) (basN p L m) _ (fun b hb => (ok b hb).1.1) hr
    simp only [basN, insR]
    split
    · rename_i h
      intro j
      rw [red_snoc]
      rcases Nat.lt_or_ge i m with h1 | h1
      · rw [st1_zero (ih i h1)]; exact ih i h1 j
      · obtain rfl : i = m := by omega
        rw [← red_less (x := (L.getD i [], unitR L.length i))]
        obtain ⟨x, hx⟩ : ∃ x, less p (basN p L i) (L.getD i [], unitR L.length i) = x := ⟨_, rfl⟩
        rw [hx] at h hl ⊢
        have h0 := fz_at h
        have e := nrm_fz hf hl h
        have hn := nrm_ok (by omega) hl
        have in1 := st1_ok (by omega : 0 < p) hn.1.1 hl.1
        have el := el_ok (by omega) in1 j
        refine Cg.eq ((st1_cg (hl.1.1.trans hn.1.1.symm) j).trans ?_) el ⟨Int.le_refl 0, by omega⟩
        rw [e]
        have h1 := el_ok (by omega) hl.1 (fz x.1)
        obtain ⟨q, hq⟩ := hf.2 (x.1.getD (fz x.1) 0) (by omega) h1.2
        refine (Cg.rfl'.sub (Cg.rfl'.mul (sc_cg (b := pw p (x.1.getD (fz x.1) 0) (p - 2).toNat)))).trans ⟨-(q * x.1.getD j 0), ?_⟩
        grind
    · rename_i h
      intro j
      rcases Nat.lt_or_ge i m with h1 | h1
      · exact ih i h1 j
      · obtain rfl : i = m := by omega
        rw [← red_less (x := (L.getD i [], unitR L.length i))]
        exact fz_zero (by have := fz_le (r := (less p (basN p L i) (L.getD i [], unitR L.length i)).1); omega) j
theorem lcS_all0 {j : Nat} : ∀ (L : List (List Int)) (c : List Int), (∀ r ∈ L, r.getD j 0 = 0) → lcS L c j = 0
  | [], _, _ => by simp [lcS]
  | _ :: _, [], _ => by simp [lcS]
  | r :: L, c :: cs, h => by
    simp only [lcS]
    rw [h r List.mem_cons_self, lcS_all0 L cs (fun r hr => h r (List.mem_cons_of_mem _ hr))]
    simp
/-- What is made of the rows is found. -/
theorem comb_complete {p : Int} {k : Nat} {L : List (List Int)} {t cs : List Int} (hf : Fer p) (hL : Rect p k L) (ht : t.length = k ∧ ∀ a ∈ t, 0 ≤ a ∧ a < p) (h : ∀ j, Cg p (lcS L cs j) (t.getD j 0)) : comb p L t ≠ none := by
  have hp := hf.1
  have ok := basN_ok hf hL _ (Nat.le_refl L.length)
  have okl := leftC_ok hf hL ht
  have h1 := red_lin (by omega : 0 < p) (basN p L L.length) (fun b hb => (ok b hb).1.1.1.1) L cs t hL ht (fun j => (h j).symm)
  have e : (leftC p L t).1 = red p (basN p L L.length) t := red_less _ _
  have h2 : ∀ j, (leftC p L t).1.getD j 0 = 0 := fun j => by
    refine Cg.eq ?_ (el_ok (by omega) okl.1 j) ⟨Int.le_refl 0, by omega⟩
    rw [e]
    refine (h1 j).trans ?_
    rw [lcS_all0]
    · exact Cg.rfl'
    · intro r hr
      obtain ⟨q, hq, rfl⟩ := List.mem_map.1 hr
      obtain ⟨i, hi, rfl⟩ := List.mem_iff_getElem.1 hq
      have := red_zero hf hL _ (Nat.le_refl L.length) i hi j
      rw [show L.getD i [] = L[i] by rw [List.getD_eq_getElem?_getD, List.getElem?_eq_getElem hi]; rfl] at this
      exact this
  unfold comb
  rw [fz_of_zero h2, if_neg (by omega)]
  exact fun h => by cases h
/-- The sum of products. -/
def dL : List Int → List Int → Int
  | c :: cs, h :: hs => c * h + dL cs hs
  | _, _ => 0
theorem dF_dL : ∀ (cs hs pre : List Int), cs.length = hs.length → dF (pre ++ cs) pre.length hs = dL cs hs
  | [], [], _, _ => rfl
  | c :: cs, h :: hs, pre, e => by
    have ih := dF_dL cs hs (pre ++ [c]) (by simpa using e)
    simp only [List.length_append, List.length_cons, List.length_nil, Nat.zero_add, List.append_assoc, List.cons_append, List.nil_append] at ih
    simp only [dF, dL]
    rw [ih]
    congr 1
    rw [List.getD_eq_getElem?_getD, List.getElem?_append_right (Nat.le_refl _), Nat.sub_self]
    simp only [List.getElem?_cons_zero, Option.getD_some]
  | [], _ :: _, _, e => by simp at e
  | _ :: _, [], _, e => by simp at e
/-- The sum of the values of a function, each times an element. -/
def wS (f : Nat → Int) : Nat → List Int → Int
  | _, [] => 0
  | c, a :: t => f c * a + wS f (c + 1) t
theorem wS_dF {w : List Int} : ∀ (t : List Int) (c : Nat), dF w c t = wS (fun j => w.getD j 0) c t
  | [], _ => rfl
  | a :: t, c => by simp only [dF, wS, wS_dF t (c + 1)]
theorem wS_cg {p : Int} {f g : Nat → Int} (h : ∀ j, Cg p (f j) (g j)) : ∀ (t : List Int) (c : Nat), Cg p (wS f c t) (wS g c t)
  | [], _ => Cg.rfl'
  | a :: t, c => ((h c).mul Cg.rfl').add (wS_cg h t (c + 1))
theorem wS_add {f g : Nat → Int} {a : Int} : ∀ (t : List Int) (c : Nat), wS (fun j => a * f j + g j) c t = a * wS f c t + wS g c t
  | [], _ => by simp [wS]
  | b :: t, c => by simp only [wS, wS_add t (c + 1)]; grind
theorem wS_zero : ∀ (t : List Int) (c : Nat), wS (fun _ => 0) c t = 0
  | [], _ => rfl
  | b :: t, c => by simp only [wS, wS_zero t (c + 1)]; simp
theorem val_lc {p : Int} {x : List Int} : ∀ (L : List (List Int)) (cs held : List Int), L.length = held.length → (∀ (i : Nat) r v, L[i]? = some r → held[i]? = some v → Cg p (dF r 0 x) v) → Cg p (dL cs held) (wS (lcS L cs) 0 x)
  | [], [], _, _, _ => by
    show Cg p 0 (wS (fun _ => 0) 0 x)
    rw [wS_zero]; exact Cg.rfl'
  | [], c :: cs, [], _, _ => by
    show Cg p 0 (wS (fun _ => 0) 0 x)
    rw [wS_zero]; exact Cg.rfl'
  | r :: L, [], _, _, _ => by
    show Cg p 0 (wS (fun _ => 0) 0 x)
    rw [wS_zero]; exact Cg.rfl'
  | r :: L, c :: cs, h :: hs, e, H => by
    have ih := val_lc (p := p) (x := x) L cs hs (by simpa using e) (fun i r v hr hv => H (i + 1) r v (by simpa using hr) (by simpa using hv))
    have h0 := H 0 r h rfl rfl
    show Cg p (c * h + dL cs hs) (wS (fun j => c * r.getD j 0 + lcS L cs j) 0 x)
    rw [wS_add, ← wS_dF]
    exact (Cg.rfl'.mul h0.symm).add ih
  | [], _ :: _, _ :: _, e, _ => by simp at e
  | _ :: _, _ :: _, [], e, _ => by simp at e
/-- Two combinations of the rows that make the same target give the same value where what is held fits. -/
theorem val_same {p : Int} {x t : List Int} {L : List (List Int)} {cs cs' held : List Int} (hl : L.length = held.length) (H : ∀ (i : Nat) r v, L[i]? = some r → held[i]? = some v → Cg p (dF r 0 x) v) (h : ∀ j, Cg p (lcS L cs j) (t.getD j 0)) (h' : ∀ j, Cg p (lcS L cs' j) (t.getD j 0)) (hc : cs.length = held.length) (hc' : cs'.length = held.length) : dF cs 0 held % p = dF cs' 0 held % p := by
  have e1 := dF_dL cs held [] hc
  have e2 := dF_dL cs' held [] hc'
  simp only [List.nil_append, List.length_nil] at e1 e2
  rw [e1, e2]
  refine Cg.emod ?_
  refine (val_lc L cs held hl H).trans (Cg.trans ?_ (val_lc L cs' held hl H).symm)
  exact wS_cg (fun j => (h j).trans (h' j).symm) x 0
end Go.Proofs.YtijmkfnmdhpakaaGreat.Pl
/- Contracts: rows from a place on; copies in blocks of their own; systems of equations solved by the program. Each holds under its own conditions. -/
set_option linter.unusedVariables false
set_option linter.unusedSimpArgs false
set_option maxRecDepth 20000
namespace Go.Proofs.YtijmkfnmdhpakaaGreat.Am
open Go Go.RowKit Go.Proofs Go.Proofs.YtijmkfnmdhpakaaGreat.Pl
theorem fer_all : ((List.range 32).all fun p => (List.range p).all fun a => Nat.beq a 0 || !((List.range p).all fun d => Nat.ble d 1 || !Nat.beq (p % d) 0) || Nat.ble p 1 || ((a : Int) * pw p a (p - 2) - 1) % p == 0) = true := by decide +kernel
theorem fer {p : Int} (h : PrimeP p) : Fer p := by
  obtain ⟨h2, h31, hd⟩ := h
  refine ⟨h2, fun a h0 h1 => ?_⟩
  obtain ⟨q, rfl⟩ : ∃ q : Nat, p = q := ⟨p.toNat, by omega⟩
  obtain ⟨b, rfl⟩ : ∃ b : Nat, a = b := ⟨a.toNat, by omega⟩
  have h3 := List.all_eq_true.1 (List.all_eq_true.1 fer_all q (List.mem_range.2 (by omega))) b (List.mem_range.2 (by omega))
  have h4 : ((List.range q).all fun d => Nat.ble d 1 || !Nat.beq (q % d) 0) = true := by
    refine List.all_eq_true.2 fun d hdm => ?_
    have hdq := List.mem_range.1 hdm
    by_cases hd1 : d ≤ 1
    · rw [Nat.ble_eq_true_of_le hd1]; rfl
    · have h5 := hd d (by omega) (by omega)
      have h6 : Nat.beq (q % d) 0 = false := by
        cases hb : Nat.beq (q % d) 0 with
        | false => rfl
        | true => exact absurd (by have := Nat.eq_of_beq_eq_true hb; omega) h5
      rw [h6]; simp
  rw [h4] at h3
  have hb0 : Nat.beq b 0 = false := by
    cases hb : Nat.beq b 0 with
    | false => rfl
    | true => have := Nat.eq_of_beq_eq_true hb; omega
  have hp1 : Nat.ble q 1 = false := by
    cases hb : Nat.ble q 1 with
    | false => rfl
    | true => have := Nat.le_of_ble_eq_true hb; omega
  rw [hb0, hp1] at h3
  simp only [Bool.not_true, Bool.false_or, beq_iff_eq] at h3
  have e : ((q : Int) - 2).toNat = q - 2 := by omega
  rw [e]
  obtain ⟨k, hk⟩ := Int.dvd_of_emod_eq_zero h3
  exact ⟨k, by omega⟩
section
variable {P : Program} {S : Ids} {H0 : AH} {Q : PostC} {k k1 : List It} {e e1 : Env} {T T1 : List Var} {n n1 : Nat} {l1 r1 : List Nat} {d1 : Tmp}
end
/-- A copy in a block of its own, or nil. -/
def MkB (xs : List Int) (n : Nat) (v : Value) (H1 : AH) : Prop := (xs = [] ∧ v = .slice none 0 0) ∨ ∃ o, v = .slice (some ⟨o, 0, some 1⟩) xs.length xs.length ∧ New n H1.n o ∧ H1.m o = some ⟨2, true, xs.map (Value.int .i64)⟩
section
variable {S : Ids} {H0 : AH}
theorem cloneB {a c} {xs : List Int} (hl : xs.length ≤ 1048576) (hs : KI.Sl S H0 (.slice a xs.length c) xs) : SpecM Tryz.prog S H0 84 [.slice a xs.length c] (MkB xs) := by
  refine SpecM.of1 Tryz.func84 rfl (by kernel_rfl) rfl (fun H _ => ?_)
  refine KW.cndB rfl rfl (fun h => ?_) (fun h => ?_)
  · have ha : a = none := by cases a with
      | none => rfl
      | some a => simp at h
    have hx : xs = [] := by
      rcases hs with ⟨hx, _⟩ | ⟨id, k, c1, b, h1, _⟩
      · exact hx
      · rw [ha] at h1; cases h1
    subst hx
    refine KW.retM1 rfl rfl rfl rfl (fun H1 g => .inl ⟨rfl, rfl⟩)
  · refine KW.lit rfl rfl rfl rfl rfl rfl rfl rfl rfl rfl [] rfl rfl (fun v hv => by simp at hv) rfl ?_
    refine KW.appV 0 rfl rfl rfl rfl rfl rfl rfl rfl rfl rfl (fun H1 g => acells_I hs.up g) (by simp) (by simp) (fun v hv => by obtain ⟨_, _, rfl⟩ := List.mem_map.1 hv; rfl) (by show (_ + _) * 8 ≤ _; simp only [List.length_cons, List.length_nil]; omega) (by simp only [List.length_cons, List.length_nil]; omega) (show 0 + xs.length = xs.length from by omega) (fun oa _ _ => ?_)
    refine KW.retM1 rfl rfl rfl rfl (fun H1 g => .inr ⟨_, rfl, ⟨g.ge (H1 := H) (j := 0) rfl, (g.blk (j := 0) rfl).2⟩, (g.blk (j := 0) rfl).1⟩)
end
/-- Rows with their values behind them. -/
def augW (L : List (List Int)) (vals : List Int) : List (List Int) := List.zipWith (fun r v => r ++ [v]) L vals
theorem augW_at {L : List (List Int)} {vals : List Int} {i : Nat} {r : List Int} {v : Int} (h : L[i]? = some r) (h' : vals[i]? = some v) : (augW L vals)[i]? = some (r ++ [v]) := by
  simp [augW, List.getElem?_zipWith, h, h']
theorem augW_len {L : List (List Int)} {vals : List Int} (h : vals.length = L.length) : (augW L vals).length = L.length := by simp [augW, h]
theorem augW_rect {p : Int} {k : Nat} {L : List (List Int)} {vals : List Int} (hL : Rect p k L) (hv : ∀ v ∈ vals, 0 ≤ v ∧ v < p) : Rect p (k + 1) (augW L vals) := fun w hw => by
  obtain ⟨i, hi⟩ := List.getElem?_of_mem hw
  simp only [augW, List.getElem?_zipWith] at hi
  split at hi
  · rename_i r v hr hv'
    simp only [Option.some.injEq] at hi
    subst hi
    have h1 := hL r (List.mem_of_getElem? hr)
    refine ⟨by simp [h1.1], fun x hx => ?_⟩
    rcases List.mem_append.1 hx with h | h
    · exact h1.2 x h
    · rw [List.mem_singleton.1 h]; exact hv v (List.mem_of_getElem? hv')
  · cases hi
/-- Rows in a variable of one's own read as rows. -/
theorem RowsB.slV {S V : Ids} {A H1 : AH} {rows : List (List Int)} {cs : List Value} {T : List Var} {n j o : Nat} {ty : TypeId} (h : RowsB KI.ml S A V rows cs) (g : Good S A T n H1) (hT : T[j]? = some (o, ⟨ty, true, cs⟩)) : KI.sl.Sl (Low H1.n) H1 (.slice (some ⟨o, 0, some 1⟩) rows.length rows.length) rows :=
  (h.ml rfl g hT (X := Low H1.n) (g.blk hT).2 (fun id hid => by have := (g.froz id (h.sub id hid)).1; have := g.n_; show id < _; omega)).to (KLe.row (KLe.refl KI))
end Go.Proofs.YtijmkfnmdhpakaaGreat.Am
/- Contracts: the first element that is not 0; what a basis takes off a row. Each holds under its own conditions. -/
set_option linter.unusedVariables false
set_option linter.unusedSimpArgs false
set_option maxRecDepth 20000
namespace Go.Proofs.YtijmkfnmdhpakaaGreat.Am
open Go Go.RowKit Go.Proofs Go.Proofs.YtijmkfnmdhpakaaGreat.Pl
section
variable {P : Program} {S : Ids} {H0 : AH} {Q : PostC} {k k1 : List It} {e e1 : Env} {T T1 : List Var} {n n1 : Nat} {l1 r1 : List Nat} {d1 : Tmp}
/-- A call of a writer that sees the caller's variables; it writes none of them. -/
theorem KW.callWV {f : Operand} {xs : Array Operand} {ts : Array TypeId} {g : FuncId} {first cap : Array Value} {o : Oper} {W : Ids} {post : Nat → Value → AH → Prop} (hW : ∀ id, W id → S id) (h : Go1 P k e T n (.op o false) k1 e1 T1 n1 l1 r1) (hlr : l1 = r1) (ho : o.op = .call { callee := .value f, args := xs, argTypes := ts }) (hd : o.dst = some d1) (hf : ev e1 f = .func (.func g) first cap)
    (hs : ∀ H, Good S H0 T1 n1 H → Stp S H0 (Low H.n) H → SpecW P (Low H.n) H W g (cargs e1 first cap xs) post)
    (hk : ∀ v H1 (S' : Ids), n1 ≤ H1.n → StW W S H0 S' H1 → (∀ id, New n1 H1.n id → S' id) → post n1 v H1 → KW P S' H1 Q H1.n T1 k1 (put1 e1 d1 (untag v))) : KW P S H0 Q n T k e := by
  refine KW.go h hlr (fun H gd => ?_)
  replace gd : Good S H0 T1 n1 H := gd
  obtain ⟨m, v, H1, h1, hx1, hx2, hfin, hp⟩ := hs H gd gd.stp H gd.fin (fun id hid => ⟨hid, rfl⟩)
  have hn : H.n = n1 := gd.n_
  have e : untags (first ++ aargs e1 xs ++ cap) = (cargs e1 first cap xs).toArray := by
    apply Array.ext'
    simp [aargs, untags, cargs]
  refine ⟨m, untag v, H1, ?_, ?_⟩
  · rw [ho]
    simp only [evOp, evCall, hf]
    exact ⟨v, rfl, by rw [e]; exact h1, fun h => by cases h⟩
  · rw [hn] at hp
    rw [hd, put1_eq]
    refine hk v H1 (fun id => S id ∨ New n1 H1.n id) (by rw [← hn]; exact hx1) (fun id hid => ⟨.inl hid, fun hw => ?_⟩) (fun id hid => .inr hid) hp H1 ?_
    · obtain ⟨h2, h3⟩ := gd.froz id hid
      rw [hx2 id (by omega) hw, h3]
    · refine ⟨rfl, hfin, fun id hid => ⟨?_, rfl⟩, fun j w hj => ?_, gd.dist⟩
      · rcases hid with hid | hid
        · have := (gd.froz id hid).1; omega
        · exact hid.2
      · obtain ⟨h2, h3, h4⟩ := gd.vars j w hj
        refine ⟨by rw [hx2 _ (by omega) (fun hw => h4 (hW _ hw))]; exact h2, by omega, fun hh => ?_⟩
        rcases hh with hh | hh
        · exact h4 hh
        · have := hh.1; omega
end
section
variable {S : Ids} {H0 : AH}
theorem first1 (a : Int) : Spec Tryz.prog S H0 167 [.int .i64 a] (fun v => v = .bool (!decide (a = 0))) := by
  refine Spec.of1 Tryz.func167 rfl (by kernel_rfl) rfl (fun H _ => ?_)
  exact KW.ret rfl rfl rfl rfl (rfl)
theorem indexFunc0 {a c} {xs : List Int} (hl : xs.length ≤ 4611686018427387904) (hs : KI.Sl S H0 (.slice a xs.length c) xs) :
    Spec Tryz.prog S H0 162 [.slice a xs.length c, .func (.func 167) #[] #[]] (fun v => v = .int .i64 (if fz xs < xs.length then (fz xs : Int) else -1)) := by
  refine Spec.of1 Tryz.func162 rfl (by kernel_rfl) rfl (fun H _ => ?_)
  refine KW.lp rfl rfl (fun i : Nat => [(0, .slice a xs.length c), (1, .func (.func 167) #[] #[]), (7, .int .i64 xs.length), (8, .int .i64 i)]) (fun i => i ≤ xs.length ∧ ∀ j, j < i → xs.getD j 0 = 0) (fun i => xs.length - i) (0) (⟨by omega, fun j h => absurd h (by omega)⟩) ⟨rfl, rfl, rfl, rfl, trivial⟩ (fun i hi bE n => ?_)
  obtain ⟨hi, hj⟩ := hi
  refine KW.cnd rfl rfl (fun h => ?_) (fun h => ?_)
  · refine KW.getI hs.up rfl rfl rfl rfl rfl rfl rfl rfl rfl rfl rfl rfl rfl rfl rfl rfl (by omega) (h) (fun x hx => ?_)
    have hx : xs[i]? = some x := hx
    have hxD : xs.getD i 0 = x := by rw [List.getD_eq_getElem?_getD, hx]; rfl
    refine KW.callE rfl rfl rfl rfl rfl (first1 x) (fun _ _ => ?_)
    refine KW.cndB rfl rfl (fun h2 => ?_) (fun h2 => ?_)
    · have h2 : x ≠ 0 := by simpa using h2
      have e : fz xs = i := fz_eq (by rw [hxD]; exact h2) hj
      exact KW.ret rfl rfl rfl rfl (by rw [e, if_pos (by omega)]; rfl)
    · have h2 : x = 0 := by simpa using h2
      refine KW.nxt rfl rfl (fun H' g => ⟨i + 1, ⟨by omega, fun j hj' => by rcases Nat.lt_or_ge j i with h3 | h3; exact hj j h3; rw [show j = i by omega, hxD]; exact h2⟩, by first | omega | (simp only; omega), ⟨rfl, rfl, rfl, congrArg (Value.int .i64) (inc64 (by omega)), trivial⟩, g⟩)
  · have e : fz xs = xs.length := fz_of_zero fun j => by
      rcases Nat.lt_or_ge j i with h3 | h3
      · exact hj j h3
      · rw [List.getD_eq_getElem?_getD, List.getElem?_eq_none (by omega)]; rfl
    exact KW.ret rfl rfl rfl rfl (by rw [e, if_neg (by omega)]; rfl)
theorem first {a c} {xs : List Int} (hl : xs.length ≤ 4611686018427387904) (hs : KI.Sl S H0 (.slice a xs.length c) xs) :
    Spec Tryz.prog S H0 152 [.slice a xs.length c] (fun v => v = .int .i64 (if fz xs < xs.length then (fz xs : Int) else -1)) := by
  refine Spec.of1 Tryz.func152 rfl (by kernel_rfl) rfl (fun H _ => ?_)
  refine KW.callE rfl rfl rfl rfl rfl (indexFunc0 hl hs.up) (fun _ _ => ?_)
  exact KW.ret rfl rfl rfl rfl (rfl)
end
/-- What stands in blocks that are named apart. -/
def Kn.inX {α : Type} (d : Kn α) (X : Ids) : Kn α where
  es := d.es
  R := fun S A x cs => (∀ id, X id → S id) ∧ d.R X A x cs
  len := fun h => d.len h.2
  same := fun hs h => ⟨h.1, d.same (fun id hid => hs id (h.1 id hid)) h.2⟩
  more := fun hS h => ⟨fun id hid => hS id (h.1 id hid), h.2⟩
theorem Kn.Sl.inX {α : Type} {d : Kn α} {X S : Ids} {A : AH} {s : Value} {xs : List α} (h : d.Sl X A s xs) (hX : ∀ id, X id → S id) : (d.inX X).Sl S A s xs := by
  rcases h with h | ⟨id, k, c, b, e1, e2, e3, e4, e5, e6⟩
  · exact .inl h
  · exact .inr ⟨id, k, c, b, e1, e2, hX id e3, e4, e5, fun i x hx => ⟨hX, e6 i x hx⟩⟩
abbrev K_Prt : Kn PrT := Kn.pair KI.sl KI.sl
theorem form_Prt {S : Ids} {A : AH} {x : PrT} {cs : List Value} (h : K_Prt.R S A x cs) : ∃ a1 c1 a2 c2, cs = [.slice a1 x.1.length c1, .slice a2 x.2.length c2] ∧ KI.Sl S A (.slice a1 x.1.length c1) x.1 ∧ KI.Sl S A (.slice a2 x.2.length c2) x.2 := by
  obtain ⟨e0, d0, rfl, h0, h1⟩ := h
  obtain ⟨a1, c1, rfl⟩ := slform h0
  obtain ⟨a2, c2, rfl⟩ := slform h1
  exact ⟨a1, c1, a2, c2, rfl, sl1 h0, sl1 h1⟩
/-- A round of what a basis takes off. -/
structure LsI (p : Int) (B : List PrT) (x : PrT) (W1 W2 : Ids) (H : AH) (v1 v2 : Value) (i : Nat) (S : Ids) (A : AH) : Prop where
  le : i ≤ B.length
  low : ∀ id, id < H.n → S id ∧ (¬ (W1 id ∨ W2 id) → A.m id = H.m id)
  r1 : KI.Ml W1 A v1 (less p (B.take i) x).1
  r2 : KI.Ml W2 A v2 (less p (B.take i) x).2
structure LsS where
  i : Nat
  S : Ids
  A : AH
section
variable {S : Ids} {H0 : AH}
theorem lessC {p : Int} {k q : Nat} (hp : PrimeP p) (hk : k ≤ 100) (hq : q ≤ 100) {B : List PrT} {x : PrT} (hB : ∀ b ∈ B, PrOk p k q b ∧ fz b.1 < k) (hx : PrOk p k q x) (hBl : B.length ≤ 100)
    {W1 W2 X : Ids} {bid mid : Nat} {a1 c1 a2 c2 ab cb} {mv1 mv2 : Value} (hM : Has3 S H0 mid 0 [.int .i64 p, mv1, mv2]) (hMW : ¬ (W1 mid ∨ W2 mid)) (hb : Has3 S H0 bid 0 [.slice ab B.length cb]) (hbW : ¬ (W1 bid ∨ W2 bid)) (hBs : K_Prt.Sl X H0 (.slice ab B.length cb) B) (hX : ∀ id, X id → S id ∧ ¬ (W1 id ∨ W2 id))
    (hW : ∀ id, W1 id ∨ W2 id → S id) (hd : ∀ id, W1 id → W2 id → False) (h1 : KI.Ml W1 H0 (.slice a1 x.1.length c1) x.1) (h2 : KI.Ml W2 H0 (.slice a2 x.2.length c2) x.2) :
    SpecW Tryz.prog S H0 (fun id => W1 id ∨ W2 id) 151 [.agg #[.slice a1 x.1.length c1, .slice a2 x.2.length c2], .pointer (some ⟨bid, 0, none⟩), .pointer (some ⟨mid, 0, none⟩)]
      (fun _ v H1 => v = .agg #[.slice a1 x.1.length c1, .slice a2 x.2.length c2] ∧ KI.Ml W1 H1 (.slice a1 x.1.length c1) (less p B x).1 ∧ KI.Ml W2 H1 (.slice a2 x.2.length c2) (less p B x).2) := by
  have hp31 : 2 ≤ p ∧ p ≤ 31 := ⟨hp.1, hp.2.1⟩
  have hp0 : 0 < p := by omega
  refine SpecW.of0 Tryz.func151 rfl (by kernel_rfl) rfl (fun H hfin hfz => ?_)
  haveI o : On S H0 (Low H.n) H := ⟨fun id hs => ⟨(hfz id hs).1, (hfz id hs).2⟩⟩
  have hM0 : Has3 (Low H.n) H mid 0 _ := hM.up
  have hb0 : Has3 (Low H.n) H bid 0 _ := hb.up
  have hBs0 : K_Prt.Sl X H (.slice ab B.length cb) B := hBs.same fun id hid => (hfz id (hX id hid).1).2
  have hXl : ∀ id, X id → id < H.n := fun id hid => (hfz id (hX id hid).1).1
  have h10 : KI.Ml W1 H (.slice a1 x.1.length c1) x.1 := Kn.Ml.same (fun id hid => (hfz id (hW id (.inl hid))).2) h1
  have h20 : KI.Ml W2 H (.slice a2 x.2.length c2) x.2 := Kn.Ml.same (fun id hid => (hfz id (hW id (.inr hid))).2) h2
  have hWl : ∀ id, W1 id ∨ W2 id → id < H.n := fun id hid => (hfz id (hW id hid)).1
  have hXW : ∀ id, X id → ¬ (W1 id ∨ W2 id) := fun id hid => (hX id hid).2
  refine KW.ldF 0 hb0 rfl rfl rfl rfl rfl rfl rfl rfl rfl ?_
  refine KW.lpM rfl rfl (fun s : LsS => [(2, .pointer (some ⟨mid, 0, none⟩)), (3, .pointer (some ⟨H.n, 0, some 0⟩)), (4, .pointer (some ⟨H.n + 1, 0, some 1⟩)), (9, .slice ab B.length cb), (10, .int .i64 B.length), (11, .int .i64 s.i)]) (fun s => s.S) (fun s => s.A) (fun s => [(H.n, ⟨191, true, [.slice a1 x.1.length c1, .slice a2 x.2.length c2]⟩), (H.n + 1, ⟨191, true, [.slice none 0 0, .slice none 0 0]⟩)]) (fun s => LsI p B x W1 W2 H (.slice a1 x.1.length c1) (.slice a2 x.2.length c2) s.i s.S s.A) (fun s => B.length - s.i) (⟨0, Low H.n, H⟩) (⟨Nat.zero_le _, fun id h => ⟨h, fun _ => rfl⟩, h10, h20⟩) ⟨rfl, rfl, rfl, rfl, rfl, rfl, trivial⟩ rfl rfl (rfl) (fun s hi bE n => ?_)
  obtain ⟨i, S1, A1⟩ := s
  obtain ⟨ile, low, r1, r2⟩ := hi
  simp only at ile low r1 r2
  have hM1 : Has3 S1 A1 mid 0 [.int .i64 p, mv1, mv2] := by
    obtain ⟨q0, b, q1, q2⟩ := hM0
    exact ⟨(low mid q0).1, b, ((low mid q0).2 hMW).trans q1, q2⟩
  have hBs1 : K_Prt.Sl X A1 (.slice ab B.length cb) B := hBs0.same fun id hid => (low id (hXl id hid)).2 (hXW id hid)
  have hXS : ∀ id, X id → S1 id := fun id hid => (low id (hXl id hid)).1
  have hy : PrOk p k q (less p (B.take i) x) := less_ok hp0 _ _ (fun b hb => (hB b (List.mem_of_mem_take hb)).1) hx
  obtain ⟨y, ey⟩ : ∃ y, less p (B.take i) x = y := ⟨_, rfl⟩
  rw [ey] at r1 r2 hy
  have l1 : x.1.length = y.1.length := hx.1.1.trans hy.1.1.symm
  have l2 : x.2.length = y.2.length := hx.2.1.trans hy.2.1.symm
  rw [l1] at r1 ⊢
  rw [l2] at r2 ⊢
  refine KW.cnd rfl rfl (fun k1 => ?_) (fun k1 => ?_)
  · have k1 : (i : Int) < (B.length : Int) := k1
    refine KW.getS (td := .struct #[]) ((hBs1.inX hXS)) rfl rfl rfl rfl rfl rfl rfl rfl rfl rfl rfl rfl rfl rfl rfl rfl rfl (by omega) (k1) (fun b cy hb1 hRb => ?_)
    have hb1 : B[i]? = some b := hb1
    obtain ⟨b1, e1, b2, e2, rfl, s1, s2⟩ := form_Prt hRb.2
    obtain ⟨bok, bfz⟩ := hB b (List.mem_of_getElem? hb1)
    have et : less p (B.take (i + 1)) x = stp p y b := by
      rw [List.take_add_one, hb1]
      show less p (B.take i ++ [b]) x = _
      rw [less_snoc, ey]
    have hbl := bok.1.1
    have hbl2 := bok.2.1
    have hyl := hy.1.1
    have hyl2 := hy.2.1
    refine KW.callE rfl rfl rfl rfl rfl (first (by omega) (s1.more hXS)) (fun _ _ => ?_)
    rw [if_pos (by omega)]
    have hyk := el_ok hp0 hy.1 (fz b.1)
    refine KW.getI ((r1.sl.more (fun id hid => (low id (hWl id (.inl hid))).1))) rfl rfl rfl rfl rfl rfl rfl rfl rfl rfl rfl rfl rfl rfl rfl rfl (by omega) (by omega) (fun z hz => ?_)
    have hz : y.1[fz b.1]? = some z := hz
    have hzD : y.1.getD (fz b.1) 0 = z := by rw [List.getD_eq_getElem?_getD, hz]; rfl
    rw [hzD] at hyk
    refine KW.cndB rfl rfl (fun k2 => ?_) (fun k2 => ?_)
    · have k2 : z ≠ 0 := by simpa using k2
      have es : stp p y b = (tk p z y.1 b.1, tk p z y.2 b.2) := by
        unfold stp
        rw [hzD, if_pos k2]
      refine KW.getI ((r1.sl.more (fun id hid => (low id (hWl id (.inl hid))).1))) rfl rfl rfl rfl rfl rfl rfl rfl rfl rfl rfl rfl rfl rfl rfl rfl (by omega) (by omega) (fun z2 hz2 => ?_)
      have hz2 : y.1[fz b.1]? = some z2 := hz2
      obtain rfl : z2 = z := by rw [hz] at hz2; exact (Option.some.inj hz2).symm
      refine KW.ldF 0 hM1 rfl rfl rfl rfl rfl rfl rfl rfl rfl ?_
      refine KW.callW (W := W1) (fun id hid => (low id (hWl id (.inl hid))).1) rfl rfl rfl rfl rfl (takeOff (W := W1) (X := X) hp31 hyk (hyl.trans hbl.symm) bok.1.2 (fun id hid => ⟨hXS id hid, fun hh => hXW id hid (.inl hh)⟩) s1 (by omega) hy.1.2 (fun id hid => (low id (hWl id (.inl hid))).1) r1) (fun v A2 S2 m2 t2 w2 hv => ?_)
      have hM2 : Has3 S2 A2 mid 0 [.int .i64 p, mv1, mv2] := by
        obtain ⟨q0, b, q1, q2⟩ := hM1
        exact ⟨(t2 mid q0).1, b, ((t2 mid q0).2 (fun hh => hMW (.inl hh))).trans q1, q2⟩
      have r22 : KI.Ml W2 A2 (.slice a2 y.2.length c2) y.2 := Kn.Ml.same (fun id hid => (t2 id (low id (hWl id (.inr hid))).1).2 (fun hh => hd id hh hid)) r2
      have s22 : KI.Sl X A2 (.slice b2 b.2.length e2) b.2 := s2.same fun id hid => (t2 id (hXS id hid)).2 (fun hh => hXW id hid (.inl hh))
      refine KW.ldF 0 hM2 rfl rfl rfl rfl rfl rfl rfl rfl rfl ?_
      refine KW.callW (W := W2) (fun id hid => (t2 id (low id (hWl id (.inr hid))).1).1) rfl rfl rfl rfl rfl (takeOff (W := W2) (X := X) hp31 hyk (hyl2.trans hbl2.symm) bok.2.2 (fun id hid => ⟨(t2 id (hXS id hid)).1, fun hh => hXW id hid (.inr hh)⟩) s22 (by omega) hy.2.2 (fun id hid => (t2 id (low id (hWl id (.inr hid))).1).1) r22) (fun v3 A3 S3 m3 t3 w3 hv3 => ?_)
      have hv1 : KI.Ml W1 A3 (.slice a1 y.1.length c1) (tk p z2 y.1 b.1) := Kn.Ml.same (fun id hid => (t3 id (t2 id (low id (hWl id (.inl hid))).1).1).2 (fun hh => hd id hid hh)) hv
      refine KW.nxt rfl rfl (fun H' g => ⟨⟨i + 1, S3, A3⟩, ⟨by simp only; omega, fun id hid => ⟨(t3 id (t2 id (low id hid).1).1).1, fun hh => ((t3 id (t2 id (low id hid).1).1).2 (fun h => hh (.inr h))).trans (((t2 id (low id hid).1).2 (fun h => hh (.inl h))).trans ((low id hid).2 hh))⟩, by simp only [et, es]; exact hv1, by simp only [et, es]; exact hv3⟩, by first | omega | (simp only; omega), ⟨rfl, rfl, rfl, rfl, rfl, congrArg (Value.int .i64) (inc64 (by omega)), trivial⟩, g.take 2⟩)
    · have k2 : z = 0 := by simpa using k2
      have es : stp p y b = y := by
        unfold stp
        rw [hzD, if_neg (by rw [k2]; simp)]
      refine KW.nxt rfl rfl (fun H' g => ⟨⟨i + 1, S1, A1⟩, ⟨by simp only; omega, low, by simp only [et, es]; exact r1, by simp only [et, es]; exact r2⟩, by first | omega | (simp only; omega), ⟨rfl, rfl, rfl, rfl, rfl, congrArg (Value.int .i64) (inc64 (by omega)), trivial⟩, g.take 2⟩)
  · have k1 : ¬ (i : Int) < (B.length : Int) := k1
    obtain rfl : i = B.length := by omega
    rw [List.take_length] at ey
    rw [ey]
    refine KW.retW rfl rfl rfl rfl (fun H1 g => by have := (g.vars 1 _ rfl).2.1; have := g.n_; omega) (fun id hid hw => ⟨(low id hid).1, (low id hid).2 hw⟩) (fun H1 g => ⟨rfl, ?_, ?_⟩)
    · exact Kn.Ml.same (fun id hid => (g.froz id (low id (hWl id (.inl hid))).1).2) r1
    · exact Kn.Ml.same (fun id hid => (g.froz id (low id (hWl id (.inr hid))).1).2) r2
end
end Go.Proofs.YtijmkfnmdhpakaaGreat.Am
/- Contract: the program's combination of rows. It holds under its own conditions. -/
set_option linter.unusedVariables false
set_option linter.unusedSimpArgs false
set_option maxRecDepth 20000
namespace Go.Proofs.YtijmkfnmdhpakaaGreat.Am
open Go Go.RowKit Go.Proofs Go.Proofs.YtijmkfnmdhpakaaGreat.Pl
theorem built_Prt (a1 a2 : Option Addr) (n1 c1 n2 c2 : Nat) : Tryz.prog.built 191 [(0, .slice a1 n1 c1), (1, .slice a2 n2 c2)] = some #[.slice a1 n1 c1, .slice a2 n2 c2] := by kernel_rfl
structure CbS where
  i : Nat
  S : Ids
  A : AH
  V : Ids
  o : Nat
  cs : List Value
structure CbI (p : Int) (L : List (List Int)) (H : AH) (s : CbS) : Prop where
  le : s.i ≤ L.length
  old : ∀ id, id < H.n → s.S id ∧ s.A.m id = H.m id
  v : ∀ id, s.V id → s.S id
  len : s.cs.length = (basN p L s.i).length * 2
  cl : Cl K_Prt s.V s.A (basN p L s.i) s.cs
def MkCb (r : Option (List Int)) (n : Nat) (v : Value) (H1 : AH) : Prop :=
  match r with
  | none => v = .tuple #[.slice none 0 0, .bool false]
  | some cs => ∃ a c, v = .tuple #[.slice a cs.length c, .bool true] ∧ KI.Sl (New n H1.n) H1 (.slice a cs.length c) cs
theorem wrM {p : Int} (hp : 2 ≤ p ∧ p ≤ 31) : IntKind.i64.wrap (p - 1) = p - 1 := wr (by omega) (by omega)
section
variable {S : Ids} {H0 : AH}
theorem combination {p : Int} {k : Nat} (hp : PrimeP p) (hk0 : 1 ≤ k) (hk : k ≤ 100) {L : List (List Int)} {t : List Int} (hLl : L.length ≤ 100) (hL : Rect p k L) (ht : t.length = k ∧ ∀ a ∈ t, 0 ≤ a ∧ a < p) {a1 c1 a2 c2} (hs0 : KI.sl.Sl S H0 (.slice a1 L.length c1) L) (ht0 : KI.Sl S H0 (.slice a2 t.length c2) t) :
    SpecM Tryz.prog S H0 130 [.agg #[.int .i64 p, .int .i64 k, .slice a1 L.length c1], .slice a2 t.length c2] (MkCb (comb p L t)) := by
  have hf := fer hp
  have hp31 : 2 ≤ p ∧ p ≤ 31 := ⟨hp.1, hp.2.1⟩
  have hp0 : 0 < p := by omega
  refine SpecM.of1 Tryz.func130 rfl (by kernel_rfl) rfl (fun H _ => ?_)
  have hs := hs0.up (S' := Low H.n) (H' := H)
  have hts := ht0.up (S' := Low H.n) (H' := H)
  have bok := fun m hm => basN_ok hf hL m hm
  refine KW.litS0 rfl rfl rfl rfl rfl rfl rfl rfl rfl rfl ?_
  refine KW.lpM rfl rfl (fun s : CbS => [(1, .slice a2 t.length c2), (2, .pointer (some ⟨H.n, 0, some 0⟩)), (4, .slice none 0 0), (5, .bool false), (6, .pointer (some ⟨H.n + 2, 0, some 2⟩)), (7, .func (.func 151) #[] #[.pointer (some ⟨H.n + 2, 0, some 2⟩), .pointer (some ⟨H.n, 0, some 0⟩)]), (17, .slice a1 L.length c1), (18, .int .i64 L.length), (19, .int .i64 s.i)]) (fun s => s.S) (fun s => s.A) (fun s => [(H.n, ⟨36, true, [.int .i64 p, .int .i64 k, .slice a1 L.length c1]⟩), (s.o, ⟨191, true, s.cs⟩), (H.n + 2, ⟨189, true, [.slice (some ⟨s.o, 0, some 2⟩) (basN p L s.i).length (basN p L s.i).length]⟩)]) (fun s => CbI p L H s) (fun s => L.length - s.i) (⟨0, Low H.n, H, fun _ => False, H.n + 1, []⟩) (⟨Nat.zero_le _, fun id h => ⟨h, rfl⟩, fun _ h => h.elim, rfl, Cl.nil _ _ _ _⟩) ⟨rfl, rfl, rfl, rfl, rfl, rfl, rfl, rfl, rfl, trivial⟩ rfl rfl (rfl) (fun s hi bE n => ?_)
  obtain ⟨i, S1, A1, V, o, cs⟩ := s
  obtain ⟨ile, old, hV, hcl, cl⟩ := hi
  simp only at ile old hV hcl cl
  haveI o1 : On (Low H.n) H S1 A1 := ⟨old⟩
  refine KW.ids (fun hlow hvar => ?_)
  refine KW.fact (p := H.n + 2 < n ∧ o < n ∧ ¬ S1 o ∧ ¬ S1 (H.n + 2)) (fun H1 g => ⟨(g.vars 2 _ rfl).2.1, (g.vars 1 _ rfl).2.1, (g.vars 1 _ rfl).2.2, (g.vars 2 _ rfl).2.2⟩) (fun hf1 => ?_)
  obtain ⟨f1, f2, f3, f4⟩ := hf1
  refine KW.cnd rfl rfl (fun k1 => ?gin) (fun k1 => ?gout)
  case gin =>
    have k1 : (i : Int) < (L.length : Int) := k1
    have bm := bok i ile
    refine KW.getL hs.up rfl rfl rfl rfl rfl rfl rfl rfl rfl rfl rfl rfl rfl rfl rfl rfl (by omega) (k1) (fun y ay cy hy hsy => ?_)
    have hy : L[i]? = some y := hy
    have hym := hL y (List.mem_of_getElem? hy)
    refine KW.callN1 rfl rfl rfl rfl rfl (cloneB (by omega) hsy) (fun v HC SC mC _ _ hv => ?_)
    rcases hv with ⟨hy0, rfl⟩ | ⟨o3, rfl, hno3, hmo3⟩
    · exfalso; rw [hy0] at hym; have := hym.1; simp at this; omega
    have tC := (inferInstance : On S1 A1 SC HC).st
    refine KW.mk1 rfl rfl rfl rfl rfl rfl rfl rfl rfl rfl rfl rfl (L.length) rfl rfl (by omega) (by show 8 * _ ≤ _; omega) ?_
    refine KW.ids (fun hlowC hvarC => ?_)
    have oC : S1 o3 → False := fun h => by have := hlow _ h; have := hno3.1; omega
    have sC3 : SC o3 := (inferInstance : On (New _ HC.n) HC SC HC).st o3 hno3 |>.1
    refine KW.freeze 3 rfl (fun A4 S4 hn4 hS4 st4 hm4 hlt4 hno4 hlow4 => ?_)
    refine KW.build rfl rfl rfl rfl rfl (built_Prt _ _ _ _ _ _) ?_
    refine KW.idx0 rfl rfl rfl rfl rfl rfl rfl rfl rfl (by omega) (by omega) ?_
    refine KW.thaw HC.n ⟨2, true, List.replicate L.length (.int .i64 0)⟩ ((hS4 _).2 (.inr rfl)) hm4 ?_
    refine KW.st1 4 rfl rfl rfl rfl rfl rfl rfl rfl rfl rfl rfl rfl (by simp; omega) ?_
    refine KW.freeze 4 rfl (fun A5 S5 hn5 hS5 st5 hm5 hlt5 hno5 hlow5 => ?_)
    have S45 : ∀ id, S4 id → S5 id ∧ (id ≠ HC.n → A5.m id = A4.m id) := fun id h => by
      by_cases e : id = HC.n
      · exact ⟨(hS5 id).2 (.inr e), fun h => absurd e h⟩
      · exact ⟨(st5.st id ⟨h, e⟩).1, fun _ => (st5.st id ⟨h, e⟩).2⟩
    have SC5 : ∀ id, SC id → S5 id ∧ A5.m id = HC.m id := fun id h => by
      have h1 := st4.st id h
      have h2 := S45 id h1.1
      have : id ≠ HC.n := fun e => hno4 (e ▸ h)
      exact ⟨h2.1, (h2.2 this).trans h1.2⟩
    have S15 : ∀ id, S1 id → S5 id ∧ A5.m id = A1.m id := fun id h => ⟨(SC5 id (tC id h).1).1, (SC5 id (tC id h).1).2.trans (tC id h).2⟩
    have ok5 : Has3 S5 A5 0 0 [] ∨ True := .inr trivial
    have hr1 : KI.Ml (fun id => id = o3) A5 (.slice (some ⟨o3, 0, some 1⟩) y.length y.length) y := row_ml ((SC5 o3 sC3).2.trans hmo3)
    have hun : (List.replicate L.length (Value.int .i64 0)).set (0 + (i : Int).toNat * 1) (.int .i64 1) = (unitR L.length i).map (Value.int .i64) := by
      rw [show 0 + (i : Int).toNat * 1 = i by omega, unitR, List.map_set, List.map_replicate]
    have hm5' : A5.m HC.n = some ⟨2, true, (unitR L.length i).map (Value.int .i64)⟩ := hm5.trans (congrArg (fun z => some (⟨2, true, z⟩ : Blk)) hun)
    have hul : (unitR L.length i).length = L.length := by simp [unitR]
    have hr2 : KI.Ml (fun id => id = HC.n) A5 (.slice (some ⟨HC.n, 0, some 1⟩) (unitR L.length i).length L.length) (unitR L.length i) := by
      have := row_ml (A := A5) (o := HC.n) (ty := 2) (xs := unitR L.length i) hm5'
      rw [hul] at this ⊢
      exact this
    have hx := row_ok hp31.1 hL (by omega : i < L.length)
    rw [show L.getD i [] = y by rw [List.getD_eq_getElem?_getD, hy]; rfl] at hx
    have no3 : n ≤ o3 := hno3.1
    have no4 : n ≤ HC.n := mC
    refine KW.callWV (W := fun id => id = o3 ∨ id = HC.n) (post := fun _ v H1 => v = .agg #[.slice (some ⟨o3, 0, some 1⟩) y.length y.length, .slice (some ⟨HC.n, 0, some 1⟩) L.length L.length] ∧ KI.Ml (fun id => id = o3) H1 (.slice (some ⟨o3, 0, some 1⟩) y.length y.length) (less p (basN p L i) (y, unitR L.length i)).1 ∧ KI.Ml (fun id => id = HC.n) H1 (.slice (some ⟨HC.n, 0, some 1⟩) L.length L.length) (less p (basN p L i) (y, unitR L.length i)).2) (fun id h => by rcases h with h | h; rw [h]; exact (SC5 o3 sC3).1; rw [h]; exact (hS5 _).2 (.inr rfl)) rfl rfl rfl rfl rfl (fun H6 g st6 => ?gc) (fun v A6 S6 m6 t6 w6 hv6 => ?_)
    case gc =>
      have hM := g.has (j := 0) rfl rfl
      have hb := g.has (j := 2) rfl rfl
      have hlit := g.blk (j := 1) rfl
      have z6 : ∀ id, S5 id → id < H6.n ∧ H6.m id = A5.m id := fun id h => by have h1 := g.froz id h; have := g.n_; exact ⟨by omega, h1.2⟩
      have clX : K_Prt.Sl (fun id => id = o ∨ V id) H6 (.slice (some ⟨o, 0, some 2⟩) (basN p L i).length (basN p L i).length) (basN p L i) :=
        (cl.mv (X' := fun id => V id) (A' := H6) (fun id h => ((z6 id (S15 id (hV id h)).1).2).trans (S15 id (hV id h)).2) (fun _ h => h)).sl (.inl rfl) hlit.1 rfl (fun id h => .inr h) (Nat.le_refl _)
      have key := lessC (S := Low H6.n) (H0 := H6) (a1 := some ⟨o3, 0, some 1⟩) (c1 := y.length) (a2 := some ⟨HC.n, 0, some 1⟩) (c2 := L.length) (x := (y, unitR L.length i)) (W1 := fun id => id = o3) (W2 := fun id => id = HC.n) (X := fun id => id = o ∨ V id) hp hk hLl (fun b hb => (bm b hb).1) hx (by have := basN_len (p := p) (L := L) i; omega) hM (by omega) hb (by omega) clX (fun id h => ⟨by
        rcases h with h | h
        · rw [h]; exact hlit.2
        · exact (z6 id (S15 id (hV id h)).1).1, fun hh => by
        rcases h with h | h
        · omega
        · have := hlow id (hV id h); omega⟩) (fun id h => by
          rcases h with h | h
          · rw [h]; exact (z6 o3 (SC5 o3 sC3).1).1
          · rw [h]; exact (z6 _ ((hS5 _).2 (.inr rfl))).1) (fun id h h' => by have e1 : id = o3 := h; have e2 : id = HC.n := h'; have := hno3.2; omega) (Kn.Ml.same (fun id h => by rw [h]; exact (z6 o3 (SC5 o3 sC3).1).2) hr1) (Kn.Ml.same (fun id h => by rw [h]; exact (z6 _ ((hS5 _).2 (.inr rfl))).2) hr2)
      simp only [hul] at key
      exact key
    obtain ⟨rfl, w1, w2⟩ := hv6
    obtain ⟨z, ez⟩ : ∃ z, less p (basN p L i) (y, unitR L.length i) = z := ⟨_, rfl⟩
    have hz : PrOk p k L.length z := by rw [← ez]; exact less_ok hp0 _ _ (fun b hb => (bm b hb).1.1) hx
    have eB : basN p L (i + 1) = if fz z.1 < z.1.length then basN p L i ++ [nrm p z] else basN p L i := by
      show insR p (basN p L i) (L.getD i [], unitR L.length i) = _
      rw [show L.getD i [] = y by rw [List.getD_eq_getElem?_getD, hy]; rfl]
      unfold insR
      rw [ez]
    rw [ez] at w1 w2
    have l1 : y.length = z.1.length := hym.1.trans hz.1.1.symm
    have l2 : L.length = z.2.length := hz.2.1.symm
    have s3 : S6 o3 := (t6 o3 (SC5 o3 sC3).1).1
    have s4 : S6 HC.n := (t6 HC.n ((hS5 _).2 (.inr rfl))).1
    have S56 : ∀ id, S5 id → id ≠ o3 → id ≠ HC.n → A6.m id = A5.m id := fun id h e1 e2 => (t6 id h).2 (fun hh => hh.elim e1 e2)
    have S16 : ∀ id, S1 id → S6 id ∧ A6.m id = A1.m id := fun id h => by
      have h1 := hlow id h
      have h2 := S15 id h
      exact ⟨(t6 id h2.1).1, (S56 id h2.1 (by omega) (by omega)).trans h2.2⟩
    have old6 : ∀ id, id < H.n → S6 id ∧ A6.m id = H.m id := fun id h => ⟨(S16 id (old id h).1).1, (S16 id (old id h).1).2.trans (old id h).2⟩
    have sl1' : KI.Sl S6 A6 (.slice (some ⟨o3, 0, some 1⟩) y.length y.length) z.1 := w1.sl.more (fun id h => by rw [h]; exact s3)
    have hz1l := hz.1.1
    have hz2l := hz.2.1
    by_cases hfz : fz z.1 < z.1.length
    · rw [if_pos hfz] at eB
      have key := first (S := S6) (H0 := A6) (xs := z.1) (a := some ⟨o3, 0, some 1⟩) (c := y.length) (by omega) (by rw [← l1]; exact sl1')
      rw [if_pos hfz, ← l1] at key
      refine KW.callE rfl rfl rfl rfl rfl (key) (fun _ _ => ?_)
      refine KW.yes rfl rfl (by omega) ?_
      refine KW.getI sl1' rfl rfl rfl rfl rfl rfl rfl rfl rfl rfl rfl rfl rfl rfl rfl rfl (by omega) (by omega) (fun z0 hz0 => ?_)
      have hz0 : z.1[fz z.1]? = some z0 := hz0
      have hz0D : z.1.getD (fz z.1) 0 = z0 := by rw [List.getD_eq_getElem?_getD, hz0]; rfl
      have hin := el_ok hp0 hz.1 (fz z.1)
      rw [hz0D] at hin
      refine KW.callE rfl rfl rfl rfl rfl (inverse p z0 hp31 hin) (fun _ _ => ?_)
      have hpw := pw_ok hp31.1 (p := p) (a := z0) (p - 2).toNat
      have k2 := scaled (S := S6) (H0 := A6) (W := fun id => id = o3) (p := p) (b := pw p z0 (p - 2).toNat) hp31 hpw (a := some ⟨o3, 0, some 1⟩) (c := y.length) (xs := z.1) (by omega) hz.1.2 (fun id h => by rw [h]; exact s3) (by rw [← l1]; exact w1)
      rw [← l1] at k2
      refine KW.callW (W := fun id => id = o3) (fun id h => by rw [h]; exact s3) rfl rfl rfl rfl rfl k2 (fun v A7 S7 m7 t7 w7 hv7 => ?_)
      have w27 : KI.Ml (fun id => id = HC.n) A7 (.slice (some ⟨HC.n, 0, some 1⟩) L.length L.length) z.2 := Kn.Ml.same (fun id h => by rw [h]; exact (t7 _ s4).2 (fun hh => by have e1 : HC.n = o3 := hh; have := hno3.2; omega)) w2
      have s47 : S7 HC.n := (t7 _ s4).1
      have k3 := scaled (S := S7) (H0 := A7) (W := fun id => id = HC.n) (p := p) (b := pw p z0 (p - 2).toNat) hp31 hpw (a := some ⟨HC.n, 0, some 1⟩) (c := L.length) (xs := z.2) (by omega) hz.2.2 (fun id h => by rw [h]; exact s47) (by rw [← l2]; exact w27)
      rw [← l2] at k3
      refine KW.callW (W := fun id => id = HC.n) (fun id h => by rw [h]; exact s47) rfl rfl rfl rfl rfl k3 (fun v8 A8 S8 m8 t8 w8 hv8 => ?_)
      have S18 : ∀ id, S1 id → S8 id ∧ A8.m id = A1.m id := fun id h => by
        have h1 := hlow id h
        have h2 := S16 id h
        have h3 := t7 id h2.1
        have h4 := t8 id h3.1
        exact ⟨h4.1, (h4.2 (fun hh => by have e1 : id = HC.n := hh; omega)).trans ((h3.2 (fun hh => by have e1 : id = o3 := hh; omega)).trans h2.2)⟩
      have hv78 : KI.Ml (fun id => id = o3) A8 (.slice (some ⟨o3, 0, some 1⟩) y.length y.length) (nrm p z).1 := by
        have e : (nrm p z).1 = sc p (pw p z0 (p - 2).toNat) z.1 := by rw [← hz0D]; rfl
        rw [e]
        exact Kn.Ml.same (fun id h => by rw [h]; exact (t8 _ (t7 _ s3).1).2 (fun hh => by have e1 : o3 = HC.n := hh; have := hno3.2; omega)) hv7
      have hv88 : KI.Ml (fun id => id = HC.n) A8 (.slice (some ⟨HC.n, 0, some 1⟩) L.length L.length) (nrm p z).2 := by
        have e : (nrm p z).2 = sc p (pw p z0 (p - 2).toNat) z.2 := by rw [← hz0D]; rfl
        rw [e]
        exact hv8
      have hRn : K_Prt.R (fun id => id = o3 ∨ id = HC.n) A8 (nrm p z) [.slice (some ⟨o3, 0, some 1⟩) y.length y.length, .slice (some ⟨HC.n, 0, some 1⟩) L.length L.length] :=
        ⟨[.slice (some ⟨o3, 0, some 1⟩) y.length y.length], _, rfl, ⟨_, rfl, hv78.sl.more (fun id h => .inl h)⟩, ⟨_, rfl, hv88.sl.more (fun id h => .inr h)⟩⟩
      refine KW.litS1 rfl rfl rfl rfl rfl rfl rfl rfl rfl rfl rfl rfl ?_
      have hbl := basN_len (p := p) (L := L) i
      refine KW.appTS (m := 1) (ys := [.slice (some ⟨o3, 0, some 1⟩) y.length y.length, .slice (some ⟨HC.n, 0, some 1⟩) L.length L.length]) 1 rfl rfl rfl rfl rfl rfl rfl rfl (by decide) rfl (fun H1 g => acells_seg (g.blk (j := 4) rfl).1 (by show 0 + 1 * 2 ≤ 2; decide)) (by show 0 + (basN p L i).length * 2 ≤ cs.length; omega) rfl (by decide) (by show ((basN p L i).length + 1) * 48 ≤ _; omega) (by show (basN p L i).length + 1 ≤ _; omega) ?_
      have cl8 : Cl K_Prt (fun id => V id ∨ (id = o3 ∨ id = HC.n)) A8 (basN p L i) cs := cl.mv (fun id h => (S18 id (hV id h)).2) (fun id h => .inl h)
      have cl9 := cl8.snoc (y := nrm p z) (K_Prt.more (fun id h => .inr h) hRn)
      have inv9 : ∀ o9, CbI p L H ⟨i + 1, S8, A8, fun id => V id ∨ (id = o3 ∨ id = HC.n), o9, (cs.drop 0).take ((basN p L i).length * 2) ++ [.slice (some ⟨o3, 0, some 1⟩) y.length y.length, .slice (some ⟨HC.n, 0, some 1⟩) L.length L.length]⟩ := fun o9 => by
        refine ⟨by simp only; omega, fun id h => ⟨(S18 id (old id h).1).1, (S18 id (old id h).1).2.trans (old id h).2⟩, fun id h => ?_, ?_, ?_⟩
        · rcases h with h | h | h
          · exact (S18 id (hV id h)).1
          · rw [h]; exact (t8 _ (t7 _ s3).1).1
          · rw [h]; exact (t8 _ s47).1
        · simp only [eB, List.length_append, List.length_take, List.length_drop, List.length_cons, List.length_nil]; omega
        · simp only [eB]; exact cl9
      refine KW.nxt rfl rfl (fun H' g => ⟨⟨i + 1, S8, A8, fun id => V id ∨ (id = o3 ∨ id = HC.n), _, (cs.drop 0).take ((basN p L i).length * 2) ++ [.slice (some ⟨o3, 0, some 1⟩) y.length y.length, .slice (some ⟨HC.n, 0, some 1⟩) L.length L.length]⟩, inv9 _, by first | omega | (simp only; omega), ⟨rfl, rfl, rfl, rfl, rfl, rfl, rfl, rfl, congrArg (Value.int .i64) (inc64 (by omega)), trivial⟩, (g.take 3).eqT (by simp only [eB, List.length_append, List.length_singleton]; rfl)⟩)
    · rw [if_neg hfz] at eB
      have key := first (S := S6) (H0 := A6) (xs := z.1) (a := some ⟨o3, 0, some 1⟩) (c := y.length) (by omega) (by rw [← l1]; exact sl1')
      rw [if_neg hfz, ← l1] at key
      refine KW.callE rfl rfl rfl rfl rfl (key) (fun _ _ => ?_)
      refine KW.no rfl rfl (by omega) ?_
      refine KW.nxt rfl rfl (fun H' g => ⟨⟨i + 1, S6, A6, V, o, cs⟩, ⟨by simp only; omega, old6, fun id h => (S16 id (hV id h)).1, by simp only [eB]; exact hcl, by simp only [eB]; exact cl.mv (fun id h => (S16 id (hV id h)).2) (fun id h => h)⟩, by first | omega | (simp only; omega), ⟨rfl, rfl, rfl, rfl, rfl, rfl, rfl, rfl, congrArg (Value.int .i64) (inc64 (by omega)), trivial⟩, (g.take 3).eqT (by simp only [eB]; rfl)⟩)
  case gout =>
    have k1 : ¬ (i : Int) < (L.length : Int) := k1
    obtain rfl : i = L.length := by omega
    have bm := bok L.length (Nat.le_refl _)
    refine KW.callN1 rfl rfl rfl rfl rfl (cloneB (by omega) hts.up) (fun v HC SC mC _ _ hv => ?_)
    rcases hv with ⟨hy0, rfl⟩ | ⟨o3, rfl, hno3, hmo3⟩
    · exfalso; rw [hy0] at ht; have := ht.1; simp at this; omega
    have tC := (inferInstance : On S1 A1 SC HC).st
    refine KW.mk1 rfl rfl rfl rfl rfl rfl rfl rfl rfl rfl rfl rfl (L.length) rfl rfl (by omega) (by show 8 * _ ≤ _; omega) ?_
    refine KW.ids (fun hlowC hvarC => ?_)
    have sC3 : SC o3 := (inferInstance : On (New _ HC.n) HC SC HC).st o3 hno3 |>.1
    refine KW.freeze 3 rfl (fun A5 S5 hn5 hS5 st5 hm5 hlt5 hno5 hlow5 => ?_)
    refine KW.build rfl rfl rfl rfl rfl (built_Prt _ _ _ _ _ _) ?_
    have SC5 : ∀ id, SC id → S5 id ∧ A5.m id = HC.m id := fun id h => st5.st id h
    have S15 : ∀ id, S1 id → S5 id ∧ A5.m id = A1.m id := fun id h => ⟨(SC5 id (tC id h).1).1, (SC5 id (tC id h).1).2.trans (tC id h).2⟩
    have hr1 : KI.Ml (fun id => id = o3) A5 (.slice (some ⟨o3, 0, some 1⟩) t.length t.length) t := row_ml ((SC5 o3 sC3).2.trans hmo3)
    have hm5' : A5.m HC.n = some ⟨2, true, (List.replicate L.length (0 : Int)).map (Value.int .i64)⟩ := hm5.trans (by rw [List.map_replicate])
    have hul : (List.replicate L.length (0 : Int)).length = L.length := by simp
    have hr2 : KI.Ml (fun id => id = HC.n) A5 (.slice (some ⟨HC.n, 0, some 1⟩) (List.replicate L.length (0 : Int)).length L.length) (List.replicate L.length 0) := by
      have := row_ml (A := A5) (o := HC.n) (ty := 2) (xs := List.replicate L.length 0) hm5'
      rw [hul] at this ⊢
      exact this
    have hx : PrOk p k L.length (t, List.replicate L.length 0) := ⟨ht, zero_ok hp0⟩
    have no3 : n ≤ o3 := hno3.1
    have no4 : n ≤ HC.n := mC
    refine KW.callWV (W := fun id => id = o3 ∨ id = HC.n) (post := fun _ v H1 => v = .agg #[.slice (some ⟨o3, 0, some 1⟩) t.length t.length, .slice (some ⟨HC.n, 0, some 1⟩) L.length L.length] ∧ KI.Ml (fun id => id = o3) H1 (.slice (some ⟨o3, 0, some 1⟩) t.length t.length) (leftC p L t).1 ∧ KI.Ml (fun id => id = HC.n) H1 (.slice (some ⟨HC.n, 0, some 1⟩) L.length L.length) (leftC p L t).2) (fun id h => by rcases h with h | h; rw [h]; exact (SC5 o3 sC3).1; rw [h]; exact (hS5 _).2 (.inr rfl)) rfl rfl rfl rfl rfl (fun H6 g st6 => ?gc) (fun v A6 S6 m6 t6 w6 hv6 => ?_)
    case gc =>
      have hM := g.has (j := 0) rfl rfl
      have hb := g.has (j := 2) rfl rfl
      have hlit := g.blk (j := 1) rfl
      have z6 : ∀ id, S5 id → id < H6.n ∧ H6.m id = A5.m id := fun id h => by have h1 := g.froz id h; have := g.n_; exact ⟨by omega, h1.2⟩
      have clX : K_Prt.Sl (fun id => id = o ∨ V id) H6 (.slice (some ⟨o, 0, some 2⟩) (basN p L L.length).length (basN p L L.length).length) (basN p L L.length) :=
        (cl.mv (X' := fun id => V id) (A' := H6) (fun id h => ((z6 id (S15 id (hV id h)).1).2).trans (S15 id (hV id h)).2) (fun _ h => h)).sl (.inl rfl) hlit.1 rfl (fun id h => .inr h) (Nat.le_refl _)
      have key := lessC (S := Low H6.n) (H0 := H6) (a1 := some ⟨o3, 0, some 1⟩) (c1 := t.length) (a2 := some ⟨HC.n, 0, some 1⟩) (c2 := L.length) (x := (t, List.replicate L.length 0)) (W1 := fun id => id = o3) (W2 := fun id => id = HC.n) (X := fun id => id = o ∨ V id) hp hk hLl (fun b hb => (bm b hb).1) hx (by have := basN_len (p := p) (L := L) L.length; omega) hM (by omega) hb (by omega) clX (fun id h => ⟨by
        rcases h with h | h
        · rw [h]; exact hlit.2
        · exact (z6 id (S15 id (hV id h)).1).1, fun hh => by
        rcases h with h | h
        · omega
        · have := hlow id (hV id h); omega⟩) (fun id h => by
          rcases h with h | h
          · rw [h]; exact (z6 o3 (SC5 o3 sC3).1).1
          · rw [h]; exact (z6 _ ((hS5 _).2 (.inr rfl))).1) (fun id h h' => by have e1 : id = o3 := h; have e2 : id = HC.n := h'; have := hno3.2; omega) (Kn.Ml.same (fun id h => by rw [h]; exact (z6 o3 (SC5 o3 sC3).1).2) hr1) (Kn.Ml.same (fun id h => by rw [h]; exact (z6 _ ((hS5 _).2 (.inr rfl))).2) hr2)
      simp only [hul] at key
      exact key
    obtain ⟨rfl, w1, w2⟩ := hv6
    have hz := leftC_ok hf hL ht
    have eC : comb p L t = if fz (leftC p L t).1 < (leftC p L t).1.length then none else some (sc p (p - 1) (leftC p L t).2) := rfl
    obtain ⟨z, ez⟩ : ∃ z, leftC p L t = z := ⟨_, rfl⟩
    rw [ez] at w1 w2 hz eC
    have l1 : t.length = z.1.length := ht.1.trans hz.1.1.symm
    have l2 : L.length = z.2.length := hz.2.1.symm
    have s3 : S6 o3 := (t6 o3 (SC5 o3 sC3).1).1
    have s4 : S6 HC.n := (t6 HC.n ((hS5 _).2 (.inr rfl))).1
    have S56 : ∀ id, S5 id → id ≠ o3 → id ≠ HC.n → A6.m id = A5.m id := fun id h e1 e2 => (t6 id h).2 (fun hh => hh.elim e1 e2)
    have S16 : ∀ id, S1 id → S6 id ∧ A6.m id = A1.m id := fun id h => by
      have h1 := hlow id h
      have h2 := S15 id h
      exact ⟨(t6 id h2.1).1, (S56 id h2.1 (by omega) (by omega)).trans h2.2⟩
    have old6 : ∀ id, id < H.n → S6 id ∧ A6.m id = H.m id := fun id h => ⟨(S16 id (old id h).1).1, (S16 id (old id h).1).2.trans (old id h).2⟩
    haveI o6 : On (Low H.n) H S6 A6 := ⟨old6⟩
    have sl1' : KI.Sl S6 A6 (.slice (some ⟨o3, 0, some 1⟩) t.length t.length) z.1 := w1.sl.more (fun id h => by rw [h]; exact s3)
    have hz1l := hz.1.1
    have hz2l := hz.2.1
    by_cases hfz : fz z.1 < z.1.length
    · rw [if_pos hfz] at eC
      have key := first (S := S6) (H0 := A6) (xs := z.1) (a := some ⟨o3, 0, some 1⟩) (c := t.length) (by omega) (by rw [← l1]; exact sl1')
      rw [if_pos hfz, ← l1] at key
      refine KW.callE rfl rfl rfl rfl rfl (key) (fun _ _ => ?_)
      refine KW.yes rfl rfl (by omega) ?_
      refine KW.retM1 rfl rfl rfl rfl (fun H1 g => by rw [eC]; rfl)
    · rw [if_neg hfz] at eC
      have key := first (S := S6) (H0 := A6) (xs := z.1) (a := some ⟨o3, 0, some 1⟩) (c := t.length) (by omega) (by rw [← l1]; exact sl1')
      rw [if_neg hfz, ← l1] at key
      refine KW.callE rfl rfl rfl rfl rfl (key) (fun _ _ => ?_)
      refine KW.no rfl rfl (by omega) ?_
      have k3 := scaled (S := S6) (H0 := A6) (W := fun id => id = HC.n) (p := p) (b := IntKind.i64.wrap (p - 1)) hp31 (by rw [wrM hp31]; omega) (a := some ⟨HC.n, 0, some 1⟩) (c := L.length) (xs := z.2) (by omega) hz.2.2 (fun id h => by rw [h]; exact s4) (by rw [← l2]; exact w2)
      rw [← l2] at k3
      refine KW.callW (W := fun id => id = HC.n) (fun id h => by rw [h]; exact s4) rfl rfl rfl rfl rfl k3 (fun v8 A8 S8 m8 t8 w8 hv8 => ?_)
      have old8 : ∀ id, id < H.n → S8 id ∧ A8.m id = H.m id := fun id h => ⟨(t8 id (old6 id h).1).1, ((t8 id (old6 id h).1).2 (fun hh => by have e1 : id = HC.n := hh; omega)).trans (old6 id h).2⟩
      haveI o8 : On (Low H.n) H S8 A8 := ⟨old8⟩
      have s48 : S8 HC.n := (t8 _ s4).1
      rw [wrM hp31] at hv8
      have el : (sc p (p - 1) z.2).length = L.length := by simp [sc, hz2l]
      refine KW.retM1 rfl rfl rfl rfl (fun H1 g => ?_)
      · rw [eC]
        refine ⟨some ⟨HC.n, 0, some 1⟩, L.length, by rw [el]; rfl, ?_⟩
        rw [el]
        have h1 : KI.Sl (fun id => id = HC.n) H1 (.slice (some ⟨HC.n, 0, some 1⟩) L.length L.length) (sc p (p - 1) z.2) := (Kn.Ml.same (fun id h => by rw [h]; exact (g.froz _ s48).2) hv8).sl
        exact h1.more (fun id h => by
          have := (g.froz _ s48).1
          have := g.n_
          rw [h]
          exact ⟨by omega, by omega⟩)
end
end Go.Proofs.YtijmkfnmdhpakaaGreat.Am
/- The solution that is read off an echelon, in plain Lean. Each holds under its own conditions. -/
set_option linter.unusedVariables false
set_option linter.unusedSimpArgs false
namespace Go.Proofs.YtijmkfnmdhpakaaGreat.Pl
theorem dF_put {w : List Int} : ∀ (t : List Int) (c q : Nat) (y : Int), q < t.length → dF w c (t.set q y) = dF w c t + w.getD (c + q) 0 * (y - t.getD q 0)
  | [], c, q, y, h => by simp at h
  | a :: t, c, 0, y, h => by
    show w.getD c 0 * y + dF w (c + 1) t = w.getD c 0 * a + dF w (c + 1) t + w.getD (c + 0) 0 * (y - a)
    simp only [Nat.add_zero, Int.mul_sub]
    omega
  | a :: t, c, q + 1, y, h => by
    have ih := dF_put (w := w) t (c + 1) q y (by simpa using h)
    show w.getD c 0 * a + dF w (c + 1) (t.set q y) = w.getD c 0 * a + dF w (c + 1) t + w.getD (c + (q + 1)) 0 * (y - t.getD q 0)
    rw [ih, show c + 1 + q = c + (q + 1) by omega]
    omega
theorem dF_noughts {w : List Int} : ∀ (k c : Nat), dF w c (List.replicate k 0) = 0
  | 0, _ => rfl
  | k + 1, c => by
    show w.getD c 0 * 0 + dF w (c + 1) (List.replicate k 0) = 0
    rw [dF_noughts k (c + 1)]
    omega
/-- The first n values are put to their places. -/
def setF (E : List (List Int)) (P : List Nat) (k : Nat) : Nat → List Int
  | 0 => List.replicate k 0
  | n + 1 => (setF E P k n).set (P.getD n 0) ((E.getD n []).getD k 0)
theorem setF_len {E : List (List Int)} {P : List Nat} {k : Nat} : ∀ n, (setF E P k n).length = k
  | 0 => by simp [setF]
  | n + 1 => by simp [setF, setF_len n]
theorem setF_in {p : Int} {K k : Nat} {E : List (List Int)} {P : List Nat} (hp : 0 < p) (hE : Rect p K E) : ∀ n, ∀ a ∈ setF E P k n, 0 ≤ a ∧ a < p
  | 0 => fun a ha => by rw [List.eq_of_mem_replicate ha]; exact ⟨Int.le_refl 0, hp⟩
  | n + 1 => fun a ha => by
    rcases List.mem_or_eq_of_mem_set ha with h | h
    · exact setF_in hp hE n a h
    · rw [h]
      rcases Nat.lt_or_ge n E.length with hn | hn
      · exact hE.el hp (i := n) (by rw [List.getD_eq_getElem?_getD, List.getElem?_eq_getElem hn]; rfl) k
      · have e : E.getD n [] = [] := by rw [List.getD_eq_getElem?_getD, List.getElem?_eq_none hn]; rfl
        rw [e]; exact ⟨Int.le_refl 0, hp⟩
theorem getD_opt {L : List (List Int)} {i : Nat} (h : i < L.length) : L[i]? = some (L.getD i []) := by
  rw [List.getD_eq_getElem?_getD, List.getElem?_eq_getElem h]; rfl
theorem Ech.diff {p : Int} {K c : Nat} {E : List (List Int)} {P : List Nat} (h : Ech p K c E P) {i j q : Nat} (hi : P[i]? = some q) (hj : P[j]? = some q) : i = j := by
  rcases Nat.decEq i j with e | e
  · have hl := (List.getElem?_eq_some_iff.1 hj).1
    have hE := getD_opt (L := E) (i := j) (by have := h.le; omega)
    have h1 := (h.piv j q _ hj hE).2.1
    have h0 := h.red i q j _ hi (fun q => e q.symm) hE
    omega
  · exact e
theorem setF_at {p : Int} {K c k : Nat} {E : List (List Int)} {P : List Nat} (h : Ech p K c E P) {q m : Nat} (hm : P[m]? = some q) : ∀ n, n ≤ m → (setF E P k n).getD q 0 = 0
  | 0, _ => by
    simp only [setF, List.getD_eq_getElem?_getD, List.getElem?_replicate]
    split <;> rfl
  | n + 1, hn => by
    have ih := setF_at (k := k) h hm n (by omega)
    have hml := (List.getElem?_eq_some_iff.1 hm).1
    have hnP : P[n]? = some (P.getD n 0) := by rw [List.getD_eq_getElem?_getD, List.getElem?_eq_getElem (by omega)]; rfl
    have hne : P.getD n 0 ≠ q := fun e => by
      rw [e] at hnP
      have := h.diff hnP hm
      omega
    simp only [setF, List.getD_eq_getElem?_getD] at ih ⊢
    rw [List.getElem?_set_ne (by simpa [List.getD_eq_getElem?_getD] using hne)]
    exact ih
theorem setF_dF {p : Int} {k : Nat} {E : List (List Int)} {P : List Nat} (h : Ech p (k + 1) k E P) {i : Nat} {r : List Int} (hr : E[i]? = some r) (hi : i < P.length) : ∀ n, n ≤ P.length → dF r 0 (setF E P k n) = if i < n then r.getD k 0 else 0
  | 0, _ => by simp [setF, dF_noughts]
  | n + 1, hn => by
    have ih := setF_dF h hr hi n (by omega)
    have hnP : P[n]? = some (P.getD n 0) := by rw [List.getD_eq_getElem?_getD, List.getElem?_eq_getElem (by omega)]; rfl
    have hnE := getD_opt (L := E) (i := n) (by have := h.le; omega)
    have hq := (h.piv n _ _ hnP hnE).1
    simp only [setF]
    rw [dF_put _ _ _ _ (by rw [setF_len]; exact hq), ih, setF_at h hnP n (Nat.le_refl n), Nat.zero_add]
    rcases Nat.lt_trichotomy i n with e | e | e
    · rw [h.red n _ i r hnP (by omega) hr, if_pos e, if_pos (by omega)]
      simp
    · subst e
      rw [(h.piv i _ r hnP hr).2.1, if_neg (by omega), if_pos (by omega)]
      rw [hnE] at hr
      cases hr
      simp
    · rw [h.red n _ i r hnP (by omega) hr, if_neg (by omega), if_neg (by omega)]
      simp
/-- Where no value is left the list that is read off is a solution. -/
theorem setF_sol {p : Int} {k : Nat} {W : List (List Int)} (hf : Fer p) (hW : Rect p (k + 1) W) (hs : k ∉ (ech p W (k + 1)).2) : AllS p k W (setF (ech p W (k + 1)).1 (ech p W (k + 1)).2 k (ech p W (k + 1)).2.length) := by
  have hS := (solv_iff hf hW).2 hs
  have sh := ech_shape hf hW k
  have e : ech p W (k + 1) = ech p W k := by
    simp only [ech] at hs ⊢
    split
    · rfl
    · rename_i L' hr
      rw [hr] at hs
      exact absurd (by simp) hs
  rw [e, ← ech_sat hf hW k]
  intro i r hr
  rcases Nat.lt_or_ge i (ech p W k).2.length with hi | hi
  · have := setF_dF sh hr hi _ (Nat.le_refl _)
    rw [if_pos hi] at this
    exact ⟨0, by rw [this]; simp⟩
  · refine ⟨0, ?_⟩
    rw [hS i r hi hr, dF_zero _ 0 (fun j _ hj => sh.zero i r hi hr j (by rw [setF_len] at hj; omega))]
    simp
/-- Where there is a solution, none is left. -/
theorem sol_none {p : Int} {k : Nat} {W : List (List Int)} {x : List Int} (hf : Fer p) (hW : Rect p (k + 1) W) (hx : x.length = k) (h : AllS p k W x) : k ∉ (ech p W (k + 1)).2 := by
  refine (solv_iff hf hW).1 fun i r hi hr => ?_
  have hp := hf.1
  have sh := ech_shape hf hW k
  have h1 := sat_iff.1 ((ech_sat hf hW k).2 h i r hr)
  rw [dF_zero x 0 (fun j _ hj => sh.zero i r hi hr j (by omega))] at h1
  have h2 := sh.rect.el (by omega) hr k
  have h3 : r.getD k 0 % p = 0 := by
    have := Int.dvd_of_emod_eq_zero h1
    exact Int.emod_eq_zero_of_dvd (by have h4 := Int.dvd_neg.2 this; rwa [show -(0 - r.getD k 0) = r.getD k 0 by omega] at h4)
  rwa [small_mod h2] at h3
end Go.Proofs.YtijmkfnmdhpakaaGreat.Pl
/- Contract: systems of equations solved by the program: whether there is a solution. It holds under its own conditions. -/
set_option linter.unusedVariables false
set_option linter.unusedSimpArgs false
set_option maxRecDepth 20000
namespace Go.Proofs.YtijmkfnmdhpakaaGreat.Am
open Go Go.RowKit Go.Proofs Go.Proofs.YtijmkfnmdhpakaaGreat.Pl
theorem built_MatrixW (p : Int) {x c : Int} (h : x = c) : Tryz.prog.built 36 [(0, .int .i64 p), (1, .int .i64 x)] = some #[.int .i64 p, .int .i64 c, .slice none 0 0] := by subst h; exact built_Matrix2 _ _
section
variable {S : Ids} {H0 : AH}
theorem solve {p : Int} {k : Nat} (hp : PrimeP p) (hk : k ≤ 100) {L : List (List Int)} {vals : List Int} (hLl : L.length ≤ 100) (hL : Rect p k L) (hvl : vals.length = L.length) (hv : ∀ v ∈ vals, 0 ≤ v ∧ v < p) {a1 c1 a2 c2} (hs0 : KI.sl.Sl S H0 (.slice a1 L.length c1) L) (hv0 : KI.Sl S H0 (.slice a2 vals.length c2) vals) :
    SpecM Tryz.prog S H0 132 [.agg #[.int .i64 p, .int .i64 k, .slice a1 L.length c1], .slice a2 vals.length c2] (fun n v H1 => ∃ (a : Option Addr) (n c : Nat), v = .tuple #[.slice a n c, .bool (decide (k ∉ (ech p (augW L vals) (k + 1)).2))]) := by
  refine SpecM.of1L [5] Tryz.func132 rfl (by kernel_rfl) (by kernel_rfl) rfl (fun H _ => ?_)
  have hs := hs0.up (S' := Low H.n) (H' := H)
  have hvs := hv0.up (S' := Low H.n) (H' := H)
  have hWl := augW_len (L := L) (vals := vals) hvl
  have hWR := augW_rect hL hv
  have hf := fer hp
  have ek : IntKind.i64.wrap ((k : Int) + 1) = ((k + 1 : Nat) : Int) := by rw [wr (by omega) (by omega)]; omega
  refine KW.build rfl rfl rfl rfl rfl (built_MatrixW _ ek) ?_
  refine KW.lpM rfl rfl (fun s : CpS => [(1, .slice a2 vals.length c2), (2, .pointer (some ⟨H.n, 0, some 0⟩)), (6, .pointer (some ⟨H.n + 1, 0, some 1⟩)), (21, .slice a1 L.length c1), (22, .int .i64 L.length), (23, .int .i64 s.i)]) (fun s => s.S) (fun s => s.A) (fun s => [(H.n, ⟨36, true, [.int .i64 p, .int .i64 k, .slice a1 L.length c1]⟩), (H.n + 1, ⟨36, true, [.int .i64 p, .int .i64 (k + 1 : Nat), s.l]⟩)] ++ s.tail) (fun s => CqI (fun x => x) (augW L vals) H H (Low H.n) s) (fun s => L.length - s.i) (⟨0, Low H.n, H, fun _ => False, [], .slice none 0 0, []⟩) (⟨RwI.start, .inl ⟨rfl, rfl, rfl, rfl⟩⟩) ⟨rfl, rfl, rfl, rfl, rfl, rfl, trivial⟩ rfl rfl (rfl) (fun s hi bE n => ?_)
  obtain ⟨i, S1, A1, V, cs, l, tail⟩ := s
  obtain ⟨hq, hform⟩ := hi
  simp only at hq hform
  haveI : Stp (Low H.n) H S1 A1 := ⟨hq.old⟩
  have hle := hq.le
  have hcl := hq.b.len
  rw [List.length_map, List.length_take] at hcl
  simp only at hle hcl
  have hs1 := hs.up (S' := S1) (H' := A1)
  have hvs1 := hvs.up (S' := S1) (H' := A1)
  rcases hform with ⟨hi0, e1, e2, e3⟩ | ⟨hi0, o, e1, e2⟩
  case' inl => subst e1 e2 e3
  case' inr => subst e1 e2
  all_goals
    refine KW.cnd rfl rfl (fun j1 => ?gin) (fun j1 => ?gout)
    case gin =>
      have j1 : (i : Int) < (L.length : Int) := j1
      refine KW.getL hs1 rfl rfl rfl rfl rfl rfl rfl rfl rfl rfl rfl rfl rfl rfl rfl rfl (by omega) (j1) (fun y ay cy hy hsy => ?_)
      have hy : L[i]? = some y := hy
      have hym := hL y (List.mem_of_getElem? hy)
      obtain ⟨w, hw⟩ : ∃ w, vals[i]? = some w := ⟨vals[i]'(by omega), List.getElem?_eq_getElem (by omega)⟩
      have hWi := augW_at hy hw
      refine KW.ids (fun hlow hvar => ?_)
      refine KW.fact (fun _ g => g.nle (H1 := H)) (fun hn0 => ?_)
      refine KW.callN1 rfl rfl rfl rfl rfl (cloneB (by omega) hsy) (fun v HC SC mC _ _ hv => ?_)
      obtain hv := hv
      have t1 := (inferInstance : Stp S1 A1 SC HC).st
      have hvs2 := hvs1.up (S' := SC) (H' := HC)
      rcases hv with ⟨hy0, rfl⟩ | ⟨o3, rfl, hno3, hmo3⟩
      · refine KW.getI hvs2 rfl rfl rfl rfl rfl rfl rfl rfl rfl rfl rfl rfl rfl rfl rfl rfl (by omega) (by omega) (fun w2 hw2 => ?_)
        have hw2 : vals[i]? = some w2 := hw2
        rw [hw] at hw2
        cases hw2
        subst hy0
        have fin : ∀ (A' : AH) (S' : Ids) (o9 : Nat), (∀ id, S' id ↔ SC id ∨ id = o9) → St SC HC S' A' → ¬ SC o9 → St S1 A1 S' A' ∧ (∀ id, id = o9 → S' id ∧ H.n ≤ id ∧ ¬ S1 id) := fun A' S' o9 h1 h2 h3 => by
          refine ⟨t1.trans h2, fun id e => ?_⟩
          subst e
          refine ⟨(h1 _).2 (.inr rfl), ?_, fun h => h3 (t1 _ h).1⟩
          rcases Nat.lt_or_ge id H.n with h | h
          · exact absurd (t1 id (hq.old id h).1).1 h3
          · exact h
        first
          | (refine KW.app0L (v := .int .i64 w) 3 rfl rfl rfl rfl rfl rfl rfl rfl rfl rfl rfl rfl rfl rfl rfl rfl rfl rfl rfl rfl rfl rfl (by decide) ⟨.inl ⟨1, _, _, _, _, rfl, rfl, by simp⟩, trivial⟩ ?_
             refine KW.freeze 4 rfl (fun A' S' hnA hSA stA hmA hoA hnS hlow2 => ?_)
             obtain ⟨f1, f2⟩ := fin A' S' _ hSA stA.st hnS
             refine KW.take 3 ?_
             refine KW.app1 (xs := cs) (v := .slice (some ⟨_, 0, some 1⟩) 1 1) 2 3 rfl rfl rfl rfl rfl rfl rfl rfl rfl rfl rfl rfl rfl rfl rfl rfl rfl rfl rfl rfl rfl rfl rfl (by omega) (by show (_ + 1) * 24 ≤ _; omega) (by omega) ?_
             exact KW.nxt rfl rfl (fun H' g => ⟨⟨i + 1, S', A', _, _, _, _⟩, ⟨hq.nextX (o' := 0) f1 f2 hWi (row_ml (xs := [w]) hmA), .inr ⟨by simp only; omega, _, rfl, rfl⟩⟩, by simp only; omega, ⟨rfl, rfl, rfl, rfl, rfl, congrArg (Value.int .i64) (inc64 (by omega)), trivial⟩, g⟩))
          | (refine KW.app0L (v := .int .i64 w) 2 rfl rfl rfl rfl rfl rfl rfl rfl rfl rfl rfl rfl rfl rfl rfl rfl rfl rfl rfl rfl rfl rfl (by decide) ⟨.inl ⟨1, _, _, _, _, rfl, rfl, by simp⟩, trivial⟩ ?_
             refine KW.freeze 3 rfl (fun A' S' hnA hSA stA hmA hoA hnS hlow2 => ?_)
             obtain ⟨f1, f2⟩ := fin A' S' _ hSA stA.st hnS
             refine KW.take 2 ?_
             refine KW.app0 (v := .slice (some ⟨_, 0, some 1⟩) 1 1) 2 rfl rfl rfl rfl rfl rfl rfl rfl rfl rfl rfl rfl rfl rfl rfl rfl rfl rfl rfl rfl rfl rfl (by decide) ?_
             subst hi0
             exact KW.nxt rfl rfl (fun H' g => ⟨⟨1, S', A', _, _, _, _⟩, ⟨hq.nextX (o' := 0) f1 f2 hWi (row_ml (xs := [w]) hmA), .inr ⟨by simp only; omega, _, rfl, rfl⟩⟩, by simp only; omega, ⟨rfl, rfl, rfl, rfl, rfl, rfl, trivial⟩, g⟩))
      · have hSo3 : SC o3 := (inferInstance : On (New _ HC.n) HC SC HC).st o3 hno3 |>.1
        refine KW.thaw o3 _ hSo3 hmo3 ?_
        have t2 : St S1 A1 (fun id => SC id ∧ id ≠ o3) HC := fun id h => ⟨⟨(t1 id h).1, fun e => by have := hlow id h; have := hno3.1; omega⟩, (t1 id h).2⟩
        haveI : On S1 A1 (fun id => SC id ∧ id ≠ o3) HC := ⟨t2⟩
        have hvs2 := hvs1.up (S' := fun id => SC id ∧ id ≠ o3) (H' := HC)
        refine KW.getI hvs2 rfl rfl rfl rfl rfl rfl rfl rfl rfl rfl rfl rfl rfl rfl rfl rfl (by omega) (by omega) (fun w2 hw2 => ?_)
        have hw2 : vals[i]? = some w2 := hw2
        rw [hw] at hw2
        cases hw2
        have fin : ∀ (A' : AH) (S' : Ids) (o9 : Nat), (∀ id, S' id ↔ (SC id ∧ id ≠ o3) ∨ id = o9) → St (fun id => SC id ∧ id ≠ o3) HC S' A' → ¬ (SC o9 ∧ o9 ≠ o3) → St S1 A1 S' A' ∧ (∀ id, id = o9 → S' id ∧ H.n ≤ id ∧ ¬ S1 id) := fun A' S' o9 h1 h2 h3 => by
          refine ⟨t2.trans h2, fun id e => ?_⟩
          subst e
          refine ⟨(h1 _).2 (.inr rfl), ?_, fun h => h3 (t2 _ h).1⟩
          rcases Nat.lt_or_ge id H.n with h | h
          · exact absurd (t2 id (hq.old id h).1).1 h3
          · exact h
        have hyw : (y ++ [w]).length = y.length + 1 := by simp
        have hyc : y.map (Value.int .i64) ++ [.int .i64 w] = (y ++ [w]).map (Value.int .i64) := by simp
        first
          | (refine KW.app1L (xs := y.map (Value.int .i64)) (v := .int .i64 w) 3 4 rfl rfl rfl rfl rfl rfl rfl rfl rfl rfl rfl rfl rfl rfl rfl rfl rfl rfl rfl rfl rfl rfl rfl (by simp) (by show (_ + 1) * 8 ≤ _; omega) (by omega) ⟨.inl ⟨1, _, _, _, _, rfl, rfl, by decide⟩, trivial⟩ ?_
             refine KW.freeze 3 rfl (fun A' S' hnA hSA stA hmA hoA hnS hlow2 => ?_)
             obtain ⟨f1, f2⟩ := fin A' S' _ hSA stA.st hnS
             rw [hyc] at hmA
             rw [← hyw]
             refine KW.app1 (xs := cs) (v := .slice (some ⟨_, 0, some 1⟩) (y ++ [w]).length (y ++ [w]).length) 2 3 rfl rfl rfl rfl rfl rfl rfl rfl rfl rfl rfl rfl rfl rfl rfl rfl rfl rfl rfl rfl rfl rfl rfl (by omega) (by show (_ + 1) * 24 ≤ _; omega) (by omega) ?_
             exact KW.nxt rfl rfl (fun H' g => ⟨⟨i + 1, S', A', _, _, _, _⟩, ⟨hq.nextX (o' := 0) f1 f2 hWi (row_ml hmA), .inr ⟨by simp only; omega, _, rfl, rfl⟩⟩, by simp only; omega, ⟨rfl, rfl, rfl, rfl, rfl, congrArg (Value.int .i64) (inc64 (by omega)), trivial⟩, g⟩))
          | (refine KW.app1L (xs := y.map (Value.int .i64)) (v := .int .i64 w) 2 3 rfl rfl rfl rfl rfl rfl rfl rfl rfl rfl rfl rfl rfl rfl rfl rfl rfl rfl rfl rfl rfl rfl rfl (by simp) (by show (_ + 1) * 8 ≤ _; omega) (by omega) ⟨.inl ⟨1, _, _, _, _, rfl, rfl, by decide⟩, trivial⟩ ?_
             refine KW.freeze 2 rfl (fun A' S' hnA hSA stA hmA hoA hnS hlow2 => ?_)
             obtain ⟨f1, f2⟩ := fin A' S' _ hSA stA.st hnS
             rw [hyc] at hmA
             rw [← hyw]
             refine KW.app0 (v := .slice (some ⟨_, 0, some 1⟩) (y ++ [w]).length (y ++ [w]).length) 2 rfl rfl rfl rfl rfl rfl rfl rfl rfl rfl rfl rfl rfl rfl rfl rfl rfl rfl rfl rfl rfl rfl (by decide) ?_
             subst hi0
             exact KW.nxt rfl rfl (fun H' g => ⟨⟨1, S', A', _, _, _, _⟩, ⟨hq.nextX (o' := 0) f1 f2 hWi (row_ml hmA), .inr ⟨by simp only; omega, _, rfl, rfl⟩⟩, by simp only; omega, ⟨rfl, rfl, rfl, rfl, rfl, rfl, trivial⟩, g⟩))
    case gout =>
      have j1 : ¬ (i : Int) < (L.length : Int) := j1
      have ei : i = (augW L vals).length := by omega
      have hb := hq.b
      simp only at hb
      rw [ei, List.take_of_length_le (Nat.le_refl _), List.map_id'] at hb
      have hBW : B_Int64SS (augW L vals) := rect_sml hWR (by omega) (by omega)
      have sh := ech_shape hf hWR (k + 1)
      have hll := (ech_ok (p := p) (by have := hf.1; omega) hWR (k + 1)).2.1
      generalize hW : augW L vals = W at *
      first
        | (subst ei
           refine KW.callNV1 rfl rfl rfl rfl rfl (fun H1 g _ => echelon (S := Low H1.n) (H0 := H1) (k := k + 1) ⟨hp.1, hp.2.1⟩ (by omega) hBW hWR (hb.slV g (j := 2) rfl)) (fun v HE SE mE _ _ hv => ?_))
        | (have hW0 : W = [] := List.eq_nil_of_length_eq_zero (by omega)
           subst hW0
           refine KW.callNV1 rfl rfl rfl rfl rfl (fun H1 g _ => echelon (S := Low H1.n) (H0 := H1) (k := k + 1) ⟨hp.1, hp.2.1⟩ (by omega) hBW hWR (.inl ⟨rfl, none, 0, rfl, fun _ => rfl⟩)) (fun v HE SE mE _ _ hv => ?_))
      all_goals
        obtain ⟨a3, c3, a4, c4, rfl, hE, hP⟩ := hv
        generalize he : ech p _ (k + 1) = ee at *
        obtain ⟨E, P⟩ := ee
        simp only at hE hP sh hll
        have hPE := sh.le
        have hE20 : E.length ≤ 100 := by first | omega | (simp only [List.length_nil] at hll; omega)
        refine KW.mk1 rfl rfl rfl rfl rfl rfl rfl rfl rfl rfl rfl rfl (k) rfl rfl (by omega) (by show 8 * _ ≤ _; omega) ?_
        first
          | (refine KW.lpM rfl rfl (fun s : Nat × List Value => [(2, .pointer (some ⟨H.n, 0, some 0⟩)), (9, .pointer (some ⟨HE.n, 0, some 3⟩)), (11, .slice (some ⟨HE.n + 1, 0, some 1⟩) k k), (50, .slice a4 P.length c4), (51, .int .i64 P.length), (52, .int .i64 s.1)]) (fun _ => SE) (fun _ => HE) (fun s => [(H.n, ⟨36, true, [.int .i64 p, .int .i64 k, .slice a1 L.length c1]⟩), (H.n + 1, ⟨36, true, [.int .i64 p, .int .i64 (k + 1 : Nat), .slice (some ⟨o, 0, some 1⟩) W.length W.length]⟩), (o, ⟨22, true, cs⟩), (HE.n, ⟨36, true, [.int .i64 p, .int .i64 (k + 1 : Nat), .slice a3 P.length c3]⟩), (HE.n + 1, ⟨_, true, s.2⟩)]) (fun s => s.2.length = k ∧ s.1 ≤ P.length ∧ ∀ j, j < s.1 → ∀ q, P[j]? = some q → q ≠ k) (fun s => P.length - s.1) (0, _) ⟨by simp, by simp, fun j hj => absurd hj (Nat.not_lt_zero _)⟩ ⟨rfl, rfl, rfl, rfl, rfl, rfl, trivial⟩ rfl rfl rfl (fun s hi bE n => ?_))
          | (refine KW.lpM rfl rfl (fun s : Nat × List Value => [(2, .pointer (some ⟨H.n, 0, some 0⟩)), (9, .pointer (some ⟨HE.n, 0, some 2⟩)), (11, .slice (some ⟨HE.n + 1, 0, some 1⟩) k k), (50, .slice a4 P.length c4), (51, .int .i64 P.length), (52, .int .i64 s.1)]) (fun _ => SE) (fun _ => HE) (fun s => [(H.n, ⟨36, true, [.int .i64 p, .int .i64 k, .slice a1 L.length c1]⟩), (H.n + 1, ⟨36, true, [.int .i64 p, .int .i64 (k + 1 : Nat), .slice none 0 0]⟩), (HE.n, ⟨36, true, [.int .i64 p, .int .i64 (k + 1 : Nat), .slice a3 P.length c3]⟩), (HE.n + 1, ⟨_, true, s.2⟩)]) (fun s => s.2.length = k ∧ s.1 ≤ P.length ∧ ∀ j, j < s.1 → ∀ q, P[j]? = some q → q ≠ k) (fun s => P.length - s.1) (0, _) ⟨by simp, by simp, fun j hj => absurd hj (Nat.not_lt_zero _)⟩ ⟨rfl, rfl, rfl, rfl, rfl, rfl, trivial⟩ rfl rfl rfl (fun s hi bE n => ?_))
        obtain ⟨j, cc⟩ := s
        obtain ⟨hcc, hjP, hjn⟩ := hi
        simp only at hcc hjP hjn
        refine KW.cnd rfl rfl (fun j2 => ?gin2) (fun j2 => ?gout2)
        case gin2 =>
          have j2 : (j : Int) < (P.length : Int) := j2
          obtain ⟨q, hq2⟩ : ∃ q, P[j]? = some q := ⟨P[j]'(by omega), List.getElem?_eq_getElem (by omega)⟩
          obtain ⟨r, hr⟩ : ∃ r, E[j]? = some r := ⟨E[j]'(by have := sh.le; omega), List.getElem?_eq_getElem (by have := sh.le; omega)⟩
          have hpv := sh.piv j q r hq2 hr
          have hrl := sh.rect r (List.mem_of_getElem? hr)
          have hmap : (P.map fun (i : Nat) => (i : Int))[j]? = some (q : Int) := by rw [List.getElem?_map, hq2]; rfl
          refine KW.getI hP.ups rfl rfl rfl rfl rfl rfl rfl rfl rfl rfl rfl rfl rfl rfl rfl rfl (by omega) (by simp; omega) (fun x hx => ?_)
          have hx : (P.map fun (i : Nat) => (i : Int))[j]? = some x := hx
          rw [hmap] at hx
          cases hx
          by_cases hqk : q = k
          · have hd : decide (¬ k ∈ P) = false := decide_eq_false (fun hc => hc (hqk ▸ List.mem_of_getElem? hq2))
            refine KW.cT rfl rfl (by simp [hqk]) ?_
            refine KW.retM1 rfl rfl rfl rfl (fun H1 g => ?_)
            rw [hd]
            exact ⟨_, _, _, rfl⟩
          · refine KW.cF rfl rfl (by simp; omega) ?_
            have htk : (E.take P.length)[j]? = some r := by rw [List.getElem?_take, if_pos (by omega)]; exact hr
            refine KW.getL hE.upS rfl rfl rfl rfl rfl rfl rfl rfl rfl rfl rfl rfl rfl rfl rfl rfl (by omega) (by rw [List.length_take]; have := sh.le; omega) (fun y2 ay cy hy2 hsy2 => ?_)
            have hy2 : (E.take P.length)[j]? = some y2 := hy2
            rw [htk] at hy2
            cases hy2
            refine KW.getI hsy2 rfl rfl rfl rfl rfl rfl rfl rfl rfl rfl rfl rfl rfl rfl rfl rfl (by omega) (by omega) (fun z hz => ?_)
            refine KW.idx0 rfl rfl rfl rfl rfl rfl rfl rfl rfl (by omega) (by omega) ?_
            first | (refine KW.st1 4 rfl rfl rfl rfl rfl rfl rfl rfl rfl rfl rfl rfl (by simp only; omega) ?_) | (refine KW.st1 3 rfl rfl rfl rfl rfl rfl rfl rfl rfl rfl rfl rfl (by simp only; omega) ?_)
            exact KW.nxt rfl rfl (fun H' g => ⟨(j + 1, _), ⟨by simp only [List.length_set]; omega, by simp only; omega, upto hjn (fun q' hq' => by rw [hq2] at hq'; cases hq'; exact hqk)⟩, by simp only; omega, ⟨rfl, rfl, rfl, rfl, rfl, congrArg (Value.int .i64) (inc64 (by omega)), trivial⟩, g⟩)
        case gout2 =>
          have hjl : j = P.length := by have j2 : ¬ (j : Int) < (P.length : Int) := j2; omega
          subst hjl
          have hd : decide (¬ k ∈ P) = true := decide_eq_true (fun hm => by obtain ⟨i', hi'⟩ := List.getElem?_of_mem hm; exact hjn i' (List.getElem?_eq_some_iff.1 hi').1 k hi' rfl)
          refine KW.retM1 rfl rfl rfl rfl (fun H1 g => ?_)
          rw [hd]
          exact ⟨_, _, _, rfl⟩
end
end Go.Proofs.YtijmkfnmdhpakaaGreat.Am
/- Contract: the reference puts a list of values beside rows. It holds under its own conditions. -/
set_option linter.unusedVariables false
set_option linter.unusedSimpArgs false
set_option maxRecDepth 20000
namespace Go.Proofs.YtijmkfnmdhpakaaGreat.Am
open Go Go.RowKit Go.Proofs Go.Proofs.YtijmkfnmdhpakaaGreat.Pl
section
variable {S : Ids} {H0 : AH}
/-- A copy, with the block that it stands in. -/
theorem l00OwnC {a c} {xs : List Int} (hl : xs.length ≤ 1048576) (hs : KI.Sl S H0 (.slice a xs.length c) xs) : SpecM Tryz.prog S H0 106 [.slice a xs.length c] (fun n v H1 => ∃ o, v = .slice (some ⟨o, 0, some 1⟩) xs.length xs.length ∧ New n H1.n o ∧ H1.m o = some ⟨2, true, xs.map (Value.int .i64)⟩) := by
  refine SpecM.of1 Tryz.func106 rfl (by kernel_rfl) rfl (fun H _ => ?_)
  refine KW.lit rfl rfl rfl rfl rfl rfl rfl rfl rfl rfl [] rfl rfl (fun v hv => by simp at hv) rfl ?_
  refine KW.appV 0 rfl rfl rfl rfl rfl rfl rfl rfl rfl rfl (fun H1 g => acells_I hs.up g) (by simp) (by simp) (fun v hv => by obtain ⟨_, _, rfl⟩ := List.mem_map.1 hv; rfl) (by show (_ + _) * 8 ≤ _; simp only [List.length_cons, List.length_nil]; omega) (by simp only [List.length_cons, List.length_nil]; omega) (show 0 + xs.length = xs.length from by omega) (fun oa _ _ => ?_)
  refine KW.retM1 rfl rfl rfl rfl (fun H1 g => ⟨_, rfl, ⟨g.ge (H1 := H) (j := 0) rfl, (g.blk (j := 0) rfl).2⟩, (g.blk (j := 0) rfl).1⟩)
theorem l03Beside {p : Int} {k : Nat} (hp : 2 ≤ p ∧ p ≤ 31) (hk : k ≤ 100) {L : List (List Int)} {vals : List Int} (hLl : L.length ≤ 100) (hL : Rect p k L) (hvl : vals.length = L.length) {id kk : Nat} {a1 c1 a2 c2} (hv0 : Has3 S H0 id kk [.int .i64 p, .int .i64 k, .slice a1 L.length c1]) (hs0 : KI.sl.Sl S H0 (.slice a1 L.length c1) L) (hc0 : KI.sl.Sl S H0 (.slice a2 [vals].length c2) [vals]) :
    SpecM Tryz.prog S H0 147 [.pointer (some ⟨id, kk, none⟩), .slice a2 1 c2] (fun n v H1 => ∃ a c, v = .agg #[.int .i64 p, .int .i64 (k + 1 : Nat), .slice a L.length c] ∧ KI.sl.Sl (New n H1.n) H1 (.slice a L.length c) (augW L vals)) := by
  refine SpecM.of1 Tryz.func147 rfl (by kernel_rfl) rfl (fun H _ => ?_)
  have hs := hs0.up (S' := Low H.n) (H' := H)
  have hcs : KI.sl.Sl (Low H.n) H (.slice a2 1 c2) [vals] := hc0.up (S' := Low H.n) (H' := H)
  have hv := hv0.up (S' := Low H.n) (H' := H)
  have hWl := augW_len (L := L) (vals := vals) hvl
  have ek : IntKind.i64.wrap ((k : Int) + ((1 : Nat) : Int)) = ((k + 1 : Nat) : Int) := by rw [wr (by omega) (by omega)]; omega
  refine KW.ldF 0 hv rfl rfl rfl rfl rfl rfl rfl rfl rfl ?_
  refine KW.ldF 1 hv rfl rfl rfl rfl rfl rfl rfl rfl rfl ?_
  refine KW.build rfl rfl rfl rfl rfl (built_MatrixW _ ek) ?_
  refine KW.lpM rfl rfl (fun s : CpS => [(0, .pointer (some ⟨id, kk, none⟩)), (1, .slice a2 1 c2), (4, .pointer (some ⟨H.n, 0, some 0⟩)), (5, .pointer (some ⟨H.n + 1, 0, some 1⟩)), (6, .int .i64 s.i)]) (fun s => s.S) (fun s => s.A) (fun s => [(H.n, ⟨36, true, [.int .i64 0, .int .i64 0, .slice none 0 0]⟩), (H.n + 1, ⟨36, true, [.int .i64 p, .int .i64 (k + 1 : Nat), s.l]⟩)] ++ s.tail) (fun s => CqI (fun x => x) (augW L vals) H H (Low H.n) s) (fun s => L.length - s.i) (⟨0, Low H.n, H, fun _ => False, [], .slice none 0 0, []⟩) (⟨RwI.start, .inl ⟨rfl, rfl, rfl, rfl⟩⟩) ⟨rfl, rfl, rfl, rfl, rfl, trivial⟩ rfl rfl (rfl) (fun s hi bE n => ?_)
  obtain ⟨i, S1, A1, V, cs, l, tail⟩ := s
  obtain ⟨hq, hform⟩ := hi
  simp only at hq hform
  haveI : Stp (Low H.n) H S1 A1 := ⟨hq.old⟩
  have hle := hq.le
  have hcl := hq.b.len
  rw [List.length_map, List.length_take] at hcl
  simp only at hle hcl
  have hs1 := hs.up (S' := S1) (H' := A1)
  have hv1 := hv.up (S' := S1) (H' := A1)
  have hcs1 := hcs.up (S' := S1) (H' := A1)
  rcases hform with ⟨hi0, e1, e2, e3⟩ | ⟨hi0, o, e1, e2⟩
  case' inl => subst e1 e2 e3
  case' inr => subst e1 e2
  all_goals
    refine KW.ldF 2 hv1 rfl rfl rfl rfl rfl rfl rfl rfl rfl ?_
    refine KW.cnd rfl rfl (fun j1 => ?gin) (fun j1 => ?gout)
    case gin =>
      have j1 : (i : Int) < (L.length : Int) := j1
      refine KW.ldF 2 hv1 rfl rfl rfl rfl rfl rfl rfl rfl rfl ?_
      refine KW.getL hs1 rfl rfl rfl rfl rfl rfl rfl rfl rfl rfl rfl rfl rfl rfl rfl rfl (by omega) (j1) (fun y ay cy hy hsy => ?_)
      have hy : L[i]? = some y := hy
      have hym := hL y (List.mem_of_getElem? hy)
      obtain ⟨w, hw⟩ : ∃ w, vals[i]? = some w := ⟨vals[i]'(by omega), List.getElem?_eq_getElem (by omega)⟩
      have hWi := augW_at hy hw
      refine KW.ids (fun hlow hvar => ?_)
      refine KW.fact (fun _ g => g.nle (H1 := H)) (fun hn0 => ?_)
      refine KW.callN1 rfl rfl rfl rfl rfl (l00OwnC (by omega) hsy) (fun v HC SC mC _ _ hv => ?_)
      obtain ⟨o3, rfl, hno3, hmo3⟩ := hv
      have t1 := (inferInstance : Stp S1 A1 SC HC).st
      have hSo3 : SC o3 := (inferInstance : On (New _ HC.n) HC SC HC).st o3 hno3 |>.1
      have ho3 : o3 < HC.n := hno3.2
      have ho3n : n ≤ o3 := hno3.1
      have t2 : St S1 A1 (fun id => SC id ∧ id ≠ o3) HC := fun id h => ⟨⟨(t1 id h).1, fun e => by have := hlow id h; omega⟩, (t1 id h).2⟩
      haveI : On S1 A1 (fun id => SC id ∧ id ≠ o3) HC := ⟨t2⟩
      refine KW.thaw o3 _ hSo3 hmo3 ?_
      have hcs2 := hcs1.up (S' := fun id => SC id ∧ id ≠ o3) (H' := HC)
      have hyw : (y ++ [w]).length = y.length + 1 := by simp
      have hyc : y.map (Value.int .i64) ++ [.int .i64 w] = (y ++ [w]).map (Value.int .i64) := by simp
      first
        | (refine KW.lpM rfl rfl (fun s : Nat × Nat => [(0, .pointer (some ⟨id, kk, none⟩)), (1, .slice a2 1 c2), (4, .pointer (some ⟨H.n, 0, some 0⟩)), (5, .pointer (some ⟨H.n + 1, 0, some 1⟩)), (6, .int .i64 i), (7, .slice (some ⟨s.2, 0, some 1⟩) (y.length + s.1) (y.length + s.1)), (8, .int .i64 s.1)]) (fun _ => fun id => SC id ∧ id ≠ o3) (fun _ => HC) (fun s => [(H.n, ⟨36, true, [.int .i64 0, .int .i64 0, .slice none 0 0]⟩), (H.n + 1, ⟨36, true, [.int .i64 p, .int .i64 (k + 1 : Nat), .slice (some ⟨o, 0, some 1⟩) i i]⟩), (o, ⟨22, true, cs⟩), (s.2, ⟨2, true, (if s.1 = 0 then y else y ++ [w]).map (Value.int .i64)⟩)]) (fun s => s.1 ≤ 1) (fun s => 1 - s.1) (0, o3) (Nat.zero_le 1) ⟨rfl, rfl, rfl, rfl, rfl, rfl, rfl, trivial⟩ rfl rfl rfl (fun s hi bE n => ?_))
        | (refine KW.lpM rfl rfl (fun s : Nat × Nat => [(0, .pointer (some ⟨id, kk, none⟩)), (1, .slice a2 1 c2), (4, .pointer (some ⟨H.n, 0, some 0⟩)), (5, .pointer (some ⟨H.n + 1, 0, some 1⟩)), (6, .int .i64 i), (7, .slice (some ⟨s.2, 0, some 1⟩) (y.length + s.1) (y.length + s.1)), (8, .int .i64 s.1)]) (fun _ => fun id => SC id ∧ id ≠ o3) (fun _ => HC) (fun s => [(H.n, ⟨36, true, [.int .i64 0, .int .i64 0, .slice none 0 0]⟩), (H.n + 1, ⟨36, true, [.int .i64 p, .int .i64 (k + 1 : Nat), .slice none 0 0]⟩), (s.2, ⟨2, true, (if s.1 = 0 then y else y ++ [w]).map (Value.int .i64)⟩)]) (fun s => s.1 ≤ 1) (fun s => 1 - s.1) (0, o3) (Nat.zero_le 1) ⟨rfl, rfl, rfl, rfl, rfl, rfl, rfl, trivial⟩ rfl rfl rfl (fun s hi bE n => ?_))
      all_goals
        obtain ⟨j, oj⟩ := s
        simp only at hi
        rcases Nat.lt_or_ge j 1 with hj | hj
        · obtain rfl : j = 0 := by omega
          refine KW.yes rfl rfl (by show (0 : Int) < 1; omega) ?_
          refine KW.getL hcs2 rfl rfl rfl rfl rfl rfl rfl rfl rfl rfl rfl rfl rfl rfl rfl rfl (by omega) (by show (0 : Int) < 1; omega) (fun y2 ay2 cy2 hy2 hsy2 => ?_)
          have hy2 : [vals][0]? = some y2 := hy2
          cases hy2
          refine KW.getI hsy2 rfl rfl rfl rfl rfl rfl rfl rfl rfl rfl rfl rfl rfl rfl rfl rfl (by omega) (by omega) (fun w2 hw2 => ?_)
          have hw2 : vals[i]? = some w2 := hw2
          rw [hw] at hw2
          cases hw2
          first
            | (refine KW.app1 (xs := y.map (Value.int .i64)) (v := .int .i64 w) 3 4 rfl rfl rfl rfl rfl rfl rfl rfl rfl rfl rfl rfl rfl rfl rfl rfl rfl rfl rfl rfl rfl rfl rfl (by simp) (by show (_ + 1) * 8 ≤ _; omega) (by omega) ?_
               exact KW.nxt rfl rfl (fun H' g => ⟨(1, _), Nat.le_refl 1, Nat.zero_lt_one, ⟨rfl, rfl, rfl, rfl, rfl, rfl, rfl, trivial⟩, g.eqT (by simp)⟩))
            | (refine KW.app1 (xs := y.map (Value.int .i64)) (v := .int .i64 w) 2 3 rfl rfl rfl rfl rfl rfl rfl rfl rfl rfl rfl rfl rfl rfl rfl rfl rfl rfl rfl rfl rfl rfl rfl (by simp) (by show (_ + 1) * 8 ≤ _; omega) (by omega) ?_
               exact KW.nxt rfl rfl (fun H' g => ⟨(1, _), Nat.le_refl 1, Nat.zero_lt_one, ⟨rfl, rfl, rfl, rfl, rfl, rfl, rfl, trivial⟩, g.eqT (by simp)⟩))
        · obtain rfl : j = 1 := by omega
          refine KW.no rfl rfl (by show ¬ (1 : Int) < 1; omega) ?_
          have fin : ∀ (A' : AH) (S' : Ids) (o9 : Nat), (∀ id, S' id ↔ (SC id ∧ id ≠ o3) ∨ id = o9) → St (fun id => SC id ∧ id ≠ o3) HC S' A' → ¬ (SC o9 ∧ o9 ≠ o3) → St S1 A1 S' A' ∧ (∀ id, id = o9 → S' id ∧ H.n ≤ id ∧ ¬ S1 id) := fun A' S' o9 h1 h2 h3 => by
            refine ⟨t2.trans h2, fun id e => ?_⟩
            subst e
            refine ⟨(h1 _).2 (.inr rfl), ?_, fun h => h3 (t2 _ h).1⟩
            rcases Nat.lt_or_ge id H.n with h | h
            · exact absurd (t2 id (hq.old id h).1).1 h3
            · exact h
          first
            | (refine KW.freeze 3 rfl (fun A' S' hnA hSA stA hmA hoA hnS hlow2 => ?_)
               obtain ⟨f1, f2⟩ := fin A' S' _ hSA stA.st hnS
               have hmA : A'.m oj = some ⟨2, true, (y ++ [w]).map (Value.int .i64)⟩ := hmA
               rw [← hyw]
               refine KW.app1 (xs := cs) (v := .slice (some ⟨oj, 0, some 1⟩) (y ++ [w]).length (y ++ [w]).length) 2 3 rfl rfl rfl rfl rfl rfl rfl rfl rfl rfl rfl rfl rfl rfl rfl rfl rfl rfl rfl rfl rfl rfl rfl (by omega) (by show (_ + 1) * 24 ≤ _; omega) (by omega) ?_
               exact KW.nxt rfl rfl (fun H' g => ⟨⟨i + 1, S', A', _, _, _, _⟩, ⟨hq.nextX (o' := 0) f1 f2 hWi (row_ml hmA), .inr ⟨by simp only; omega, _, rfl, rfl⟩⟩, by simp only; omega, ⟨rfl, rfl, rfl, rfl, congrArg (Value.int .i64) (inc64 (by omega)), trivial⟩, g⟩))
            | (refine KW.freeze 2 rfl (fun A' S' hnA hSA stA hmA hoA hnS hlow2 => ?_)
               obtain ⟨f1, f2⟩ := fin A' S' _ hSA stA.st hnS
               have hmA : A'.m oj = some ⟨2, true, (y ++ [w]).map (Value.int .i64)⟩ := hmA
               rw [← hyw]
               refine KW.app0 (v := .slice (some ⟨oj, 0, some 1⟩) (y ++ [w]).length (y ++ [w]).length) 2 rfl rfl rfl rfl rfl rfl rfl rfl rfl rfl rfl rfl rfl rfl rfl rfl rfl rfl rfl rfl rfl rfl (by decide) ?_
               subst hi0
               exact KW.nxt rfl rfl (fun H' g => ⟨⟨1, S', A', _, _, _, _⟩, ⟨hq.nextX (o' := 0) f1 f2 hWi (row_ml hmA), .inr ⟨by simp only; omega, _, rfl, rfl⟩⟩, by simp only; omega, ⟨rfl, rfl, rfl, rfl, rfl, trivial⟩, g⟩))
    case gout =>
      have j1 : ¬ (i : Int) < (L.length : Int) := j1
      have he : i = (augW L vals).length := by omega
      refine KW.retM1 rfl rfl rfl rfl (fun H1 g => ?_)
      first
        | (have h0 : L = [] := List.eq_nil_of_length_eq_zero (by omega)
           subst h0
           exact ⟨none, 0, rfl, .inl ⟨rfl, _, _, rfl, fun _ => rfl⟩⟩)
        | (refine ⟨some ⟨o, 0, some 1⟩, i, by rw [← hWl, ← he]; rfl, ?_⟩
           have hm := ((⟨hq.le, hq.old, hq.b, hq.v⟩ : RwI (fun x => x) (augW L vals) H (Low H.n) H ⟨i, S1, A1, V, cs, o⟩).ml he g (j := 2) rfl (g.ge (H1 := H) (j := 2) rfl)).to (KLe.row (KLe.refl KI))
           rw [← hWl, ← he]
           rw [List.map_id', ← he] at hm
           exact hm)
end
end Go.Proofs.YtijmkfnmdhpakaaGreat.Am
/- Contract: systems of equations solved by the reference. It holds under its own conditions. -/
set_option linter.unusedVariables false
set_option linter.unusedSimpArgs false
set_option maxRecDepth 20000
namespace Go.Proofs.YtijmkfnmdhpakaaGreat.Am
open Go Go.RowKit Go.Proofs Go.Proofs.YtijmkfnmdhpakaaGreat.Pl
open Classical in
def MkSo (p : Int) (k : Nat) (W : List (List Int)) (n : Nat) (v : Value) (H1 : AH) : Prop :=
  if k ∈ (ech p W (k + 1)).2 then ∃ (a : Option Addr) (m c : Nat), v = .tuple #[.slice a m c, .bool false]
  else ∃ a c, v = .tuple #[.slice a k c, .bool true] ∧ KI.Sl (New n H1.n) H1 (.slice a k c) (setF (ech p W (k + 1)).1 (ech p W (k + 1)).2 k (ech p W (k + 1)).2.length)
theorem T4x {a b c : Var} {i : Nat} {ty : TypeId} {cs cs' : List Value} (h : cs = cs') : ([a, b, c, (i, ⟨ty, true, cs⟩)] : List Var) = [a, b, c, (i, ⟨ty, true, cs'⟩)] := by rw [h]
section
variable {S : Ids} {H0 : AH}
theorem l03Solve {p : Int} {k : Nat} (hp : PrimeP p) (hk : k ≤ 100) {L : List (List Int)} {vals : List Int} (hLl : L.length ≤ 100) (hL : Rect p k L) (hvl : vals.length = L.length) (hvi : ∀ v ∈ vals, 0 ≤ v ∧ v < p) {id kk : Nat} {a1 c1 a2 c2} (hv0 : Has3 S H0 id kk [.int .i64 p, .int .i64 k, .slice a1 L.length c1]) (hs0 : KI.sl.Sl S H0 (.slice a1 L.length c1) L) (hc0 : KI.Sl S H0 (.slice a2 vals.length c2) vals) :
    SpecM Tryz.prog S H0 125 [.pointer (some ⟨id, kk, none⟩), .slice a2 vals.length c2] (MkSo p k (augW L vals)) := by
  have hp31 : 2 ≤ p ∧ p ≤ 31 := ⟨hp.1, hp.2.1⟩
  have hf := fer hp
  have hWl := augW_len (L := L) (vals := vals) hvl
  have hWR := augW_rect hL hvi
  have hBW : B_Int64SS (augW L vals) := rect_sml hWR (by omega) (by omega)
  have sh := ech_shape hf hWR (k + 1)
  have hll := (ech_ok (p := p) (by have := hf.1; omega) hWR (k + 1)).2.1
  refine SpecM.of1 Tryz.func125 rfl (by kernel_rfl) rfl (fun H _ => ?_)
  have hs := hs0.up (S' := Low H.n) (H' := H)
  have hcs := hc0.up (S' := Low H.n) (H' := H)
  have hv := hv0.up (S' := Low H.n) (H' := H)
  refine KW.lit rfl rfl rfl rfl rfl rfl rfl rfl rfl rfl [.slice a2 vals.length c2] rfl rfl (fun v hv => by simp at hv; subst hv; rfl) rfl ?_
  refine KW.callNV1 rfl rfl rfl rfl rfl (fun H1 g _ => l03Beside hp31 hk hLl hL hvl hv.up hs.up ((Cl.one (d := KI.sl) (y := vals) (ys := [.slice a2 vals.length c2]) ⟨_, rfl, hcs.up⟩).sl (g.blk (j := 0) rfl).2 (g.blk (j := 0) rfl).1 rfl (fun id hid => hid) (Nat.le_refl _))) (fun v H1 S1 m1 _ _ hv => ?_)
  obtain ⟨a3, c3, rfl, hW⟩ := hv
  have hW1 : KI.sl.Sl S1 H1 (.slice a3 (augW L vals).length c3) (augW L vals) := by rw [hWl]; exact hW.up
  refine KW.callNV1 rfl rfl rfl rfl rfl (fun H1 g _ => l03Echelon (k := k + 1) hp31 (by omega) hBW hWR (g.has (j := 1) rfl (by rw [hWl])) hW1.up) (fun v HE SE mE _ _ hv => ?_)
  obtain ⟨a5, c5, a6, c6, rfl, hE, hP⟩ := hv
  have hv1 := hv.up (S' := SE) (H' := HE)
  obtain ⟨ee, he⟩ : ∃ ee, ech p (augW L vals) (k + 1) = ee := ⟨_, rfl⟩
  rw [he] at hE hP sh hll
  unfold MkSo
  rw [he]
  obtain ⟨E, P⟩ := ee
  simp only at hE hP sh hll ⊢
  have hPE := sh.le
  have hE1 := hE.upS (S' := SE) (H' := HE)
  have hP1 := hP.ups (S' := SE) (H' := HE)
  refine KW.ldF 1 hv1 rfl rfl rfl rfl rfl rfl rfl rfl rfl ?_
  refine KW.mk1 rfl rfl rfl rfl rfl rfl rfl rfl rfl rfl rfl rfl (k) rfl rfl (by omega) (by show 8 * _ ≤ _; omega) ?_
  refine KW.lpM rfl rfl (fun i : Nat => [(0, .pointer (some ⟨id, kk, none⟩)), (7, .pointer (some ⟨HE.n, 0, some 2⟩)), (8, .slice a6 P.length c6), (9, .slice (some ⟨HE.n + 1, 0, some 1⟩) k k), (10, .int .i64 i)]) (fun i => SE) (fun i => HE) (fun i => [(H.n, ⟨22, true, [.slice a2 vals.length c2]⟩), (H1.n, ⟨36, true, [.int .i64 p, .int .i64 (k + 1 : Nat), .slice a3 L.length c3]⟩), (HE.n, ⟨36, true, [.int .i64 p, .int .i64 (k + 1 : Nat), .slice a5 P.length c5]⟩), (HE.n + 1, ⟨2, true, (setF E P k i).map (Value.int .i64)⟩)]) (fun i => i ≤ P.length ∧ ∀ j, j < i → ∀ q, P[j]? = some q → q ≠ k) (fun i => P.length - i) (0) (⟨Nat.zero_le _, fun j hj => absurd hj (Nat.not_lt_zero _)⟩) ⟨rfl, rfl, rfl, rfl, rfl, trivial⟩ rfl rfl (by simp only [setF, List.map_replicate]; rfl) (fun i hi bE n => ?_)
  obtain ⟨ile, ino⟩ := hi
  refine KW.cnd rfl rfl (fun k1 => ?_) (fun k1 => ?_)
  · have k1 : (i : Int) < (P.length : Int) := k1
    obtain ⟨q, hq2⟩ : ∃ q, P[i]? = some q := ⟨P[i]'(by omega), List.getElem?_eq_getElem (by omega)⟩
    obtain ⟨r, hr⟩ : ∃ r, E[i]? = some r := ⟨E[i]'(by omega), List.getElem?_eq_getElem (by omega)⟩
    have hpv := sh.piv i q r hq2 hr
    have hrl := sh.rect r (List.mem_of_getElem? hr)
    have hmap : (P.map fun (i : Nat) => (i : Int))[i]? = some (q : Int) := by rw [List.getElem?_map, hq2]; rfl
    refine KW.getI hP1 rfl rfl rfl rfl rfl rfl rfl rfl rfl rfl rfl rfl rfl rfl rfl rfl (by omega) (by simp; omega) (fun x hx => ?_)
    have hx : (P.map fun (i : Nat) => (i : Int))[i]? = some x := hx
    rw [hmap] at hx
    cases hx
    refine KW.ldF 1 hv1 rfl rfl rfl rfl rfl rfl rfl rfl rfl ?_
    by_cases hqk : q = k
    · refine KW.cT rfl rfl (by simp [hqk]) ?_
      refine KW.lit rfl rfl rfl rfl rfl rfl rfl rfl rfl rfl [] rfl rfl (fun v hv => by simp at hv) rfl ?_
      refine KW.retM1 rfl rfl rfl rfl (fun H1 g => ?_)
      rw [if_pos (by rw [← hqk]; exact List.mem_of_getElem? hq2)]
      exact ⟨_, _, _, rfl⟩
    · refine KW.cF rfl rfl (by simp; omega) ?_
      have htk : (E.take P.length)[i]? = some r := by rw [List.getElem?_take, if_pos (by omega)]; exact hr
      refine KW.getI hP1 rfl rfl rfl rfl rfl rfl rfl rfl rfl rfl rfl rfl rfl rfl rfl rfl (by omega) (by simp; omega) (fun x hx => ?_)
      have hx : (P.map fun (i : Nat) => (i : Int))[i]? = some x := hx
      rw [hmap] at hx
      cases hx
      refine KW.getL hE1 rfl rfl rfl rfl rfl rfl rfl rfl rfl rfl rfl rfl rfl rfl rfl rfl (by omega) (by rw [List.length_take]; omega) (fun y2 ay cy hy2 hsy2 => ?_)
      have hy2 : (E.take P.length)[i]? = some y2 := hy2
      rw [htk] at hy2
      cases hy2
      refine KW.ldF 1 hv1 rfl rfl rfl rfl rfl rfl rfl rfl rfl ?_
      refine KW.getI hsy2 rfl rfl rfl rfl rfl rfl rfl rfl rfl rfl rfl rfl rfl rfl rfl rfl (by omega) (by omega) (fun z hz => ?_)
      have hz : r[k]? = some z := hz
      refine KW.idx0 rfl rfl rfl rfl rfl rfl rfl rfl rfl (by omega) (by omega) ?_
      refine KW.st1 3 rfl rfl rfl rfl rfl rfl rfl rfl rfl rfl rfl rfl (by simp [setF_len]; omega) ?_
      have e : setF E P k (i + 1) = (setF E P k i).set q z := by
        have e1 : P.getD i 0 = q := by rw [List.getD_eq_getElem?_getD, hq2]; rfl
        have e2 : E.getD i [] = r := by rw [List.getD_eq_getElem?_getD, hr]; rfl
        have e3 : r.getD k 0 = z := by rw [List.getD_eq_getElem?_getD, hz]; rfl
        simp only [setF, e1, e2, e3]
      have hset : ((setF E P k i).map (Value.int .i64)).set (0 + (q : Int).toNat * 1) (.int .i64 z) = (setF E P k (i + 1)).map (Value.int .i64) := by
        rw [e, List.map_set, show 0 + (q : Int).toNat * 1 = q by omega]
      refine KW.nxt rfl rfl (fun H' g => ⟨i + 1, ⟨by omega, upto ino (fun q' hq' => by rw [hq2] at hq'; cases hq'; exact hqk)⟩, by first | omega | (simp only; omega), ⟨rfl, rfl, rfl, rfl, congrArg (Value.int .i64) (inc64 (by omega)), trivial⟩, g.eqT (T4x hset)⟩)
  · have k1 : ¬ (i : Int) < (P.length : Int) := k1
    obtain rfl : i = P.length := by omega
    have hn : k ∉ P := fun hm => by
      obtain ⟨j, hj⟩ := List.getElem?_of_mem hm
      exact ino j (List.getElem?_eq_some_iff.1 hj).1 _ hj rfl
    refine KW.retM1 rfl rfl rfl rfl (fun H1 g => ?_)
    rw [if_neg hn]
    have gv := g.vars 3 _ rfl
    have hb := g.blk (j := 3) rfl
    have el := setF_len (E := E) (P := P) (k := k) P.length
    refine ⟨some ⟨HE.n + 1, 0, some 1⟩, k, rfl, ?_⟩
    have h1 := (row_ml (o := HE.n + 1) hb.1).sl
    rw [el] at h1
    exact h1.more (fun id h => by
      have := hb.2
      have := g.n_
      rw [h]
      exact ⟨by omega, by omega⟩)
end
end Go.Proofs.YtijmkfnmdhpakaaGreat.Am
/- Contracts: the secret is rebuilt, on both sides. Each holds under its own conditions. -/
set_option linter.unusedVariables false
set_option linter.unusedSimpArgs false
set_option maxRecDepth 20000
namespace Go.Proofs.YtijmkfnmdhpakaaGreat.Am
open Go Go.RowKit Go.Proofs Go.Proofs.YtijmkfnmdhpakaaGreat.Pl
theorem dF_behind {r : List Int} {v : Int} : ∀ (t : List Int) (c : Nat), c + t.length ≤ r.length → dF (r ++ [v]) c t = dF r c t
  | [], _, _ => rfl
  | a :: t, c, h => by
    simp only [List.length_cons] at h
    simp only [dF, dF_behind (r := r) (v := v) t (c + 1) (by omega)]
    congr 2
    rw [List.getD_eq_getElem?_getD, List.getD_eq_getElem?_getD, List.getElem?_append_left (by omega)]
theorem sat_aug {p : Int} {k : Nat} {r x : List Int} {v : Int} (hr : r.length = k) (hx : x.length = k) : Sat p k (r ++ [v]) x ↔ Cg p (dF r 0 x) v := by
  unfold Sat Cg
  rw [dF_behind x 0 (by omega)]
  have e : (r ++ [v]).getD k 0 = v := by
    rw [List.getD_eq_getElem?_getD, List.getElem?_append_right (by omega), hr, Nat.sub_self]; rfl
  rw [e]
theorem allS_aug {p : Int} {k : Nat} {L : List (List Int)} {vals x : List Int} (hL : ∀ r ∈ L, r.length = k) (hl : vals.length = L.length) (hx : x.length = k) : AllS p k (augW L vals) x ↔ ∀ (i : Nat) r v, L[i]? = some r → vals[i]? = some v → Cg p (dF r 0 x) v := by
  constructor
  · intro h i r v hr hv
    exact (sat_aug (hL r (List.mem_of_getElem? hr)) hx).1 (h i _ (augW_at hr hv))
  · intro h i w hw
    have hi := (List.getElem?_eq_some_iff.1 hw).1
    rw [augW_len hl] at hi
    have h1 : L[i]? = some L[i] := List.getElem?_eq_getElem hi
    have h2 : vals[i]? = some (vals[i]'(by omega)) := List.getElem?_eq_getElem (by omega)
    have h3 := augW_at h1 h2
    rw [hw] at h3
    cases h3
    exact (sat_aug (hL _ (List.mem_of_getElem? h1)) hx).2 (h i _ _ h1 h2)
theorem lcS_big {p : Int} {k : Nat} {L : List (List Int)} (hL : Rect p k L) (cs : List Int) {j : Nat} (hj : k ≤ j) : lcS L cs j = 0 := lcS_all0 L cs fun r hr => by
  rw [List.getD_eq_getElem?_getD, List.getElem?_eq_none (by have := (hL r hr).1; omega)]; rfl
theorem getD_big {t : List Int} {k j : Nat} (ht : t.length = k) (hj : k ≤ j) : t.getD j 0 = 0 := by
  rw [List.getD_eq_getElem?_getD, List.getElem?_eq_none (by omega)]; rfl
/-- The columns' equations say that the rows make the target. -/
theorem turned_iff {p : Int} {k : Nat} {L : List (List Int)} {t cs : List Int} (hL : Rect p k L) (ht : t.length = k) (hc : cs.length = L.length) : AllS p L.length (augW (trL L k) t) cs ↔ ∀ j, Cg p (lcS L cs j) (t.getD j 0) := by
  rw [allS_aug (fun r hr => (trL_rect hL r hr).1) (by rw [trL_len, ht]) hc]
  have hcol : ∀ j, dF (colL L j) 0 cs = lcS L cs j := fun j => by
    have := dF_lc (j := j) L cs [] hc.symm
    simpa [colL] using this
  constructor
  · intro h j
    rcases Nat.lt_or_ge j k with hj | hj
    · have := h j (colL L j) (t.getD j 0) (by unfold trL; rw [List.getElem?_map, range_at hj]; rfl) (by rw [List.getD_eq_getElem?_getD, List.getElem?_eq_getElem (by omega)]; rfl)
      rw [hcol] at this
      exact this
    · rw [lcS_big hL cs hj, getD_big ht hj]; exact Cg.rfl'
  · intro h i r v hr hv
    unfold trL at hr
    rw [List.getElem?_map] at hr
    obtain ⟨q, hq, rfl⟩ := Option.map_eq_some_iff.1 hr
    have hik : i < k := by have := (List.getElem?_eq_some_iff.1 hq).1; simpa using this
    rw [range_at hik] at hq
    cases hq
    rw [hcol]
    have := h i
    rw [List.getD_eq_getElem?_getD, hv] at this
    exact this
theorem unitL_in {p : Int} {k : Nat} (hp : 2 ≤ p) (hk : 1 ≤ k) : (unitL k).length = k ∧ ∀ a ∈ unitL k, 0 ≤ a ∧ a < p := ⟨unitL_len hk, fun a ha => by
  rcases List.mem_cons.1 ha with h | h
  · rw [h]; omega
  · rw [List.eq_of_mem_replicate h]; omega⟩
/-- Both sides find a combination, or none of them. -/
theorem found_iff {p : Int} {k : Nat} {L : List (List Int)} {t : List Int} (hf : Fer p) (hL : Rect p k L) (ht : t.length = k ∧ ∀ a ∈ t, 0 ≤ a ∧ a < p) : comb p L t = none ↔ L.length ∈ (ech p (augW (trL L k) t) (L.length + 1)).2 := by
  have hWR : Rect p (L.length + 1) (augW (trL L k) t) := augW_rect (trL_rect hL) ht.2
  constructor
  · intro h
    refine Classical.byContradiction fun hn => ?_
    have h1 := setF_sol hf hWR hn
    exact comb_complete hf hL ht ((turned_iff hL ht.1 (setF_len _)).1 h1) h
  · intro h
    cases hc : comb p L t with
    | none => rfl
    | some cs =>
      obtain ⟨⟨h1, h2⟩, h3⟩ := comb_sound hf hL ht hc
      exact absurd h (sol_none hf hWR h1 ((turned_iff hL ht.1 h1).2 h3))
theorem dotN_dFx {r : List Int} : ∀ (x : List Int) (c : Nat), dotN (r.drop c) x x.length = dF r c x := by
  have key : ∀ (x pre : List Int) (c : Nat), dotN (r.drop c) (pre ++ x) (pre.length + x.length) = dotN (r.drop c) (pre ++ x) pre.length + dF r (c + pre.length) x := fun x => by
    induction x with
    | nil => intro pre c; simp [dF]
    | cons a t ih =>
      intro pre c
      have h := ih (pre ++ [a]) c
      simp only [List.append_assoc, List.cons_append, List.nil_append, List.length_append, List.length_cons, List.length_nil, Nat.zero_add] at h
      simp only [List.length_cons, dF]
      rw [show pre.length + (t.length + 1) = pre.length + 1 + t.length by omega, h]
      simp only [dotN]
      have e1 : (pre ++ a :: t).getD pre.length 0 = a := by
        rw [List.getD_eq_getElem?_getD, List.getElem?_append_right (Nat.le_refl _), Nat.sub_self]; rfl
      have e2 : (r.drop c).getD pre.length 0 = r.getD (c + pre.length) 0 := by
        rw [List.getD_eq_getElem?_getD, List.getD_eq_getElem?_getD, List.getElem?_drop]
      rw [e1, e2, show c + (pre.length + 1) = c + pre.length + 1 by omega]
      omega
  intro x c
  have := key x [] c
  simpa [dotN] using this
theorem dotS_dF {p : Int} {a b : List Int} (h : a.length = b.length) : dotS p a b = dF a 0 b % p := by
  unfold dotS
  rw [h]
  have := dotN_dFx (r := a) b 0
  rw [List.drop_zero] at this
  rw [this]
/-- .. and the same value, where what is held fits. -/
theorem value_same {p : Int} {k : Nat} {L : List (List Int)} {t held cs : List Int} (hf : Fer p) (hL : Rect p k L) (ht : t.length = k ∧ ∀ a ∈ t, 0 ≤ a ∧ a < p) (hh : held.length = L.length) (hhi : ∀ a ∈ held, 0 ≤ a ∧ a < p) (hc : comb p L t = some cs) (hs : k ∉ (ech p (augW L held) (k + 1)).2) :
    dotS p (setF (ech p (augW (trL L k) t) (L.length + 1)).1 (ech p (augW (trL L k) t) (L.length + 1)).2 L.length (ech p (augW (trL L k) t) (L.length + 1)).2.length) held = dotS p cs held := by
  have hWR : Rect p (L.length + 1) (augW (trL L k) t) := augW_rect (trL_rect hL) ht.2
  obtain ⟨⟨h1, h2⟩, h3⟩ := comb_sound hf hL ht hc
  have hn : L.length ∉ (ech p (augW (trL L k) t) (L.length + 1)).2 := fun h => by
    have := (found_iff hf hL ht).2 h
    rw [hc] at this
    cases this
  have h4 := (turned_iff hL ht.1 (setF_len _)).1 (setF_sol hf hWR hn)
  have hX := (allS_aug (fun r hr => (hL r hr).1) hh (setF_len _)).1 (setF_sol hf (augW_rect hL hhi) hs)
  have l1 := setF_len (E := (ech p (augW (trL L k) t) (L.length + 1)).1) (P := (ech p (augW (trL L k) t) (L.length + 1)).2) (k := L.length) (ech p (augW (trL L k) t) (L.length + 1)).2.length
  rw [dotS_dF (by omega), dotS_dF (by omega)]
  exact val_same hh.symm hX h4 h3 (by omega) (by omega)
/-- What is rebuilt, with its code. -/
noncomputable def rebC (x : T_Scheme) (g held : List Int) : Int :=
  if codeH x g held = 0 then (if (comb x.2.2.1 (heldR x.2.1 x.2.2.2.2 (bitsOf g)) (unitL x.2.2.2.1.toNat)).isNone = true then 6 else if x.2.2.2.1.toNat ∈ (ech x.2.2.1 (augW (heldR x.2.1 x.2.2.2.2 (bitsOf g)) held) (x.2.2.2.1.toNat + 1)).2 then 4 else 0) else codeH x g held
noncomputable def rebV (x : T_Scheme) (g held : List Int) : Int :=
  if rebC x g held = 0 then dotS x.2.2.1 ((comb x.2.2.1 (heldR x.2.1 x.2.2.2.2 (bitsOf g)) (unitL x.2.2.2.1.toNat)).getD []) held else 0
section
variable {S : Ids} {H0 : AH}
theorem rebuild (h' p c : Int) (ow g held : List Int) (rows : List (List Int)) {a1 c1 a2 c2 a3 c3 a4 c4} (hB : B_Scheme (h', ow, p, c, rows)) (hG : B_Int64S g) (hH : B_Int64S held) (h1 : KI.Sl S H0 (.slice a1 ow.length c1) ow) (h2 : KI.sl.Sl S H0 (.slice a2 rows.length c2) rows) (h3 : KI.Sl S H0 (.slice a3 g.length c3) g) (h4 : KI.Sl S H0 (.slice a4 held.length c4) held) :
    Spec Tryz.prog S H0 94 [.agg #[.int .i64 h', .slice a1 ow.length c1, .int .i64 p, .int .i64 c, .slice a2 rows.length c2], .slice a3 g.length c3, .slice a4 held.length c4] (fun v => v = .tuple #[.int .i64 (rebV (h', ow, p, c, rows) g held), .int .i64 (rebC (h', ow, p, c, rows) g held)]) := by
  refine Spec.of1 Tryz.func94 rfl (by kernel_rfl) rfl (fun H _ => ?_)
  have s1 := h1.up (S' := Low H.n) (H' := H)
  have s2 := h2.up (S' := Low H.n) (H' := H)
  have s3 := h3.up (S' := Low H.n) (H' := H)
  have s4 := h4.up (S' := Low H.n) (H' := H)
  have hO : B_Int64S ow := hB.2.1
  have hBr : B_Int64SS rows := hB.2.2.2.2
  refine KW.callE rfl rfl rfl rfl rfl (heldCode (h', ow, p, c, rows) g held hB hG hH s1 s2 s3 s4) (fun _ _ => ?_)
  by_cases hc : codeH (h', ow, p, c, rows) g held = 0
  · obtain ⟨hk, hg, hhl, hhe⟩ := codeH_ok hc
    have hk : OkSch h' ow p c rows := hk
    simp only at hg hhl hhe
    refine KW.cF rfl rfl (by simp [hc]) ?_
    obtain ⟨q, hq⟩ : ∃ q : Nat, h' = q := ⟨h'.toNat, by have := hk.h1; omega⟩
    have hq7 := hk.h7
    rw [hq] at hg
    have hgs := rises_small hg
    have hbt : bitsOf g < 256 := Nat.lt_of_lt_of_le (bitsOf_lt (m := q) (fun x hx => by have := hgs x hx; omega)) (Nat.pow_le_pow_right (by decide) (show q ≤ 8 by omega))
    obtain ⟨k, rfl⟩ : ∃ k : Nat, c = ((k + 1 : Nat) : Int) := ⟨c.toNat - 1, by have := hk.c1; omega⟩
    have hpr := hk.mat.pr
    have hf := fer hpr
    have hp2 := hpr.1
    have hp31 := hpr.2.1
    have hk12 := hk.mat.c1
    refine KW.callE rfl rfl rfl rfl rfl (crowdOf (m := q) (by omega) (by omega) hgs s3) (fun _ _ => ?_)
    refine KW.callN1 rfl rfl rfl rfl rfl (Am.held h' p ((k + 1 : Nat) : Int) (bitsOf g) (by omega) hO hBr hk s1 s2) (fun v HM SM mM _ _ hv => ?_)
    obtain ⟨am, cm, rfl, hM⟩ := hv
    have hM := hM.up (S' := SM) (H' := HM)
    have hLr : Rect p (k + 1) (heldR ow rows (bitsOf g)) := held_rect hk rfl
    have hLl : (heldR ow rows (bitsOf g)).length ≤ 20 := held_len hk
    have hhL : held.length = (heldR ow rows (bitsOf g)).length := by rw [hhl]; unfold heldR rowsG; rw [selR_len]
    have s5 := s4.up (S' := SM) (H' := HM)
    obtain ⟨L, eL⟩ : ∃ L, heldR ow rows (bitsOf g) = L := ⟨_, rfl⟩
    have eR : rebC (h', ow, p, ((k + 1 : Nat) : Int), rows) g held = if (comb p L (unitL (k + 1))).isNone = true then 6 else if (k + 1) ∈ (ech p (augW L held) (k + 1 + 1)).2 then 4 else 0 := by
      unfold rebC; rw [if_pos hc]; simp only [Int.toNat_natCast, eL]
    have eV : rebV (h', ow, p, ((k + 1 : Nat) : Int), rows) g held = if rebC (h', ow, p, ((k + 1 : Nat) : Int), rows) g held = 0 then dotS p ((comb p L (unitL (k + 1))).getD []) held else 0 := by
      unfold rebV; simp only [Int.toNat_natCast, eL]
    rw [eL] at hM hLr hLl hhL ⊢
    have hhi : ∀ a ∈ held, 0 ≤ a ∧ a < p := fun a ha => by have := hhe a ha; omega
    have hui := unitL_in (p := p) hp2 (show 1 ≤ k + 1 by omega)
    refine KW.callN1 rfl rfl rfl rfl rfl (unit (k + 1) (by omega) (by omega)) (fun v HU SU mU _ _ hv => ?_)
    obtain ⟨au, cu, rfl, hU⟩ := hv
    have hM2 := hM.up (S' := SU) (H' := HU)
    have s6 := s5.up (S' := SU) (H' := HU)
    refine KW.callN1 rfl rfl rfl rfl rfl (combination hpr (by omega) (by omega) (by omega) hLr hui hM2 hU.ups) (fun v HC SC mC _ _ hv => ?_)
    cases hcb : comb p L (unitL (k + 1)) with
    | none =>
      rw [hcb] at hv
      obtain rfl := hv
      have e6 : rebC (h', ow, p, ((k + 1 : Nat) : Int), rows) g held = 6 := by rw [eR, hcb]; rfl
      refine KW.cT rfl rfl (by first | (simp; done) | decide) ?_
      refine KW.retM1 rfl rfl rfl rfl (fun H1 g => by rw [eV, e6]; rfl)
    | some cs =>
      rw [hcb] at hv
      obtain ⟨ac, cc, rfl, hC⟩ := hv
      obtain ⟨⟨e1, e2⟩, e3⟩ := comb_sound hf hLr hui hcb
      refine KW.cF rfl rfl (by first | (simp; done) | decide) ?_
      have hM3 := hM2.up (S' := SC) (H' := HC)
      have s7 := s6.up (S' := SC) (H' := HC)
      refine KW.callN1 rfl rfl rfl rfl rfl (solve hpr (by omega) (by omega) hLr hhL hhi hM3 s7) (fun v HS SS mS _ _ hv => ?_)
      obtain ⟨a9, n9, c9, rfl⟩ := hv
      have hC2 := hC.up (S' := SS) (H' := HS)
      have s8 := s7.up (S' := SS) (H' := HS)
      by_cases hk1 : (k + 1) ∈ (ech p (augW L held) (k + 1 + 1)).2
      · have e4 : rebC (h', ow, p, ((k + 1 : Nat) : Int), rows) g held = 4 := by rw [eR, hcb, if_pos hk1]; rfl
        refine KW.cT rfl rfl (by simp [hk1]) ?_
        refine KW.retM1 rfl rfl rfl rfl (fun H1 g => by rw [eV, e4]; rfl)
      · have e0 : rebC (h', ow, p, ((k + 1 : Nat) : Int), rows) g held = 0 := by rw [eR, hcb, if_neg hk1]; rfl
        refine KW.cF rfl rfl (by simp [hk1]) ?_
        refine KW.callE rfl rfl rfl rfl rfl (dot p hpr (by omega) (by omega) (fun a ha => by have := e2 a ha; omega) (fun a ha => by have := hhi a ha; omega) hC2 s8) (fun _ _ => ?_)
        refine KW.retM1 rfl rfl rfl rfl (fun H1 g => by rw [eV, e0, hcb]; rfl)
  · have e1 : rebC (h', ow, p, c, rows) g held = codeH (h', ow, p, c, rows) g held := by unfold rebC; rw [if_neg hc]
    refine KW.cT rfl rfl (by simp [hc]) ?_
    refine KW.retM1 rfl rfl rfl rfl (fun H1 g => by unfold rebV; rw [e1, if_neg hc]; rfl)
/-- The reference's combination of rows. -/
theorem l03Combine {p : Int} {k : Nat} (hp : PrimeP p) (hk : k ≤ 100) {L : List (List Int)} {t : List Int} (hLl : L.length ≤ 100) (hL : Rect p k L) (ht : t.length = k ∧ ∀ a ∈ t, 0 ≤ a ∧ a < p) {id kk : Nat} {a1 c1 a2 c2} (hv0 : Has3 S H0 id kk [.int .i64 p, .int .i64 k, .slice a1 L.length c1]) (hs0 : KI.sl.Sl S H0 (.slice a1 L.length c1) L) (ht0 : KI.Sl S H0 (.slice a2 t.length c2) t) :
    SpecM Tryz.prog S H0 123 [.pointer (some ⟨id, kk, none⟩), .slice a2 t.length c2] (MkSo p L.length (augW (trL L k) t)) := by
  refine SpecM.of1 Tryz.func123 rfl (by kernel_rfl) rfl (fun H _ => ?_)
  refine KW.callN1 rfl rfl rfl rfl rfl (l03Turned (by omega) (by omega) hL hv0.up hs0.up) (fun v HT ST mT _ _ hv => ?_)
  obtain ⟨aT, cT, rfl, hT⟩ := hv
  have hT1 := hT.up (S' := ST) (H' := HT)
  have ht1 := ht0.up (S' := ST) (H' := HT)
  refine KW.callNV1 rfl rfl rfl rfl rfl (fun H1 g _ => l03Solve hp hLl (L := trL L k) (by rw [trL_len]; omega) (trL_rect hL) (by rw [trL_len, ht.1]) ht.2 (g.has (j := 0) rfl rfl) hT1.up ht1.up) (fun v HS SS mS _ _ hv => ?_)
  unfold MkSo at hv
  split at hv
  · rename_i hm
    obtain ⟨a, m, c, rfl⟩ := hv
    refine KW.retM1 rfl rfl rfl rfl (fun H1 g => ?_)
    unfold MkSo
    rw [if_pos hm]
    exact ⟨_, _, _, rfl⟩
  · rename_i hm
    obtain ⟨a, c, rfl, hO⟩ := hv
    refine KW.retM1 rfl rfl rfl rfl (fun H1 g => ?_)
    unfold MkSo
    rw [if_neg hm]
    haveI := g.out (X := New (HT.n + 1) HS.n) (H := HS) (lo := H.n) (fun id p => by have := p.1; omega)
    exact ⟨a, c, rfl, hO.up⟩
theorem specRebuild (h' p c : Int) (ow gg held : List Int) (rows : List (List Int)) {a1 c1 a2 c2 a3 c3 a4 c4} (hB : B_Scheme (h', ow, p, c, rows)) (hG : B_Int64S gg) (hH : B_Int64S held) (h1 : KI.Sl S H0 (.slice a1 ow.length c1) ow) (h2 : KI.sl.Sl S H0 (.slice a2 rows.length c2) rows) (h3 : KI.Sl S H0 (.slice a3 gg.length c3) gg) (h4 : KI.Sl S H0 (.slice a4 held.length c4) held) :
    Spec Tryz.prog S H0 91 [.agg #[.int .i64 h', .slice a1 ow.length c1, .int .i64 p, .int .i64 c, .slice a2 rows.length c2], .slice a3 gg.length c3, .slice a4 held.length c4] (fun v => v = .tuple #[.int .i64 (rebV (h', ow, p, c, rows) gg held), .int .i64 (rebC (h', ow, p, c, rows) gg held)]) := by
  refine Spec.of1 Tryz.func91 rfl (by kernel_rfl) rfl (fun H _ => ?_)
  have s1 := h1.up (S' := Low H.n) (H' := H)
  have s2 := h2.up (S' := Low H.n) (H' := H)
  have s3 := h3.up (S' := Low H.n) (H' := H)
  have s4 := h4.up (S' := Low H.n) (H' := H)
  have hO : B_Int64S ow := hB.2.1
  have hBr : B_Int64SS rows := hB.2.2.2.2
  refine KW.callV1 rfl rfl rfl rfl rfl (fun H1 g _ => l04With (S := Low H1.n) (H0 := H1) (h', ow, p, c, rows) gg held hB hG hH (g.has (j := 0) rfl rfl) s1.up s2.up s3.up s4.up) (fun n8 m8 => ?_)
  by_cases hc : codeH (h', ow, p, c, rows) gg held = 0
  · obtain ⟨hk, hg, hhl, hhe⟩ := codeH_ok hc
    have hk : OkSch h' ow p c rows := hk
    simp only at hg hhl hhe
    refine KW.cF rfl rfl (by simp [hc]) ?_
    obtain ⟨k, rfl⟩ : ∃ k : Nat, c = ((k + 1 : Nat) : Int) := ⟨c.toNat - 1, by have := hk.c1; omega⟩
    have hpr := hk.mat.pr
    have hf := fer hpr
    have hp2 := hpr.1
    have hp31 := hpr.2.1
    have hk12 := hk.mat.c1
    have hrg := rowsG_spec hk hg
    refine KW.callNV1 rfl rfl rfl rfl rfl (fun H1 g _ => l04Part h' p ((k + 1 : Nat) : Int) hO hBr hk hG (g.has (j := 0) rfl rfl) s1.up s2.up s3.up) (fun v HM SM mM _ _ hv => ?_)
    obtain ⟨am, cm, rfl, hM⟩ := hv
    rw [hrg] at hM ⊢
    have hM := hM.up (S' := SM) (H' := HM)
    have hLr : Rect p (k + 1) (heldR ow rows (bitsOf gg)) := held_rect hk rfl
    have hLl : (heldR ow rows (bitsOf gg)).length ≤ 20 := held_len hk
    have hhL : held.length = (heldR ow rows (bitsOf gg)).length := by rw [hhl]; unfold heldR rowsG; rw [selR_len]
    have s5 := s4.up (S' := SM) (H' := HM)
    obtain ⟨L, eL⟩ : ∃ L, heldR ow rows (bitsOf gg) = L := ⟨_, rfl⟩
    have eL2 : selR rows (rowsG ow gg) = L := eL
    have eR : rebC (h', ow, p, ((k + 1 : Nat) : Int), rows) gg held = if (comb p L (unitL (k + 1))).isNone = true then 6 else if (k + 1) ∈ (ech p (augW L held) (k + 1 + 1)).2 then 4 else 0 := by
      unfold rebC; rw [if_pos hc]; simp only [Int.toNat_natCast, eL]
    have eV : rebV (h', ow, p, ((k + 1 : Nat) : Int), rows) gg held = if rebC (h', ow, p, ((k + 1 : Nat) : Int), rows) gg held = 0 then dotS p ((comb p L (unitL (k + 1))).getD []) held else 0 := by
      unfold rebV; simp only [Int.toNat_natCast, eL]
    rw [eL2] at hM ⊢
    rw [eL] at hLr hLl hhL
    have hhi : ∀ a ∈ held, 0 ≤ a ∧ a < p := fun a ha => by have := hhe a ha; omega
    have hui := unitL_in (p := p) hp2 (show 1 ≤ k + 1 by omega)
    refine KW.callN1 rfl rfl rfl rfl rfl (l04First (k + 1) (by omega) (by omega)) (fun v HU SU mU _ _ hv => ?_)
    obtain ⟨au, cu, rfl, hU⟩ := hv
    have hM2 := hM.up (S' := SU) (H' := HU)
    have s6 := s5.up (S' := SU) (H' := HU)
    refine KW.callNV1 rfl rfl rfl rfl rfl (fun H1 g _ => l03Combine hpr (k := k + 1) (by omega) (by omega) hLr hui (g.has (j := 1) rfl rfl) hM2.up hU.ups) (fun v HC SC mC _ _ hv => ?_)
    unfold MkSo at hv
    split at hv
    · rename_i hm
      obtain ⟨a8, m8, c8, rfl⟩ := hv
      have hcb := (found_iff hf hLr hui).2 hm
      have e6 : rebC (h', ow, p, ((k + 1 : Nat) : Int), rows) gg held = 6 := by rw [eR, hcb]; rfl
      refine KW.cT rfl rfl (by first | (simp; done) | decide) ?_
      refine KW.retM1 rfl rfl rfl rfl (fun H1 g => by rw [eV, e6]; rfl)
    · rename_i hm
      obtain ⟨ac, cc, rfl, hC⟩ := hv
      obtain ⟨cs, hcb⟩ : ∃ cs, comb p L (unitL (k + 1)) = some cs := by
        cases hcb : comb p L (unitL (k + 1)) with
        | none => exact absurd ((found_iff hf hLr hui).1 hcb) hm
        | some cs => exact ⟨cs, rfl⟩
      refine KW.cF rfl rfl (by first | (simp; done) | decide) ?_
      have hM3 := hM2.up (S' := SC) (H' := HC)
      have s7 := s6.up (S' := SC) (H' := HC)
      refine KW.callNV1 rfl rfl rfl rfl rfl (fun H1 g _ => l03Solve hpr (k := k + 1) (by omega) (by omega) hLr hhL hhi (g.has (j := 1) rfl rfl) hM3.up s7.up) (fun v HS SS mS _ _ hv => ?_)
      have hC2 := hC.up (S' := SS) (H' := HS)
      have s8 := s7.up (S' := SS) (H' := HS)
      unfold MkSo at hv
      split at hv
      · rename_i hk1
        obtain ⟨a9, m9, c9, rfl⟩ := hv
        have e4 : rebC (h', ow, p, ((k + 1 : Nat) : Int), rows) gg held = 4 := by rw [eR, hcb, if_pos hk1]; rfl
        refine KW.cT rfl rfl (by first | (simp; done) | decide) ?_
        refine KW.retM1 rfl rfl rfl rfl (fun H1 g => by rw [eV, e4]; rfl)
      · rename_i hk1
        obtain ⟨a9, c9, rfl, hO9⟩ := hv
        have e0 : rebC (h', ow, p, ((k + 1 : Nat) : Int), rows) gg held = 0 := by rw [eR, hcb, if_neg hk1]; rfl
        have hval := value_same hf hLr hui hhL hhi hcb hk1
        obtain ⟨z, ez⟩ : ∃ z, setF (ech p (augW (trL L (k + 1)) (unitL (k + 1))) (L.length + 1)).1 (ech p (augW (trL L (k + 1)) (unitL (k + 1))) (L.length + 1)).2 L.length (ech p (augW (trL L (k + 1)) (unitL (k + 1))) (L.length + 1)).2.length = z := ⟨_, rfl⟩
        have zl : z.length = L.length := by rw [← ez]; exact setF_len _
        have zi : ∀ a ∈ z, 0 ≤ a ∧ a < p := by
          rw [← ez]
          exact setF_in (by omega) (ech_ok (p := p) (by omega) (augW_rect (trL_rect hLr) hui.2) (L.length + 1)).1 _
        rw [ez] at hC2 hval
        refine KW.cF rfl rfl (by first | (simp; done) | decide) ?_
        have key := l03Dot (S := SS) (H0 := HS) p hpr (a := z) (b := held) (a1 := ac) (c1 := cc) (by omega) (by omega) (fun a ha => by have := zi a ha; omega) (fun a ha => by have := hhi a ha; omega) (by rw [zl]; exact hC2) s8
        rw [zl, hval] at key
        refine KW.callE rfl rfl rfl rfl rfl (key) (fun _ _ => ?_)
        refine KW.retM1 rfl rfl rfl rfl (fun H1 g => by rw [eV, e0, hcb]; rfl)
  · have e1 : rebC (h', ow, p, c, rows) gg held = codeH (h', ow, p, c, rows) gg held := by unfold rebC; rw [if_neg hc]
    refine KW.cT rfl rfl (by simp [hc]) ?_
    refine KW.retM1 rfl rfl rfl rfl (fun H1 g => by unfold rebV; rw [e1, if_neg hc]; rfl)
end
end Go.Proofs.YtijmkfnmdhpakaaGreat.Am
/- Contracts: what the opener rebuilds, both sides. Each holds under its own conditions. -/
set_option linter.unusedVariables false
set_option linter.unusedSimpArgs false
set_option maxRecDepth 20000
namespace Go.Proofs.YtijmkfnmdhpakaaGreat.Am
open Go Go.RowKit Go.Proofs Go.Proofs.YtijmkfnmdhpakaaGreat.Pl
theorem T2x {i j : Nat} {ty ty' : TypeId} {a a' b b' : List Value} (h : a = a') (h' : b = b') : ([(i, ⟨ty, true, a⟩), (j, ⟨ty', true, b⟩)] : List Var) = [(i, ⟨ty, true, a'⟩), (j, ⟨ty', true, b'⟩)] := by rw [h, h']
/-- What the walk needs of the row that comes next. -/
theorem open_row {x : T_Deal} {c : Cer} (hd : DealOk x) (ok : CerOk x c) {q : Nat → Bool} {a : Nat} {i : Int} (hq : ∀ i, i < x.1.2.1.length → q i = c.has.getD (x.1.2.1.getD i 0).toNat false) (hi : (rowsP q x.1.2.1.length)[a]? = some i) :
    (0 ≤ i ∧ i < x.1.2.1.length) ∧ ∃ h : Nat, x.1.2.1.getD i.toNat 0 = h ∧ h < c.seats.length ∧ ∃ g, c.got[h]? = some g ∧ ∃ m : Nat, (opR x.1.2.1 c.got x.1.1.toNat ((rowsP q x.1.2.1.length).take a)).1.getD h 0 = m ∧ m < g.length := by
  have him := rowsP_mem (List.mem_of_getElem? hi)
  have hsl := ok.sl
  have how : ∀ j, 0 ≤ x.1.2.1.getD j 0 := fun j => by
    rcases Nat.lt_or_ge j x.1.2.1.length with h | h
    · rw [List.getD_eq_getElem?_getD, List.getElem?_eq_getElem h]; exact (hd.sch.own _ (List.getElem_mem h)).1
    · rw [List.getD_eq_getElem?_getD, List.getElem?_eq_none h]; exact Int.le_refl 0
  have hown : ∀ j, (x.1.2.1.getD j 0).toNat < x.1.1.toNat := fun j => by
    have h1 := hd.sch.h1
    rcases Nat.lt_or_ge j x.1.2.1.length with h | h
    · rw [List.getD_eq_getElem?_getD, List.getElem?_eq_getElem h]; have := hd.sch.own _ (List.getElem_mem h); show (x.1.2.1[j]).toNat < _; omega
    · rw [List.getD_eq_getElem?_getD, List.getElem?_eq_none h]; show (0 : Int).toNat < _; omega
  refine ⟨him, (x.1.2.1.getD i.toNat 0).toNat, by have := how i.toNat; omega, by have := hown i.toNat; omega, ?_⟩
  have hl : (x.1.2.1.getD i.toNat 0).toNat < c.got.length := by have := ok.gl; have := hown i.toNat; omega
  refine ⟨c.got[(x.1.2.1.getD i.toNat 0).toNat], List.getElem?_eq_getElem hl, _, (opR_ok (got := c.got) hown ((rowsP q x.1.2.1.length).take a)).2.2 _ (hown i.toNat), ?_⟩
  refine Nat.lt_of_lt_of_le (own_lt how hi) ?_
  have hqi : q i.toNat = true := by
    have := List.mem_of_getElem? hi
    unfold rowsP at this
    obtain ⟨j, hj, e⟩ := List.mem_map.1 this
    have := (List.mem_filter.1 hj).2
    rw [show i.toNat = j by omega]
    exact this
  rw [hq _ (by omega)] at hqi
  rcases ok.go _ _ (List.getElem?_eq_getElem hl) with ⟨_, h2⟩ | ⟨h1, _⟩
  · rw [hqi] at h2; cases h2
  · rw [h1]; exact Nat.le_refl _
section
variable {S : Ids} {H0 : AH}
theorem implOpen {x : T_Deal} {c : Cer} {dcs : List Value} {d : HD} {X : Ids} (hd : DealOk x) (hB : B_Deal x) (ok : CerOk x c) (hh0 : Hl HTI [] dcs S H0 X d c) (hD : K_Deal.R S H0 x dcs) :
    Spec Tryz.prog S H0 64 [.pointer (some ⟨d.hid, 0, none⟩)] (fun v => v = .tuple #[.int .i64 (rebV x.1 (opG c) (opH x c)), .int .i64 (rebC x.1 (opG c) (opH x c))]) := by
  obtain ⟨a1, c1, a2, c2, a3, c3, a4, c4, rfl, h1, h2, h3, h4⟩ := split2_Deal hD
  refine Spec.of1 Tryz.func64 rfl (by kernel_rfl) rfl (fun H _ => ?_)
  have hh := hh0.on (S' := Low H.n) (A' := H)
  have hc := hh.cellsH
  have h7 := hd.sch.h7
  have h1s := hd.sch.h1
  have hsl := ok.sl
  have hhl := ok.hl
  have hgl := ok.gl
  have s1 := h1.up (S' := Low H.n) (H' := H)
  have s2 := h2.up (S' := Low H.n) (H' := H)
  obtain ⟨hb1, hb2⟩ := hh.has
  refine KW.ldF 4 hc rfl rfl rfl rfl rfl rfl rfl rfl rfl ?_
  refine KW.callN1 rfl rfl rfl rfl rfl (marked (by omega) (bool_sl hb1 hb2 rfl (Nat.le_refl _))) (fun v HG SG mG _ _ hv => ?_)
  obtain ⟨ag, cg, rfl, hG⟩ := hv
  have hcG := hc.up (S' := SG) (H' := HG)
  refine KW.lit rfl rfl rfl rfl rfl rfl rfl rfl rfl rfl [] rfl rfl (fun v hv => by simp at hv) rfl ?_
  refine KW.ldF 7 hcG rfl rfl rfl rfl rfl rfl rfl rfl rfl ?_
  refine KW.mk1 rfl rfl rfl rfl rfl rfl rfl rfl rfl rfl rfl rfl c.seats.length hsl.symm hsl.symm (by omega) (by show 8 * _ ≤ _; omega) ?_
  have sS := hc.1
  have hha := hh.hall
  have hGB := (hG.up (S' := SG) (H' := HG)).sl
  have hgl' : (opG c).length ≤ 7 := by have := markF_len c.has 0; show (markF c.has 0).length ≤ 7; omega
  obtain ⟨Q, hQ⟩ : ∃ Q : Nat, x.1.1 = Q := ⟨c.seats.length, hsl.symm⟩
  have hri : Rises 0 ((Q : Int) - 1) (opG c) := markF_rises c.has 0 _ (by omega)
  have hgs := rises_small hri
  have hbt : bitsOf (opG c) < 256 := Nat.lt_of_lt_of_le (bitsOf_lt (m := Q) (fun x hx => by have := hgs x hx; omega)) (Nat.pow_le_pow_right (by decide) (show Q ≤ 8 by omega))
  have hOw := hd.sch.own
  have hol := hd.sch.len
  have hrl := hd.sch.mat.len
  have sG0 := (inferInstance : On (Low H.n) H SG HG).st d.hid sS
  refine KW.ldP sG0.1 (sG0.2.trans hha.2) rfl rfl rfl rfl rfl (bload_seg (ps := [.int .i64 x.1.1, .slice a1 x.1.2.1.length c1, .int .i64 x.1.2.2.1, .int .i64 x.1.2.2.2.1, .slice a2 x.1.2.2.2.2.length c2]) rfl rfl rfl (by show 7 + 5 ≤ 15; decide) rfl) ?_
  refine KW.callE rfl rfl rfl rfl rfl (crowdOf (m := Q) (xs := opG c) (by omega) (by omega) hgs hGB) (fun _ _ => ?_)
  have sG1 := s1.up (S' := SG) (H' := HG)
  have sG2 := s2.up (S' := SG) (H' := HG)
  refine KW.callN1 rfl rfl rfl rfl rfl (rowsHeld x.1.1 x.1.2.2.1 x.1.2.2.2.1 (bitsOf (opG c)) (by omega) (by show x.1.2.1.length ≤ _; omega) hOw h7 sG1) (fun v HR SR mR _ _ hv => ?_)
  obtain ⟨aR, cR, rfl, hR⟩ := hv
  obtain ⟨R, eR⟩ : ∃ R, rowsG x.1.2.1 (opG c) = R := ⟨_, rfl⟩
  have eR2 : rowsP (fun i => (bitsOf (opG c)).testBit (x.1.2.1.getD i 0).toNat) x.1.2.1.length = R := eR
  rw [eR2] at hR ⊢
  have hRl : R.length ≤ 20 := by rw [← eR2]; have := rowsP_len (fun i => (bitsOf (opG c)).testBit (x.1.2.1.getD i 0).toNat) x.1.2.1.length; omega
  have hR1 := hR.ups (S' := SR) (H' := HR)
  have hcR := hcG.up (S' := SR) (H' := HR)
  have sR1 := sG1.up (S' := SR) (H' := HR)
  have hhR := (hh.on (S' := SG) (A' := HG)).on (S' := SR) (A' := HR)
  obtain ⟨g0, gcs, g1, g2, g3⟩ := hhR.got
  have hGo : KI.sl.Sl SR HR (.slice (some ⟨d.gid, 0, some 1⟩) c.got.length c.got.length) c.got := Cl.sl g3 g0 g1 rfl hhR.sx (Nat.le_refl _)
  have hn : x.1.1.toNat = c.seats.length := by omega
  have hown : ∀ j, (x.1.2.1.getD j 0).toNat < x.1.1.toNat := fun j => by
    rcases Nat.lt_or_ge j x.1.2.1.length with h | h
    · rw [List.getD_eq_getElem?_getD, List.getElem?_eq_getElem h]; have := hd.sch.own _ (List.getElem_mem h); show (x.1.2.1[j]).toNat < _; omega
    · rw [List.getD_eq_getElem?_getD, List.getElem?_eq_none h]; show (0 : Int).toNat < _; omega
  refine KW.lpM rfl rfl (fun s : Nat × Nat => [(0, .pointer (some ⟨d.hid, 0, none⟩)), (4, .slice ag (opG c).length cg), (5, .slice (some ⟨s.2, 0, some 1⟩) s.1 s.1), (6, .slice (some ⟨HG.n + 1, 0, some 1⟩) c.seats.length c.seats.length), (32, .slice aR R.length cR), (33, .int .i64 R.length), (34, .int .i64 s.1)]) (fun s => SR) (fun s => HR) (fun s => [(s.2, ⟨2, true, (opR x.1.2.1 c.got x.1.1.toNat (R.take s.1)).2.map (Value.int .i64)⟩), (HG.n + 1, ⟨3, true, (opR x.1.2.1 c.got x.1.1.toNat (R.take s.1)).1.map (Value.int .i64)⟩)]) (fun s => s.1 ≤ R.length) (fun s => R.length - s.1) ((0, HG.n)) (Nat.zero_le _) ⟨rfl, rfl, rfl, rfl, rfl, rfl, rfl, trivial⟩ rfl rfl (by simp [opR, hn]) (fun s hi bE n => ?_)
  obtain ⟨a, o⟩ := s
  simp only at hi
  refine KW.cnd rfl rfl (fun k1 => ?_) (fun k1 => ?_)
  · have k1 : (a : Int) < (R.length : Int) := k1
    refine KW.getI hR1 rfl rfl rfl rfl rfl rfl rfl rfl rfl rfl rfl rfl rfl rfl rfl rfl (by omega) (k1) (fun i hi2 => ?_)
    have hi2 : R[a]? = some i := hi2
    obtain ⟨him, h, e1, e2, gr, e3, m, e4, e5⟩ := open_row (q := fun i => (bitsOf (opG c)).testBit (x.1.2.1.getD i 0).toNat) hd ok (fun j hj => opG_bits ok h7 (by have := hown j; omega)) (a := a) (i := i) (by rw [eR2]; exact hi2)
    rw [eR2] at e4
    refine KW.ldF 8 hcR rfl rfl rfl rfl rfl rfl rfl rfl rfl ?_
    refine KW.getI sR1 rfl rfl rfl rfl rfl rfl rfl rfl rfl rfl rfl rfl rfl rfl rfl rfl (him.1) (him.2) (fun h' hh' => ?_)
    have hh' : x.1.2.1[i.toNat]? = some h' := hh'
    rw [List.getD_eq_getElem?_getD, hh'] at e1
    have e1 : h' = (h : Int) := e1
    subst e1
    obtain ⟨rs, ers⟩ : ∃ rs, opR x.1.2.1 c.got x.1.1.toNat (R.take a) = rs := ⟨_, rfl⟩
    have rok := opR_ok (got := c.got) hown (R.take a)
    rw [ers] at rok e4
    obtain ⟨F, hl⟩ := rs
    simp only at rok e4
    have hFl := rok.1
    have hll : hl.length = a := by have := rok.2.1; rw [List.length_take] at this; omega
    have ers2 : opR x.1.2.1 c.got x.1.1.toNat (R.take (a + 1)) = (F.set h ((m : Int) + 1), hl ++ [gr.getD m 0]) := by
      have et : R.take (a + 1) = R.take a ++ [i] := by rw [List.take_add_one, hi2]; rfl
      rw [et, opR_snoc, ers]
      have q1 : (x.1.2.1.getD i.toNat 0).toNat = h := by rw [List.getD_eq_getElem?_getD, hh']; exact Int.toNat_natCast h
      have q2 : c.got.getD h [] = gr := by rw [List.getD_eq_getElem?_getD, e3]; rfl
      simp only [opS, q1, e4, q2, Int.toNat_natCast]
    refine KW.ldF 3 hcR rfl rfl rfl rfl rfl rfl rfl rfl rfl ?_
    refine KW.getL hGo rfl rfl rfl rfl rfl rfl rfl rfl rfl rfl rfl rfl rfl rfl rfl rfl (by omega) (by omega) (fun gr2 ar cr hg2 hsg => ?_)
    have hg2 : c.got[h]? = some gr2 := hg2
    rw [e3] at hg2
    cases hg2
    refine KW.idx0 rfl rfl rfl rfl rfl rfl rfl rfl rfl (by omega) (by omega) ?_
    refine KW.ldI 1 (h) rfl rfl rfl rfl rfl rfl rfl rfl (by omega) (by simp only [ers]; omega) ?_
    refine KW.getI hsg rfl rfl rfl rfl rfl rfl rfl rfl rfl rfl rfl rfl rfl rfl rfl rfl (by simp only [ers, e4]; omega) (by simp only [ers, e4]; omega) (fun z hz => ?_)
    have hz : gr[m]? = some z := by simpa only [ers, e4, Int.toNat_natCast] using hz
    have hzD : gr.getD m 0 = z := by rw [List.getD_eq_getElem?_getD, hz]; rfl
    refine KW.app1 (xs := (opR x.1.2.1 c.got x.1.1.toNat (R.take a)).2.map (Value.int .i64)) (v := .int .i64 z) 0 2 rfl rfl rfl rfl rfl rfl rfl rfl rfl rfl rfl rfl rfl rfl rfl rfl rfl rfl rfl rfl rfl rfl rfl (by simp only [ers, List.length_map]; exact hll) (by show (a + 1) * 8 ≤ _; omega) (by show a + 1 ≤ _; omega) ?_
    refine KW.idx0 rfl rfl rfl rfl rfl rfl rfl rfl rfl (by omega) (by omega) ?_
    refine KW.ldI 1 (h) rfl rfl rfl rfl rfl rfl rfl rfl (by omega) (by simp only [ers]; omega) ?_
    refine KW.idx0 rfl rfl rfl rfl rfl rfl rfl rfl rfl (by omega) (by omega) ?_
    refine KW.stI 1 (h) rfl rfl rfl rfl rfl rfl rfl rfl rfl (by omega) (by simp only [ers]; omega) ?_
    have hA : (opR x.1.2.1 c.got x.1.1.toNat (R.take a)).2.map (Value.int .i64) ++ [.int .i64 z] = (opR x.1.2.1 c.got x.1.1.toNat (R.take (a + 1))).2.map (Value.int .i64) := by rw [ers, ers2, hzD]; simp
    have hgl9 : gr.length ≤ 20 := by
      rcases ok.go h gr e3 with ⟨e, _⟩ | ⟨e, _⟩
      · rw [e]; exact Nat.zero_le _
      · have := rows20 hd h; omega
    have hF : ((opR x.1.2.1 c.got x.1.1.toNat (R.take a)).1.set h (IntKind.i64.wrap ((opR x.1.2.1 c.got x.1.1.toNat (R.take a)).1.getD h 0 + 1))).map (Value.int .i64) = (opR x.1.2.1 c.got x.1.1.toNat (R.take (a + 1))).1.map (Value.int .i64) := by
      rw [ers, ers2]
      simp only
      rw [e4, wr (by omega) (by omega)]
    refine KW.nxt rfl rfl (fun H' g => ⟨(a + 1, _), by simp only; omega, by first | omega | (simp only; omega), ⟨rfl, rfl, rfl, rfl, rfl, rfl, congrArg (Value.int .i64) (inc64 (by omega)), trivial⟩, g.eqT (T2x hA hF)⟩)
  · have k1 : ¬ (a : Int) < (R.length : Int) := k1
    obtain rfl : a = R.length := by omega
    rw [List.take_length]
    have eH : opH x c = (opR x.1.2.1 c.got x.1.1.toNat R).2 := by unfold opH; rw [eR]
    have rok := opR_ok (got := c.got) hown R
    have hHl : (opH x c).length = R.length := by rw [eH]; exact rok.2.1
    have sR0 := (inferInstance : On SG HG SR HR).st d.hid sG0.1
    refine KW.ldP sR0.1 (sR0.2.trans (sG0.2.trans hha.2)) rfl rfl rfl rfl rfl (bload_seg (ps := [.int .i64 x.1.1, .slice a1 x.1.2.1.length c1, .int .i64 x.1.2.2.1, .int .i64 x.1.2.2.2.1, .slice a2 x.1.2.2.2.2.length c2]) rfl rfl rfl (by show 7 + 5 ≤ 15; decide) rfl) ?_
    have sR2 := sG2.up (S' := SR) (H' := HR)
    have hGR := hGB.up (S' := SR) (H' := HR)
    refine KW.callV1 rfl rfl rfl rfl rfl (v := .tuple #[.int .i64 (rebV x.1 (opG c) (opH x c)), .int .i64 (rebC x.1 (opG c) (opH x c))]) (fun H1 g _ => ?_) (fun n7 m7 => ?_)
    · have key := rebuild (S := Low H1.n) (H0 := H1) x.1.1 x.1.2.2.1 x.1.2.2.2.1 x.1.2.1 (opG c) (opH x c) x.1.2.2.2.2 (a1 := a1) (c1 := c1) (a2 := a2) (c2 := c2) (a3 := ag) (c3 := cg) (a4 := some ⟨o, 0, some 1⟩) (c4 := R.length) hB.1 (by show (opG c).length ≤ _; omega) (by show (opH x c).length ≤ _; omega) sR1.up sR2.up hGR.up (by
        have hb := g.blk (j := 0) rfl
        have hm : H1.m o = some ⟨2, true, (opH x c).map (Value.int .i64)⟩ := by rw [eH]; exact hb.1
        have h1 := (row_ml hm).sl
        rw [hHl] at h1 ⊢
        exact h1.more (fun id h => by rw [h]; exact hb.2))
      rw [hHl] at key
      exact key
    · refine KW.retM1 rfl rfl rfl rfl (fun H1 g => rfl)
end
end Go.Proofs.YtijmkfnmdhpakaaGreat.Am
/- Contract: what the opener rebuilds, the reference's side. It holds under its own conditions. -/
set_option linter.unusedVariables false
set_option linter.unusedSimpArgs false
set_option maxRecDepth 20000
namespace Go.Proofs.YtijmkfnmdhpakaaGreat.Am
open Go Go.RowKit Go.Proofs Go.Proofs.YtijmkfnmdhpakaaGreat.Pl
theorem rowsP_pre (q : Nat → Bool) (i : Nat) : ∀ d, ∃ r, rowsP q (i + d) = rowsP q i ++ r
  | 0 => ⟨[], by simp⟩
  | d + 1 => by
    obtain ⟨r, hr⟩ := rowsP_pre q i d
    rw [← Nat.add_assoc, rowsP_next, hr]
    split
    · exact ⟨r ++ [((i + d : Nat) : Int)], by simp⟩
    · exact ⟨r, rfl⟩
theorem rowsP_at {q : Nat → Bool} {i n : Nat} (h : i < n) (hq : q i = true) : (rowsP q n)[(rowsP q i).length]? = some (i : Int) ∧ (rowsP q n).take (rowsP q i).length = rowsP q i := by
  obtain ⟨r, hr⟩ := rowsP_pre q (i + 1) (n - (i + 1))
  rw [show i + 1 + (n - (i + 1)) = n by omega, rowsP_next, if_pos hq] at hr
  rw [hr]
  constructor
  · rw [List.append_assoc, List.getElem?_append_right (Nat.le_refl _), Nat.sub_self]; rfl
  · rw [List.append_assoc, List.take_left]
theorem has3_seg {S : Ids} {H : AH} {id k : Nat} {ps : List Value} (h : Has3 S H id k ps) (hp : ps ≠ []) : ∃ b, S id ∧ H.m id = some b ∧ k + ps.length ≤ b.cells.length ∧ (b.cells.drop k).take ps.length = ps := by
  obtain ⟨h0, b, h1, h2⟩ := h
  have hl : k + ps.length ≤ b.cells.length := by
    have hpl : 0 < ps.length := List.length_pos_iff.2 hp
    have := h2 (ps.length - 1) _ (List.getElem?_eq_getElem (by omega))
    have := (List.getElem?_eq_some_iff.1 this).1
    omega
  refine ⟨b, h0, h1, hl, List.ext_getElem? fun i => ?_⟩
  rcases Nat.lt_or_ge i ps.length with hi | hi
  · rw [List.getElem?_take, if_pos hi, List.getElem?_drop, h2 i _ (List.getElem?_eq_getElem hi), List.getElem?_eq_getElem hi]
  · rw [List.getElem?_eq_none (by simp; omega), List.getElem?_eq_none hi]
section
variable {S : Ids} {H0 : AH}
theorem specOpen {x : T_Deal} {c : Cer} {dcs : List Value} {d : HD} {X : Ids} {did : Nat} (hd : DealOk x) (hB : B_Deal x) (ok : CerOk x c) (hh0 : Hl HTS [.pointer (some ⟨did, 0, none⟩)] [] S H0 X d c) (hD : K_Deal.R S H0 x dcs) (hDv0 : Has3 S H0 did 0 dcs) :
    Spec Tryz.prog S H0 63 [.pointer (some ⟨d.hid, 0, none⟩)] (fun v => v = .tuple #[.int .i64 (rebV x.1 (opG c) (opH x c)), .int .i64 (rebC x.1 (opG c) (opH x c))]) := by
  obtain ⟨a1, c1, a2, c2, a3, c3, a4, c4, rfl, h1, h2, h3, h4⟩ := split2_Deal hD
  refine Spec.of1 Tryz.func63 rfl (by kernel_rfl) rfl (fun H _ => ?_)
  have hh := hh0.on (S' := Low H.n) (A' := H)
  have hc := hh.cellsH
  have hDv := hDv0.up (S' := Low H.n) (H' := H)
  have h7 := hd.sch.h7
  have h1s := hd.sch.h1
  have hsl := ok.sl
  have hhl := ok.hl
  have hgl := ok.gl
  have s1 := h1.up (S' := Low H.n) (H' := H)
  have s2 := h2.up (S' := Low H.n) (H' := H)
  obtain ⟨hb1, hb2⟩ := hh.has
  have hHs := bool_sl hb1 hb2 rfl (Nat.le_refl _)
  obtain ⟨g0, gcs, g1, g2, g3⟩ := hh.got
  have hGo : KI.sl.Sl (Low H.n) H (.slice (some ⟨d.gid, 0, some 1⟩) c.got.length c.got.length) c.got := Cl.sl g3 g0 g1 rfl hh.sx (Nat.le_refl _)
  have hn : x.1.1.toNat = c.seats.length := by omega
  have hown : ∀ j, (x.1.2.1.getD j 0).toNat < x.1.1.toNat := fun j => by
    rcases Nat.lt_or_ge j x.1.2.1.length with h | h
    · rw [List.getD_eq_getElem?_getD, List.getElem?_eq_getElem h]; have := hd.sch.own _ (List.getElem_mem h); show (x.1.2.1[j]).toNat < _; omega
    · rw [List.getD_eq_getElem?_getD, List.getElem?_eq_none h]; show (0 : Int).toNat < _; omega
  have hOl : x.1.2.1.length ≤ 20 := by have := hd.sch.len; have := hd.sch.mat.len; omega
  refine KW.ldF 0 hc rfl rfl rfl rfl rfl rfl rfl rfl rfl ?_
  refine KW.ldF 0 hDv rfl rfl rfl rfl rfl rfl rfl rfl rfl ?_
  refine KW.mk1 rfl rfl rfl rfl rfl rfl rfl rfl rfl rfl rfl rfl c.seats.length hsl.symm hsl.symm (by omega) (by show 8 * _ ≤ _; omega) ?_
  refine KW.lit rfl rfl rfl rfl rfl rfl rfl rfl rfl rfl [] rfl rfl (fun v hv => by simp at hv) rfl ?_
  obtain ⟨q, hq⟩ : ∃ q : Nat → Bool, q = fun i => c.has.getD (x.1.2.1.getD i 0).toNat false := ⟨_, rfl⟩
  refine KW.lpM rfl rfl (fun s : Nat × Nat => [(0, .pointer (some ⟨d.hid, 0, none⟩)), (4, .pointer (some ⟨did, 0, none⟩)), (5, .slice (some ⟨H.n, 0, some 1⟩) c.seats.length c.seats.length), (6, .slice (some ⟨s.2, 0, some 1⟩) (rowsP q s.1).length (rowsP q s.1).length), (7, .int .i64 s.1)]) (fun s => Low H.n) (fun s => H) (fun s => [(H.n, ⟨3, true, (opR x.1.2.1 c.got x.1.1.toNat (rowsP q s.1)).1.map (Value.int .i64)⟩), (s.2, ⟨2, true, (opR x.1.2.1 c.got x.1.1.toNat (rowsP q s.1)).2.map (Value.int .i64)⟩)]) (fun s => s.1 ≤ x.1.2.1.length) (fun s => x.1.2.1.length - s.1) ((0, H.n + 1)) (Nat.zero_le _) ⟨rfl, rfl, rfl, rfl, rfl, trivial⟩ rfl rfl (by simp [opR, hn, rowsP]) (fun s hi bE n => ?_)
  obtain ⟨i, o⟩ := s
  simp only at hi
  refine KW.ldF 1 hDv rfl rfl rfl rfl rfl rfl rfl rfl rfl ?_
  refine KW.cnd rfl rfl (fun k1 => ?_) (fun k1 => ?_)
  · have k1 : (i : Int) < (x.1.2.1.length : Int) := k1
    refine KW.ldF 1 hDv rfl rfl rfl rfl rfl rfl rfl rfl rfl ?_
    refine KW.getI s1 rfl rfl rfl rfl rfl rfl rfl rfl rfl rfl rfl rfl rfl rfl rfl rfl (by omega) (k1) (fun h' hh' => ?_)
    have hh' : x.1.2.1[i]? = some h' := hh'
    have hob := hd.sch.own h' (List.mem_of_getElem? hh')
    have hD' : x.1.2.1.getD i 0 = h' := by rw [List.getD_eq_getElem?_getD, hh']; rfl
    obtain ⟨h, rfl⟩ : ∃ h : Nat, h' = (h : Int) := ⟨h'.toNat, by omega⟩
    refine KW.ldF 5 hc rfl rfl rfl rfl rfl rfl rfl rfl rfl ?_
    refine KW.getB hHs rfl rfl rfl rfl rfl rfl rfl rfl rfl rfl rfl rfl rfl rfl rfl rfl (by omega) (by omega) (fun hb hhb => ?_)
    have hhb : c.has[h]? = some hb := hhb
    have hqi : q i = hb := by rw [hq]; simp only; rw [hD', Int.toNat_natCast, List.getD_eq_getElem?_getD, hhb]; rfl
    refine KW.cndB rfl rfl (fun k2 => ?ga) (fun k2 => ?gb)
    case gb =>
      have en : rowsP q (i + 1) = rowsP q i := by rw [rowsP_next, if_neg (by rw [hqi, k2]; decide)]
      refine KW.nxt rfl rfl (fun H' g => ⟨(i + 1, o), by simp only; omega, by first | omega | (simp only; omega), ⟨rfl, rfl, rfl, congrArg (fun l : List Int => Value.slice (some ⟨o, 0, some 1⟩) l.length l.length) en.symm, congrArg (Value.int .i64) (inc64 (by omega)), trivial⟩, g.eqT (T2x (by rw [en]) (by rw [en]))⟩)
    case ga =>
      rw [k2] at hqi hhb
      have en : rowsP q (i + 1) = rowsP q i ++ [(i : Int)] := by rw [rowsP_next, if_pos hqi]
      have el : (rowsP q (i + 1)).length = (rowsP q i).length + 1 := by rw [en]; simp
      obtain ⟨r1, r2⟩ := rowsP_at (n := x.1.2.1.length) (by omega) hqi
      obtain ⟨him, h9, e1, e2, gr, e3, m, e4, e5⟩ := open_row (q := q) hd ok (fun j hj => by rw [hq]) r1
      rw [r2] at e4
      rw [Int.toNat_natCast, hD'] at e1
      obtain rfl : h9 = h := by omega
      obtain ⟨rs, ers⟩ : ∃ rs, opR x.1.2.1 c.got x.1.1.toNat (rowsP q i) = rs := ⟨_, rfl⟩
      have rok := opR_ok (got := c.got) hown (rowsP q i)
      rw [ers] at rok e4
      obtain ⟨F, hl⟩ := rs
      simp only at rok e4
      have hFl := rok.1
      have hll : hl.length = (rowsP q i).length := rok.2.1
      have hRl := rowsP_len q i
      have ers2 : opR x.1.2.1 c.got x.1.1.toNat (rowsP q (i + 1)) = (F.set h9 ((m : Int) + 1), hl ++ [gr.getD m 0]) := by
        rw [en, opR_snoc, ers]
        have q1 : (x.1.2.1.getD i 0).toNat = h9 := by rw [hD', Int.toNat_natCast]
        have q2 : c.got.getD h9 [] = gr := by rw [List.getD_eq_getElem?_getD, e3]; rfl
        simp only [opS, Int.toNat_natCast, q1, e4, q2]
      refine KW.ldF 4 hc rfl rfl rfl rfl rfl rfl rfl rfl rfl ?_
      refine KW.getL hGo rfl rfl rfl rfl rfl rfl rfl rfl rfl rfl rfl rfl rfl rfl rfl rfl (by omega) (by omega) (fun gr2 ar cr hg2 hsg => ?_)
      have hg2 : c.got[h9]? = some gr2 := hg2
      rw [e3] at hg2
      cases hg2
      refine KW.idx0 rfl rfl rfl rfl rfl rfl rfl rfl rfl (by omega) (by omega) ?_
      refine KW.ldI 0 (h9) rfl rfl rfl rfl rfl rfl rfl rfl (by omega) (by simp only [ers]; omega) ?_
      refine KW.getI hsg rfl rfl rfl rfl rfl rfl rfl rfl rfl rfl rfl rfl rfl rfl rfl rfl (by simp only [ers, e4]; omega) (by simp only [ers, e4]; omega) (fun z hz => ?_)
      have hz : gr[m]? = some z := by simpa only [ers, e4, Int.toNat_natCast] using hz
      have hzD : gr.getD m 0 = z := by rw [List.getD_eq_getElem?_getD, hz]; rfl
      refine KW.app1 (xs := (opR x.1.2.1 c.got x.1.1.toNat (rowsP q i)).2.map (Value.int .i64)) (v := .int .i64 z) 1 2 rfl rfl rfl rfl rfl rfl rfl rfl rfl rfl rfl rfl rfl rfl rfl rfl rfl rfl rfl rfl rfl rfl rfl (by simp only [ers, List.length_map]; exact hll) (by show ((rowsP q i).length + 1) * 8 ≤ _; omega) (by show (rowsP q i).length + 1 ≤ _; omega) ?_
      refine KW.idx0 rfl rfl rfl rfl rfl rfl rfl rfl rfl (by omega) (by omega) ?_
      refine KW.ldI 0 (h9) rfl rfl rfl rfl rfl rfl rfl rfl (by omega) (by simp only [ers]; omega) ?_
      refine KW.idx0 rfl rfl rfl rfl rfl rfl rfl rfl rfl (by omega) (by omega) ?_
      refine KW.stI 0 (h9) rfl rfl rfl rfl rfl rfl rfl rfl rfl (by omega) (by simp only [ers]; omega) ?_
      have hA : (opR x.1.2.1 c.got x.1.1.toNat (rowsP q i)).2.map (Value.int .i64) ++ [.int .i64 z] = (opR x.1.2.1 c.got x.1.1.toNat (rowsP q (i + 1))).2.map (Value.int .i64) := by rw [ers, ers2, hzD]; simp
      have hgl9 : gr.length ≤ 20 := by
        rcases ok.go h9 gr e3 with ⟨e, _⟩ | ⟨e, _⟩
        · rw [e]; exact Nat.zero_le _
        · have := rows20 hd h9; omega
      have hF : ((opR x.1.2.1 c.got x.1.1.toNat (rowsP q i)).1.set h9 (IntKind.i64.wrap ((opR x.1.2.1 c.got x.1.1.toNat (rowsP q i)).1.getD h9 0 + 1))).map (Value.int .i64) = (opR x.1.2.1 c.got x.1.1.toNat (rowsP q (i + 1))).1.map (Value.int .i64) := by
        rw [ers, ers2]
        simp only
        rw [e4, wr (by omega) (by omega)]
      refine KW.nxt rfl rfl (fun H' g => ⟨(i + 1, _), by simp only; omega, by first | omega | (simp only; omega), ⟨rfl, rfl, rfl, congrArg (fun l : Nat => Value.slice (some ⟨_, 0, some 1⟩) l l) el.symm, congrArg (Value.int .i64) (inc64 (by omega)), trivial⟩, g.eqT (T2x hF hA)⟩)
  · have k1 : ¬ (i : Int) < (x.1.2.1.length : Int) := k1
    obtain rfl : i = x.1.2.1.length := by omega
    have eR : rowsG x.1.2.1 (opG c) = rowsP q x.1.2.1.length := by
      rw [hq]
      exact rowsP_congr fun j hj => opG_bits ok h7 (by have := hown j; omega)
    have eH : opH x c = (opR x.1.2.1 c.got x.1.1.toNat (rowsP q x.1.2.1.length)).2 := by unfold opH; rw [eR]
    obtain ⟨R, eR2⟩ : ∃ R, rowsP q x.1.2.1.length = R := ⟨_, rfl⟩
    rw [eR2] at eH ⊢
    have rok := opR_ok (got := c.got) hown R
    have hHl : (opH x c).length = R.length := by rw [eH]; exact rok.2.1
    have hRl : R.length ≤ 20 := by rw [← eR2]; have := rowsP_len q x.1.2.1.length; omega
    have hDv5 : Has3 (Low H.n) H did 0 [.int .i64 x.1.1, .slice a1 x.1.2.1.length c1, .int .i64 x.1.2.2.1, .int .i64 x.1.2.2.2.1, .slice a2 x.1.2.2.2.2.length c2] := Has3.take (ws := [.int .i64 x.2.1, .slice a3 x.2.2.1.length c3, .slice a4 x.2.2.2.length c4]) hDv
    obtain ⟨b, b0, b1, b2, b3⟩ := has3_seg hDv5 (by simp)
    refine KW.ldP b0 b1 rfl rfl rfl rfl rfl (bload_seg (ps := [.int .i64 x.1.1, .slice a1 x.1.2.1.length c1, .int .i64 x.1.2.2.1, .int .i64 x.1.2.2.2.1, .slice a2 x.1.2.2.2.2.length c2]) rfl rfl rfl b2 b3) ?_
    refine KW.ldF 5 hc rfl rfl rfl rfl rfl rfl rfl rfl rfl ?_
    refine KW.callN1 rfl rfl rfl rfl rfl (l08Where (by omega) hHs) (fun v HG SG mG _ _ hv => ?_)
    obtain ⟨ag, cg, rfl, hG⟩ := hv
    have hGB := (hG.up (S' := SG) (H' := HG)).sl
    have hgl' : (opG c).length ≤ 7 := by have := markF_len c.has 0; show (markF c.has 0).length ≤ 7; omega
    have sG1 := s1.up (S' := SG) (H' := HG)
    have sG2 := s2.up (S' := SG) (H' := HG)
    refine KW.callV1 rfl rfl rfl rfl rfl (v := .tuple #[.int .i64 (rebV x.1 (opG c) (opH x c)), .int .i64 (rebC x.1 (opG c) (opH x c))]) (fun H1 g _ => ?_) (fun n7 m7 => ?_)
    · have key := specRebuild (S := Low H1.n) (H0 := H1) x.1.1 x.1.2.2.1 x.1.2.2.2.1 x.1.2.1 (opG c) (opH x c) x.1.2.2.2.2 (a1 := a1) (c1 := c1) (a2 := a2) (c2 := c2) (a3 := ag) (c3 := cg) (a4 := some ⟨o, 0, some 1⟩) (c4 := R.length) hB.1 (by show (opG c).length ≤ _; omega) (by show (opH x c).length ≤ _; omega) sG1.up sG2.up hGB.up (by
        have hb := g.blk (j := 1) rfl
        have hm : H1.m o = some ⟨2, true, (opH x c).map (Value.int .i64)⟩ := by rw [eH]; exact hb.1
        have h1 := (row_ml hm).sl
        rw [hHl] at h1 ⊢
        exact h1.more (fun id h => by rw [h]; exact hb.2))
      rw [hHl] at key
      exact key
    · refine KW.retM1 rfl rfl rfl rfl (fun H1 g => rfl)
end
end Go.Proofs.YtijmkfnmdhpakaaGreat.Am
/- Contracts: OpenAfter, both sides. Each holds under its own conditions. -/
set_option linter.unusedVariables false
set_option linter.unusedSimpArgs false
set_option maxRecDepth 20000
namespace Go.Proofs.YtijmkfnmdhpakaaGreat.Am
open Go Go.RowKit Go.Proofs
noncomputable def r0_OpenAfter (x : T_Deal) (ds : T_DeedS) : Int := if givenC x ds = 0 then rebV x.1 (opG (behind x ds)) (opH x (behind x ds)) else 0
noncomputable def r1_OpenAfter (x : T_Deal) (ds : T_DeedS) : Int := if givenC x ds = 0 then rebC x.1 (opG (behind x ds)) (opH x (behind x ds)) else givenC x ds
section
variable {S : Ids} {H0 : AH} {x : T_Deal} {ds : T_DeedS} {dcs : List Value}
theorem impl_OpenAfter {a c} (hB : B_Deal x) (hBd : B_DeedS ds) (hD : K_Deal.R S H0 x dcs) (hs : K_DeedS.R S H0 ds [.slice a ds.length c]) : Spec Tryz.prog S H0 30 [.agg dcs.toArray, .slice a ds.length c] (fun v => v = .tuple #[.int .i64 (r0_OpenAfter x ds), .int .i64 (r1_OpenAfter x ds)]) := by
  have hs := sl1 hs
  obtain ⟨d1, d2, d3, d4, d5, d6, d7, d8, rfl⟩ := form_Deal hD
  refine Spec.of1 Tryz.func30 rfl (by kernel_rfl) rfl (fun H _ => ?_)
  have hD0 : K_Deal.R (Low H.n) H x _ := On.R hD
  have hs0 := hs.up (S' := Low H.n) (H' := H)
  refine KW.callE rfl rfl rfl rfl rfl (deedsCode hB hBd.len hD0 hs0) (fun _ _ => ?_)
  unfold r0_OpenAfter r1_OpenAfter
  refine KW.cndB rfl rfl (fun k1 => ?_) (fun k1 => ?_)
  · have k1 : givenC x ds ≠ 0 := by simpa using k1
    rw [if_neg k1, if_neg k1]
    refine KW.retM1 rfl rfl rfl rfl (fun H1 g => rfl)
  have k1 : givenC x ds = 0 := by simpa using k1
  rw [if_pos k1, if_pos k1]
  obtain ⟨hd, hdp, h400⟩ := given0 k1
  have ok := behind_ok hd hdp
  refine KW.callN1 rfl rfl rfl rfl rfl (implAfter hd hdp h400 hB hD0 hs0) (fun v H1 S1 m1 _ _ hv => ?_)
  obtain ⟨d, X, rfl, hh⟩ := hv
  have hh1 := hh.on (S' := S1) (A' := H1)
  have hD1 : K_Deal.R S1 H1 x _ := On.R hD0
  refine KW.callE rfl rfl rfl rfl rfl (implOpen (c := behind x ds) hd hB ok hh1 hD1) (fun _ _ => ?_)
  refine KW.retM1 rfl rfl rfl rfl (fun H1 g => rfl)
theorem spec_OpenAfter {a c} (hB : B_Deal x) (hBd : B_DeedS ds) (hD : K_Deal.R S H0 x dcs) (hs : K_DeedS.R S H0 ds [.slice a ds.length c]) : Spec Tryz.prog S H0 29 [.agg dcs.toArray, .slice a ds.length c] (fun v => v = .tuple #[.int .i64 (r0_OpenAfter x ds), .int .i64 (r1_OpenAfter x ds)]) := by
  have hs := sl1 hs
  obtain ⟨d1, d2, d3, d4, d5, d6, d7, d8, rfl⟩ := form_Deal hD
  refine Spec.of1 Tryz.func29 rfl (by kernel_rfl) rfl (fun H _ => ?_)
  have hD0 : K_Deal.R (Low H.n) H x _ := On.R hD
  have hs0 := hs.up (S' := Low H.n) (H' := H)
  refine KW.callWF 0 rfl rfl rfl rfl rfl rfl (fun A9 S9 hn9 hS9 t9 hm9 ho9 hno9 hlt9 => ?_)
  have k9 : ∀ id, id < H.n → S9 id ∧ A9.m id = H.m id := fun id p => t9.st id p
  have hD9 : K_Deal.R S9 A9 x _ := K_Deal.same (fun id p => (k9 id p).2) hD0 |> K_Deal.more (fun id p => (k9 id p).1)
  have hDv9 : Has3 S9 A9 H.n 0 [.int .i64 x.1.1, .slice d1 x.1.2.1.length d2, .int .i64 x.1.2.2.1, .int .i64 x.1.2.2.2.1, .slice d3 x.1.2.2.2.2.length d4, .int .i64 x.2.1, .slice d5 x.2.2.1.length d6, .slice d7 x.2.2.2.length d8] := ⟨(hS9 _).2 (.inr rfl), _, hm9, fun i v hv => by rw [Nat.zero_add]; exact hv⟩
  have hs9 : K_Deed.Sl S9 A9 (.slice a ds.length c) ds := sl_mk hs0 (fun id p => k9 id p)
  refine ⟨fun _ => False, _, fun id p => p.elim, SpecM.w (post := fun _ v _ => v = .int .i64 (givenC x ds)) (l08Given hB hBd.len hD9 hDv9 hs9), fun v H1 S1 m1 t1 w1 hv => ?_⟩
  obtain rfl := hv
  have k1a : ∀ id, S9 id → S1 id ∧ H1.m id = A9.m id := fun id p => ⟨(t1 id p).1, (t1 id p).2 (fun q => q)⟩
  have kl : ∀ id, id < H.n → S1 id ∧ H1.m id = H.m id := fun id p => ⟨(k1a id (k9 id p).1).1, ((k1a id (k9 id p).1).2).trans (k9 id p).2⟩
  unfold r0_OpenAfter r1_OpenAfter
  refine KW.cndB rfl rfl (fun k1 => ?_) (fun k1 => ?_)
  · have k1 : givenC x ds ≠ 0 := by simpa using k1
    rw [if_neg k1, if_neg k1]
    exact KW.retM rfl rfl rfl rfl (fun id hid => kl id hid) (fun H1 g => rfl)
  have k1 : givenC x ds = 0 := by simpa using k1
  rw [if_pos k1, if_pos k1]
  obtain ⟨hd, hdp, h400⟩ := given0 k1
  have ok := behind_ok hd hdp
  have hD1 : K_Deal.R S1 H1 x _ := K_Deal.same (fun id p => (k1a id p).2) hD9 |> K_Deal.more (fun id p => (k1a id p).1)
  have hs1 : K_Deed.Sl S1 H1 (.slice a ds.length c) ds := sl_mk hs9 (fun id p => k1a id p)
  have mvH : ∀ {vs : List Value}, Has3 S9 A9 H.n 0 vs → Has3 S1 H1 H.n 0 vs := fun {vs} q => by
    obtain ⟨q0, b, q1, q2⟩ := q
    exact ⟨(k1a _ q0).1, b, ((k1a _ q0).2).trans q1, q2⟩
  have hDv1 := mvH hDv9
  refine KW.callN1 rfl rfl rfl rfl rfl (l08PlayH hd hdp h400 hB hD1 hDv1 hs1) (fun v H2 S2 m2 _ _ hv => ?_)
  obtain ⟨d, X, o, rfl, hM, hh⟩ := hv
  have st2 := (inferInstance : On S1 H1 S2 H2).st
  have hh1 := hh.on (S' := S2) (A' := H2)
  have hD2 : K_Deal.R S2 H2 x _ := On.R hD1
  have hDv2 := hDv1.up (S' := S2) (H' := H2)
  refine KW.callE rfl rfl rfl rfl rfl (specOpen (c := behind x ds) hd hB ok hh1 hD2 hDv2) (fun _ _ => ?_)
  exact KW.retM rfl rfl rfl rfl (fun id hid => ⟨(st2 id (kl id hid).1).1, ((st2 id (kl id hid).1).2).trans (kl id hid).2⟩) (fun H1 g => rfl)
end
end Go.Proofs.YtijmkfnmdhpakaaGreat.Am
/- The law FnExactOpenAfter returns true. No condition beyond the reading of the arguments. -/
set_option linter.unusedVariables false
set_option maxRecDepth 20000
set_option maxHeartbeats 4000000
namespace Go.Proofs.YtijmkfnmdhpakaaGreat.Am
open Go Go.RowKit Go.Proofs
section
variable {S : Ids} {H0 : AH}
theorem lawOpenAfter {ar0 : T_Deal} {ar1 : T_DeedS} {cs0 : List Value} {p1 : Option Addr} {q1 : Nat} (hW0 : W_Deal ar0) (h0 : K_Deal.R S H0 ar0 cs0) (hW1 : W_DeedS ar1) (h1 : K_DeedS.R S H0 ar1 [.slice p1 ar1.length q1]) : Spec Tryz.prog S H0 6 [.agg cs0.toArray, .slice p1 ar1.length q1] (fun v => v = .bool true) := by
  obtain ⟨p0_0, q0_0, p0_1, q0_1, p0_2, q0_2, p0_3, q0_3, rfl⟩ := form_Deal h0
  refine Spec.of1 Tryz.func6 rfl (by kernel_rfl) rfl (fun H _ => ?_)
  have A0 : Fk K_Deal (Low H.n) (Low H.n) H ar0 _ := ⟨On.R h0, fun _ p => p⟩
  have A1 : Fk K_DeedS (Low H.n) (Low H.n) H ar1 _ := ⟨On.R h1, fun _ p => p⟩
  refine KW.call rfl rfl rfl rfl rfl (sz_Deal' (left := 1048576) (by decide) (by decide) hW0 A0.all) (fun v n0 _ hv => ?_)
  obtain ⟨r0, rfl, k0⟩ := hv
  refine KW.cnd rfl rfl (fun h => KW.ret rfl rfl rfl rfl rfl) (fun h => ?_)
  have k0 := k0.resolve_left (by omega)
  have hB0 := k0.2.2
  refine KW.call rfl rfl rfl rfl rfl (sz_DeedS'  k0.1 (by have := k0.2.1; omega) hW1 A1.all) (fun v n1 _ hv => ?_)
  obtain ⟨r1, rfl, k1⟩ := hv
  refine KW.cnd rfl rfl (fun h => KW.ret rfl rfl rfl rfl rfl) (fun h => ?_)
  have k1 := k1.resolve_left (by omega)
  have hB1 := k1.2.2
  obtain ⟨q0r, eq0r⟩ : ∃ q, r0_OpenAfter ar0 ar1 = q := ⟨_, rfl⟩
  obtain ⟨q1r, eq1r⟩ : ∃ q, r1_OpenAfter ar0 ar1 = q := ⟨_, rfl⟩
  have cspec : ∀ {S1 : Ids} {H1 : AH} {ca0 : List Value} {pa1 : Option Addr} {qa1 : Nat} (_ : K_Deal.R S1 H1 ar0 ca0) (_ : K_DeedS.R S1 H1 ar1 [.slice pa1 ar1.length qa1]), Spec Tryz.prog S1 H1 29 [.agg ca0.toArray, .slice pa1 ar1.length qa1] (fun v => v = .tuple #[.int .i64 q0r, .int .i64 q1r]) := by
    subst eq0r; subst eq1r
    intros
    exact spec_OpenAfter hB0 hB1 (by assumption) (by assumption)
  have cimpl : ∀ {S1 : Ids} {H1 : AH} {ca0 : List Value} {pa1 : Option Addr} {qa1 : Nat} (_ : K_Deal.R S1 H1 ar0 ca0) (_ : K_DeedS.R S1 H1 ar1 [.slice pa1 ar1.length qa1]), Spec Tryz.prog S1 H1 30 [.agg ca0.toArray, .slice pa1 ar1.length qa1] (fun v => v = .tuple #[.int .i64 q0r, .int .i64 q1r]) := by
    subst eq0r; subst eq1r
    intros
    exact impl_OpenAfter hB0 hB1 (by assumption) (by assumption)
  refine KW.callN1 rfl rfl rfl rfl rfl (to_Deal hB0 A0.all) (fun v Hb0 Sb0 mb0 _ _ hv => ?_)
  obtain ⟨wb0, rfl, b0⟩ := hv
  obtain ⟨b0_0, b0c_0, b0_1, b0c_1, b0_2, b0c_2, b0_3, b0c_3, rfl⟩ := formM_Deal b0
  refine KW.callN1 rfl rfl rfl rfl rfl (to_DeedS hB1 A1.all) (fun v Hb1 Sb1 mb1 _ _ hv => ?_)
  obtain ⟨b1_0, b1c_0, rfl, b1⟩ := hv
  refine KW.callE rfl rfl rfl rfl rfl (cspec ((le_Deal).2 _ _ _ _ (On.R b0)) ((le_DeedS).2 _ _ _ _ (On.R b1))) (fun nw mw => ?_)
  refine KW.callN1 rfl rfl rfl rfl rfl (to_Deal hB0 A0.all) (fun v Hx0 Sx0 mx0 _ _ hv => ?_)
  obtain ⟨wx0, rfl, x0⟩ := hv
  obtain ⟨x0_0, x0c_0, x0_1, x0c_1, x0_2, x0c_2, x0_3, x0c_3, rfl⟩ := formM_Deal x0
  refine KW.callN1 rfl rfl rfl rfl rfl (to_DeedS hB1 A1.all) (fun v Hx1 Sx1 mx1 _ _ hv => ?_)
  obtain ⟨x1_0, x1c_0, rfl, x1⟩ := hv
  refine KW.callE rfl rfl rfl rfl rfl (cimpl ((le_Deal).2 _ _ _ _ (On.R x0)) ((le_DeedS).2 _ _ _ _ (On.R x1))) (fun ng mg => ?_)
  refine KW.tF rfl rfl (by first | (simp; done) | decide) ?_
  refine KW.cF rfl rfl (by first | (simp; done) | decide) ?_
  refine KW.callN1 rfl rfl rfl rfl rfl (to_Deal hB0 A0.all) (fun v Hy0 Sy0 my0 _ _ hv => ?_)
  obtain ⟨wy0, rfl, y0⟩ := hv
  obtain ⟨y0_0, y0c_0, y0_1, y0c_1, y0_2, y0c_2, y0_3, y0c_3, rfl⟩ := formM_Deal y0
  refine KW.callE rfl rfl rfl rfl rfl (eq_Deal hB0 ((le_Deal).2 _ _ _ _ (On.R x0)) ((le_Deal).2 _ _ _ _ (On.R y0))) (fun _ _ => ?_)
  refine KW.cF rfl rfl (by first | (simp; done) | decide) ?_
  refine KW.callN1 rfl rfl rfl rfl rfl (to_DeedS hB1 A1.all) (fun v Hy1 Sy1 my1 _ _ hv => ?_)
  obtain ⟨y1_0, y1c_0, rfl, y1⟩ := hv
  refine KW.callE rfl rfl rfl rfl rfl (eq_DeedS hB1 ((le_DeedS).2 _ _ _ _ (On.R x1)) ((le_DeedS).2 _ _ _ _ (On.R y1))) (fun _ _ => ?_)
  refine KW.cF rfl rfl (by first | (simp; done) | decide) ?_
  refine KW.retM1 rfl rfl rfl rfl (fun H1 g => rfl)
end
end Go.Proofs.YtijmkfnmdhpakaaGreat.Am
/- A row's closed facts, each by itself. No condition beyond them. -/
namespace Go.Proofs.YtijmkfnmdhpakaaGreat.Am
open Go
theorem joined_of {P : Program} {f : FuncId} {fn : Func} {s : ChangeSpec} {c : OpenClaim}
    (h0 : (c.wf (OpenSpec.ofChange s)) = true)
    (h1 : (laidOutB P) = true)
    (h2 : (mapsRowed P) = true)
    (h3 : (fn.params.all (P.readableRec ·)) = true)
    (h4 : (namedTie P c.named s.vars) = true)
    (h5 : ((c.stops == [])) = true)
    (h6 : ((P.stops == [])) = true)
    (h7 : ((c.knobs == [])) = true)
    (h8 : ((P.stopKnobs == [])) = true)
    (h9 : ((c.inPlace == P.inPlace f)) = true)
    (h10 : ((c.unfollowed == P.unfollowed f)) = true)
    (h11 : ((c.recurses == P.recurses f)) = true)
    (h12 : ((c.named == P.varsNamed f)) = true)
    (h13 : ((c.maps == (fn.params.toList ++ s.plain.varTypes P).any (P.mapsRec ·))) = true)
    (h14 : ((c.ifaces == (fn.params.toList ++ s.plain.varTypes P).any (P.ifacesRec ·))) = true)
    (h15 : ((c.mapsOut == P.mapsAmong fn.resultTypes.toList)) = true)
    (h16 : ((c.loops == (fn.params.toList ++ s.plain.varTypes P).any (P.loopsFrom ·))) = true)
    (h17 : ((c.wideKeys == (fn.params.toList ++ s.plain.varTypes P ++ fn.resultTypes.toList).any (P.wideKeysFrom ·))) = true)
    (h18 : (s.vars.all (P.varReadable ·)) = true)
    (h19 : (fn.resultTypes.all (fun t => P.readableRec t && decide (t < P.types.size))) = true)
    (h20 : ((c.ifacesOut == fn.resultTypes.toList.any (P.ifacesRec ·))) = true)
    (h21 : ((c.loopsOut == fn.resultTypes.toList.any (P.loopsFrom ·))) = true)
    (h22 : ((c.plainKeys == P.plainKeys)) = true)
    (h23 : (c.shortTexts.isNone) = true)
    (h24 : (P.stopsHeard) = true)
    (h25 : (P.mayEnter) = true)
    (h26 : ((c.lifted == P.liftsFinal)) = true)
    (h27 : ((P.make == some c.make)) = true)
    (h28 : ((c.kinds == (if c.domain.isEmpty then [] else fn.params.toList.map fun t => match P.underlying t with | some (.int k) => some k | _ => none))) = true)
    (h29 : ((c.pinned == c.pinnedBy)) = true)
    (h30 : ((c.veiled == (fn.params.toList ++ s.plain.varTypes P ++ fn.resultTypes.toList).any (P.veiledRec ·))) = true)
    (h31 : (c.veiledFits P fn.params.toList (fn.params.toList ++ s.plain.varTypes P ++ fn.resultTypes.toList)) = true)
    : joinedFacts P f fn s c = true := by
  unfold joinedFacts
  simp only [Bool.and_eq_true]
  exact ⟨⟨⟨⟨⟨⟨⟨⟨⟨⟨⟨⟨⟨⟨⟨⟨⟨⟨⟨⟨⟨⟨⟨⟨⟨⟨⟨⟨⟨⟨⟨h0, h1⟩, h2⟩, h3⟩, h4⟩, h5⟩, h6⟩, h7⟩, h8⟩, h9⟩, h10⟩, h11⟩, h12⟩, h13⟩, h14⟩, h15⟩, h16⟩, h17⟩, h18⟩, h19⟩, h20⟩, h21⟩, h22⟩, h23⟩, h24⟩, h25⟩, h26⟩, h27⟩, h28⟩, h29⟩, h30⟩, h31⟩
end Go.Proofs.YtijmkfnmdhpakaaGreat.Am
