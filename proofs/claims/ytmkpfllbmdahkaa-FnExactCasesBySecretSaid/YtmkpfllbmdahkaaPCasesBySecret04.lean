/- Contracts and laws on abstract memory, merged. Each holds under its own conditions. -/
import Derived.Test.YtmkpfllbmdahkaaPCasesBySecret03
/- Contracts: codes of schemes, groups and held shares; products of equal factors. Each holds under its own conditions. -/
set_option linter.unusedVariables false
set_option linter.unusedSimpArgs false
set_option maxRecDepth 20000
namespace Go.Proofs.Ytmkpfllbmdahkaa.Am
open Go Go.RowKit Go.Proofs Go.Proofs.Ytmkpfllbmdahkaa.Pl
/-- The code of a scheme and a group. -/
noncomputable def codeS (x : T_Scheme) (g : List Int) : Int := if tv (SchOk x) = true then (if tv (Rises 0 (x.1 - 1) g) = true then 0 else 2) else 1
noncomputable def rowsG (ow : List Int) (g : List Int) : List Int := rowsP (fun i => (bitsOf g).testBit (ow.getD i 0).toNat) ow.length
/-- .. and of held shares. -/
noncomputable def codeH (x : T_Scheme) (g held : List Int) : Int := if codeS x g = 0 then (if tv (held.length = (rowsG x.2.1 g).length ∧ Elems x.2.2.1 held) = true then 0 else 2) else codeS x g
theorem codeS_ok {x : T_Scheme} {g : List Int} (h : codeS x g = 0) : SchOk x ∧ Rises 0 (x.1 - 1) g := by
  unfold codeS at h
  split at h
  · rename_i h1
    split at h
    · rename_i h2; exact ⟨tv_iff.1 h1, tv_iff.1 h2⟩
    · cases h
  · cases h
theorem codeH_ok {x : T_Scheme} {g held : List Int} (h : codeH x g held = 0) : SchOk x ∧ Rises 0 (x.1 - 1) g ∧ held.length = (rowsG x.2.1 g).length ∧ Elems x.2.2.1 held := by
  unfold codeH at h
  split at h
  · rename_i h1
    split at h
    · rename_i h2
      exact ⟨(codeS_ok h1).1, (codeS_ok h1).2, (tv_iff.1 h2).1, (tv_iff.1 h2).2⟩
    · cases h
  · rename_i h1; exact absurd h h1
theorem rises_small {q : Nat} {g : List Int} (h : Rises 0 ((q : Int) - 1) g) : ∀ x ∈ g, 0 ≤ x ∧ x < (q : Int) := fun x hx => by have := rises_mem h x hx; omega
theorem group_bits {q : Nat} {g : List Int} (h : Rises 0 ((q : Int) - 1) g) {y : Int} (h0 : 0 ≤ y) (h1 : y < q) : decide (y ∈ g) = (bitsOf g).testBit y.toNat := by
  rw [← hold_has h0 h1, hold_bits q h]
theorem rowsG_spec {h p c : Int} {ow g : List Int} {rows : List (List Int)} (hk : OkSch h ow p c rows) (hg : Rises 0 (h - 1) g) : rowsP (fun i => decide (ow.getD i 0 ∈ g)) ow.length = rowsG ow g := by
  obtain ⟨q, rfl⟩ : ∃ q : Nat, h = q := ⟨h.toNat, by have := hk.h1; omega⟩
  unfold rowsG
  refine rowsP_congr fun i hi => ?_
  have hm := hk.own (ow.getD i 0) (by rw [List.getD_eq_getElem?_getD, List.getElem?_eq_getElem hi]; exact List.getElem_mem hi)
  exact group_bits hg hm.1 (by omega)
section
variable {S : Ids} {H0 : AH}
theorem schemeCode (x : T_Scheme) (g : List Int) {a1 c1 a2 c2 a3 c3} (hB : B_Scheme x) (hG : B_Int64S g) (h1 : KI.Sl S H0 (.slice a1 x.2.1.length c1) x.2.1) (h2 : KI.sl.Sl S H0 (.slice a2 x.2.2.2.2.length c2) x.2.2.2.2) (h3 : KI.Sl S H0 (.slice a3 g.length c3) g) :
    Spec Try.prog S H0 150 [.agg #[.int .i64 x.1, .slice a1 x.2.1.length c1, .int .i64 x.2.2.1, .int .i64 x.2.2.2.1, .slice a2 x.2.2.2.2.length c2], .slice a3 g.length c3] (fun v => v = .int .i64 (codeS x g)) := by
  refine Spec.of1 Try.func150 rfl (by kernel_rfl) rfl (fun H _ => ?_)
  have hG' : g.length ≤ 1048576 := hG
  refine KW.callE rfl rfl rfl rfl rfl (validScheme x.1 x.2.2.1 x.2.2.2.1 hB.2.2.1 hB.2.1 hB.2.2.2.2 h1.up h2.up) (fun _ _ => ?_)
  by_cases hk : SchOk x
  · rw [show tv (OkSch x.1 x.2.1 x.2.2.1 x.2.2.2.1 x.2.2.2.2) = true from tv_true hk]
    refine KW.cF rfl rfl (by first | (simp; done) | decide) ?_
    refine KW.callE rfl rfl rfl rfl rfl (isGroup x.1 (by omega) (by have := hk.h1; have := hk.h7; omega) h3.up) (fun _ _ => ?_)
    by_cases hg : Rises 0 (x.1 - 1) g
    · rw [tv_true hg]
      refine KW.cF rfl rfl (by first | (simp; done) | decide) ?_
      exact KW.ret rfl rfl rfl rfl (by unfold codeS; rw [if_pos (tv_true hk), if_pos (tv_true hg)]; rfl)
    · rw [tv_false hg]
      refine KW.cT rfl rfl (by first | (simp; done) | decide) ?_
      exact KW.ret rfl rfl rfl rfl (by unfold codeS; rw [if_pos (tv_true hk), if_neg (by rw [tv_false hg]; decide)]; rfl)
  · rw [show tv (OkSch x.1 x.2.1 x.2.2.1 x.2.2.2.1 x.2.2.2.2) = false from tv_false hk]
    refine KW.cT rfl rfl (by first | (simp; done) | decide) ?_
    exact KW.ret rfl rfl rfl rfl (by unfold codeS; rw [if_neg (by rw [tv_false hk]; decide)]; rfl)
theorem l04Asked (x : T_Scheme) (g : List Int) {id k : Nat} {a1 c1 a2 c2 a3 c3} (hB : B_Scheme x) (hG : B_Int64S g) (hv : Has3 S H0 id k [.int .i64 x.1, .slice a1 x.2.1.length c1, .int .i64 x.2.2.1, .int .i64 x.2.2.2.1, .slice a2 x.2.2.2.2.length c2]) (h1 : KI.Sl S H0 (.slice a1 x.2.1.length c1) x.2.1) (h2 : KI.sl.Sl S H0 (.slice a2 x.2.2.2.2.length c2) x.2.2.2.2) (h3 : KI.Sl S H0 (.slice a3 g.length c3) g) :
    Spec Try.prog S H0 201 [.pointer (some ⟨id, k, none⟩), .slice a3 g.length c3] (fun v => v = .int .i64 (codeS x g)) := by
  refine Spec.of1 Try.func201 rfl (by kernel_rfl) rfl (fun H _ => ?_)
  have hv := hv.up (S' := Low H.n) (H' := H)
  have hG' : g.length ≤ 1048576 := hG
  refine KW.callE rfl rfl rfl rfl rfl (l04Ok x.1 x.2.2.1 x.2.2.2.1 hB.2.2.1 hB.2.1 hB.2.2.2.2 hv h1.up h2.up) (fun _ _ => ?_)
  by_cases hk : SchOk x
  · rw [show tv (OkSch x.1 x.2.1 x.2.2.1 x.2.2.2.1 x.2.2.2.2) = true from tv_true hk]
    refine KW.cF rfl rfl (by first | (simp; done) | decide) ?_
    refine KW.ldF 0 hv rfl rfl rfl rfl rfl rfl rfl rfl rfl ?_
    refine KW.callE rfl rfl rfl rfl rfl (l01Group x.1 hG (by have := hk.h1; have := hk.h7; omega) h3.up) (fun _ _ => ?_)
    by_cases hg : Rises 0 (x.1 - 1) g
    · rw [tv_true hg]
      refine KW.cF rfl rfl (by first | (simp; done) | decide) ?_
      exact KW.ret rfl rfl rfl rfl (by unfold codeS; rw [if_pos (tv_true hk), if_pos (tv_true hg)]; rfl)
    · rw [tv_false hg]
      refine KW.cT rfl rfl (by first | (simp; done) | decide) ?_
      exact KW.ret rfl rfl rfl rfl (by unfold codeS; rw [if_pos (tv_true hk), if_neg (by rw [tv_false hg]; decide)]; rfl)
  · rw [show tv (OkSch x.1 x.2.1 x.2.2.1 x.2.2.2.1 x.2.2.2.2) = false from tv_false hk]
    refine KW.cT rfl rfl (by first | (simp; done) | decide) ?_
    exact KW.ret rfl rfl rfl rfl (by unfold codeS; rw [if_neg (by rw [tv_false hk]; decide)]; rfl)
theorem heldCode (x : T_Scheme) (g held : List Int) {a1 c1 a2 c2 a3 c3 a4 c4} (hB : B_Scheme x) (hG : B_Int64S g) (hH : B_Int64S held) (h1 : KI.Sl S H0 (.slice a1 x.2.1.length c1) x.2.1) (h2 : KI.sl.Sl S H0 (.slice a2 x.2.2.2.2.length c2) x.2.2.2.2) (h3 : KI.Sl S H0 (.slice a3 g.length c3) g) (h4 : KI.Sl S H0 (.slice a4 held.length c4) held) :
    Spec Try.prog S H0 116 [.agg #[.int .i64 x.1, .slice a1 x.2.1.length c1, .int .i64 x.2.2.1, .int .i64 x.2.2.2.1, .slice a2 x.2.2.2.2.length c2], .slice a3 g.length c3, .slice a4 held.length c4] (fun v => v = .int .i64 (codeH x g held)) := by
  refine Spec.of1 Try.func116 rfl (by kernel_rfl) rfl (fun H _ => ?_)
  have hG' : g.length ≤ 1048576 := hG
  have hH' : held.length ≤ 1048576 := hH
  refine KW.callE rfl rfl rfl rfl rfl (schemeCode x g hB hG h1.up h2.up h3.up) (fun _ _ => ?_)
  by_cases hs : codeS x g = 0
  · obtain ⟨hk, hg⟩ := codeS_ok hs
    have hk' : OkSch x.1 x.2.1 x.2.2.1 x.2.2.2.1 x.2.2.2.2 := hk
    obtain ⟨q, hq⟩ : ∃ q : Nat, x.1 = q := ⟨x.1.toNat, by have := hk'.h1; omega⟩
    have hq7 := hk'.h7
    rw [hq] at hg
    have hgs := rises_small hg
    have hbt : bitsOf g < 256 := Nat.lt_of_lt_of_le (bitsOf_lt (m := q) (fun x hx => by have := hgs x hx; omega)) (Nat.pow_le_pow_right (by decide) (show q ≤ 8 by omega))
    rw [hs]
    refine KW.tT rfl rfl (by first | (simp; done) | decide) ?_
    refine KW.callE rfl rfl rfl rfl rfl (crowdOf (m := q) (by omega) (by omega) hgs h3.up) (fun _ _ => ?_)
    refine KW.callN1 rfl rfl rfl rfl rfl (rowsHeld x.1 x.2.2.1 x.2.2.2.1 (bitsOf g) (by omega) hB.2.1 hk'.own hk'.h7 h1.up) (fun v HR SR mR _ _ hv => ?_)
    obtain ⟨a5, c5, rfl, hR⟩ := hv
    rw [show rowsP (fun i => (bitsOf g).testBit (x.2.1.getD i 0).toNat) x.2.1.length = rowsG x.2.1 g from rfl]
    by_cases hl : held.length = (rowsG x.2.1 g).length
    · refine KW.tF rfl rfl (by simp [hl]) ?_
      refine KW.callE rfl rfl rfl rfl rfl (areElements x.2.2.1 hB.2.2.1 (by omega) h4.up) (fun _ _ => ?_)
      by_cases he : Elems x.2.2.1 held
      · rw [tv_true (p := PrimeP x.2.2.1 ∧ Elems x.2.2.1 held) ⟨hk'.mat.pr, he⟩]
        refine KW.cF rfl rfl (by first | (simp; done) | decide) ?_
        refine KW.retM1 rfl rfl rfl rfl (fun H1 g => by unfold codeH; rw [if_pos hs, if_pos (tv_true ⟨hl, he⟩)]; rfl)
      · rw [tv_false (p := PrimeP x.2.2.1 ∧ Elems x.2.2.1 held) (fun hc => he hc.2)]
        refine KW.cT rfl rfl (by first | (simp; done) | decide) ?_
        refine KW.retM1 rfl rfl rfl rfl (fun H1 g => by unfold codeH; rw [if_pos hs, if_neg (by rw [tv_false (fun hc => he hc.2)]; decide)]; rfl)
    · refine KW.tT rfl rfl (by simp; omega) ?_
      refine KW.cT rfl rfl (by first | (simp; done) | decide) ?_
      refine KW.retM1 rfl rfl rfl rfl (fun H1 g => by unfold codeH; rw [if_pos hs, if_neg (by rw [tv_false (fun hc => hl hc.1)]; decide)]; rfl)
  · refine KW.tF rfl rfl (by simpa using hs) ?_
    refine KW.cF rfl rfl (by first | (simp; done) | decide) ?_
    exact KW.ret rfl rfl rfl rfl (by unfold codeH; rw [if_neg hs]; rfl)
theorem l04With (x : T_Scheme) (g held : List Int) {id k : Nat} {a1 c1 a2 c2 a3 c3 a4 c4} (hB : B_Scheme x) (hG : B_Int64S g) (hH : B_Int64S held) (hv : Has3 S H0 id k [.int .i64 x.1, .slice a1 x.2.1.length c1, .int .i64 x.2.2.1, .int .i64 x.2.2.2.1, .slice a2 x.2.2.2.2.length c2]) (h1 : KI.Sl S H0 (.slice a1 x.2.1.length c1) x.2.1) (h2 : KI.sl.Sl S H0 (.slice a2 x.2.2.2.2.length c2) x.2.2.2.2) (h3 : KI.Sl S H0 (.slice a3 g.length c3) g) (h4 : KI.Sl S H0 (.slice a4 held.length c4) held) :
    Spec Try.prog S H0 113 [.pointer (some ⟨id, k, none⟩), .slice a3 g.length c3, .slice a4 held.length c4] (fun v => v = .int .i64 (codeH x g held)) := by
  refine Spec.of1 Try.func113 rfl (by kernel_rfl) rfl (fun H _ => ?_)
  have hv := hv.up (S' := Low H.n) (H' := H)
  have hG' : g.length ≤ 1048576 := hG
  have hH' : held.length ≤ 1048576 := hH
  refine KW.callE rfl rfl rfl rfl rfl (l04Asked x g hB hG hv h1.up h2.up h3.up) (fun _ _ => ?_)
  by_cases hs : codeS x g = 0
  · obtain ⟨hk, hg⟩ := codeS_ok hs
    have hk' : OkSch x.1 x.2.1 x.2.2.1 x.2.2.2.1 x.2.2.2.2 := hk
    have hrg := rowsG_spec hk' hg
    have hpr := hk'.mat.pr
    rw [hs]
    refine KW.tT rfl rfl (by first | (simp; done) | decide) ?_
    refine KW.ldF 2 hv rfl rfl rfl rfl rfl rfl rfl rfl rfl ?_
    refine KW.callN1 rfl rfl rfl rfl rfl (l04Held x.1 x.2.2.1 x.2.2.2.1 hB.2.1 hG' hv.up h1.up h3.up) (fun v HR SR mR _ _ hv => ?_)
    obtain ⟨a5, c5, rfl, hR⟩ := hv
    rw [hrg]
    refine KW.callE rfl rfl rfl rfl rfl (l03Row x.2.2.1 (rowsG x.2.1 g).length (by unfold I64; have := hpr.1; have := hpr.2.1; omega) hH h4.up) (fun _ _ => ?_)
    by_cases hl : held.length = (rowsG x.2.1 g).length ∧ Elems x.2.2.1 held
    · rw [show tv ((held.length : Int) = ((rowsG x.2.1 g).length : Nat) ∧ Elems x.2.2.1 held) = true from tv_true ⟨by omega, hl.2⟩]
      refine KW.cF rfl rfl (by first | (simp; done) | decide) ?_
      refine KW.retM1 rfl rfl rfl rfl (fun H1 g => by unfold codeH; rw [if_pos hs, if_pos (tv_true hl)]; rfl)
    · rw [show tv ((held.length : Int) = ((rowsG x.2.1 g).length : Nat) ∧ Elems x.2.2.1 held) = false from tv_false (fun hc => hl ⟨by omega, hc.2⟩)]
      refine KW.cT rfl rfl (by first | (simp; done) | decide) ?_
      refine KW.retM1 rfl rfl rfl rfl (fun H1 g => by unfold codeH; rw [if_pos hs, if_neg (by rw [tv_false hl]; decide)]; rfl)
  · refine KW.tF rfl rfl (by simpa using hs) ?_
    refine KW.cF rfl rfl (by first | (simp; done) | decide) ?_
    exact KW.ret rfl rfl rfl rfl (by unfold codeH; rw [if_neg hs]; rfl)
/-- A product of n factors, held at 20001. -/
def tmN (p : Int) : Nat → Int
  | 0 => 1
  | n + 1 => if tmN p n * p < 20001 then tmN p n * p else 20001
theorem tmN_in {p : Int} (hp : 2 ≤ p ∧ p ≤ 31) : ∀ n, 1 ≤ tmN p n ∧ tmN p n ≤ 20001
  | 0 => by simp [tmN]
  | n + 1 => by
    have h := tmN_in hp n
    have h1 : 1 * 2 ≤ tmN p n * p := Int.mul_le_mul h.1 hp.1 (by omega) (by omega)
    simp only [tmN]
    split <;> omega
theorem Int.one_le_of_pow (p : Int) : ∀ n : Nat, 1 ≤ p → 1 ≤ p ^ n
  | 0, _ => by simp
  | n + 1, h => by
    have h1 := Int.one_le_of_pow p n h
    rw [Int.pow_succ]
    have := Int.mul_le_mul h1 h (by omega) (by omega)
    omega
theorem Int.pow_le_of_le {p : Int} (hp : 2 ≤ p ∧ p ≤ 31) {i c : Nat} (h : i ≤ c) : p ^ i ≤ p ^ c := by
  obtain ⟨d, rfl⟩ : ∃ d, c = i + d := ⟨c - i, by omega⟩
  rw [Int.pow_add]
  have h1 := Int.one_le_of_pow p d (by omega)
  have h2 := Int.one_le_of_pow p i (by omega)
  have := Int.mul_le_mul_of_nonneg_left h1 (show 0 ≤ p ^ i by omega)
  omega
theorem tmN_le {p : Int} (hp : 2 ≤ p ∧ p ≤ 31) : ∀ n, p ^ n ≤ 20000 → tmN p n = p ^ n
  | 0, _ => by simp [tmN]
  | n + 1, h => by
    have h1 : p ^ n ≤ p ^ n * p := by
      have h2 : 0 ≤ p ^ n := Int.pow_nonneg (by omega)
      have := Int.mul_le_mul_of_nonneg_left hp.1 h2
      omega
    rw [Int.pow_succ] at h ⊢
    simp only [tmN]
    rw [tmN_le hp n (by omega), if_pos (by omega)]
theorem tmN_gt {p : Int} (hp : 2 ≤ p ∧ p ≤ 31) : ∀ n, 20000 < p ^ n → 20000 < tmN p n
  | 0, h => by simp at h
  | n + 1, h => by
    simp only [tmN]
    split
    · rcases Int.lt_or_le 20000 (p ^ n) with h1 | h1
      · have h2 := tmN_gt hp n h1
        have := Int.mul_le_mul_of_nonneg_left hp.1 (show 0 ≤ tmN p n by omega)
        omega
      · rw [tmN_le hp n h1, ← Int.pow_succ]
        exact h
    · omega
theorem times (p : Int) (c : Nat) (hp : 2 ≤ p ∧ p ≤ 31) (hn : c ≤ 1000) : Spec Try.prog S H0 118 [.int .i64 p, .int .i64 c, .int .i64 20000] (fun v => v = .int .i64 (tmN p c)) := by
  refine Spec.of1 Try.func118 rfl (by kernel_rfl) rfl (fun H _ => ?_)
  refine KW.lp rfl rfl (fun i : Nat => [(0, .int .i64 p), (2, .int .i64 20000), (7, .int .i64 (tmN p i)), (8, .int .i64 c), (9, .int .i64 i)]) (fun i => i ≤ c) (fun i => c - i) (0) (by omega) ⟨rfl, rfl, rfl, rfl, rfl, trivial⟩ (fun i hi bE n => ?_)
  have ht := tmN_in hp i
  have h2 : tmN p i * p ≤ 20001 * 31 := Int.mul_le_mul ht.2 hp.2 (by omega) (by omega)
  have h3 : 0 ≤ tmN p i * p := Int.mul_nonneg (by omega) (by omega)
  refine KW.cnd rfl rfl (fun k1 => ?_) (fun k1 => ?_)
  · have k1 : (i : Int) < c := k1
    refine KW.nxt rfl rfl (fun H' g => ⟨i + 1, ?_, ?_, ?_, g⟩)
    · omega
    · omega
    · refine ⟨rfl, rfl, ?_, rfl, ?_, trivial⟩
      · refine Eq.trans (b := Value.int .i64 (if IntKind.i64.wrap (tmN p i * p) < 20001 then IntKind.i64.wrap (tmN p i * p) else 20001)) rfl ?_
        rw [wr (by omega) (by omega)]
        rfl
      · exact congrArg (Value.int .i64) (inc64 (by omega))
  · obtain rfl : i = c := by have k1 : ¬ (i : Int) < c := k1; omega
    exact KW.ret rfl rfl rfl rfl (rfl)
theorem l04Cases (p : Int) (c : Nat) (hp : 2 ≤ p ∧ p ≤ 31) (hn : c ≤ 1000) : Spec Try.prog S H0 114 [.int .i64 p, .int .i64 c] (fun v => ∃ r : Int, v = .int .i64 r ∧ 1 ≤ r ∧ (p ^ c ≤ 20000 → r = p ^ c) ∧ (20000 < p ^ c → 20000 < r)) := by
  refine Spec.of1 Try.func114 rfl (by kernel_rfl) rfl (fun H _ => ?_)
  refine KW.lp rfl rfl (fun i : Nat => [(0, .int .i64 p), (1, .int .i64 c), (5, .int .i64 (p ^ i)), (6, .int .i64 i)]) (fun i => i ≤ c ∧ p ^ i ≤ 620000) (fun i => c - i) (0) (⟨by omega, by simp⟩) ⟨rfl, rfl, congrArg (Value.int .i64) (by simp), rfl, trivial⟩ (fun i hi bE n => ?_)
  obtain ⟨hi, hpi⟩ := hi
  have hpos : 1 ≤ p ^ i := Int.one_le_of_pow p i (by omega)
  refine KW.tst rfl rfl (fun k1 => ?_) (fun k1 => ?_)
  · have k1 : (i : Int) < c := k1
    refine KW.cnd rfl rfl (fun k2 => ?_) (fun k2 => ?_)
    · have h3 : p ^ i * p ≤ 20000 * 31 := Int.mul_le_mul k2 hp.2 (by omega) (by omega)
      have h4 : 0 ≤ p ^ i * p := Int.mul_nonneg (by omega) (by omega)
      refine KW.nxt rfl rfl (fun H' g => ⟨i + 1, ⟨by omega, by rw [Int.pow_succ]; omega⟩, by first | omega | (simp only; omega), ⟨rfl, rfl, congrArg (Value.int .i64) (by rw [wr (by omega) (by omega), Int.pow_succ]), congrArg (Value.int .i64) (inc64 (by omega)), trivial⟩, g⟩)
    · exact KW.ret rfl rfl rfl rfl (⟨_, rfl, hpos, fun h => absurd (Int.le_trans (Int.pow_le_of_le hp (by omega)) h) k2, fun _ => by omega⟩)
  · obtain rfl : i = c := by have k1 : ¬ (i : Int) < c := k1; omega
    refine KW.cF rfl rfl (by first | (simp; done) | decide) ?_
    exact KW.ret rfl rfl rfl rfl (⟨_, rfl, hpos, fun _ => rfl, fun h => h⟩)
end
end Go.Proofs.Ytmkpfllbmdahkaa.Am
/- Contracts: rows from a place on; copies in blocks of their own; systems of equations solved by the program. Each holds under its own conditions. -/
set_option linter.unusedVariables false
set_option linter.unusedSimpArgs false
set_option maxRecDepth 20000
namespace Go.Proofs.Ytmkpfllbmdahkaa.Am
open Go Go.RowKit Go.Proofs Go.Proofs.Ytmkpfllbmdahkaa.Pl
theorem fer_all : ((List.range 32).all fun p => (List.range p).all fun a => Nat.beq a 0 || !((List.range p).all fun d => Nat.ble d 1 || !Nat.beq (p % d) 0) || Nat.ble p 1 || ((a : Int) * pw p a (p - 2) - 1) % p == 0) = true := by decide +kernel
theorem fer {p : Int} (h : PrimeP p) : Fer p := by
  obtain ⟨h2, h31, hd⟩ := h
  refine ⟨h2, fun a h0 h1 => ?_⟩
  obtain ⟨q, rfl⟩ : ∃ q : Nat, p = q := ⟨p.toNat, by omega⟩
  obtain ⟨b, rfl⟩ : ∃ b : Nat, a = b := ⟨a.toNat, by omega⟩
  have h3 := List.all_eq_true.1 (List.all_eq_true.1 fer_all q (List.mem_range.2 (by omega))) b (List.mem_range.2 (by omega))
  have h4 : ((List.range q).all fun d => Nat.ble d 1 || !Nat.beq (q % d) 0) = true := by
    refine List.all_eq_true.2 fun d hdm => ?_
    have hdq := List.mem_range.1 hdm
    by_cases hd1 : d ≤ 1
    · rw [Nat.ble_eq_true_of_le hd1]; rfl
    · have h5 := hd d (by omega) (by omega)
      have h6 : Nat.beq (q % d) 0 = false := by
        cases hb : Nat.beq (q % d) 0 with
        | false => rfl
        | true => exact absurd (by have := Nat.eq_of_beq_eq_true hb; omega) h5
      rw [h6]; simp
  rw [h4] at h3
  have hb0 : Nat.beq b 0 = false := by
    cases hb : Nat.beq b 0 with
    | false => rfl
    | true => have := Nat.eq_of_beq_eq_true hb; omega
  have hp1 : Nat.ble q 1 = false := by
    cases hb : Nat.ble q 1 with
    | false => rfl
    | true => have := Nat.le_of_ble_eq_true hb; omega
  rw [hb0, hp1] at h3
  simp only [Bool.not_true, Bool.false_or, beq_iff_eq] at h3
  have e : ((q : Int) - 2).toNat = q - 2 := by omega
  rw [e]
  obtain ⟨k, hk⟩ := Int.dvd_of_emod_eq_zero h3
  exact ⟨k, by omega⟩
section
variable {P : Program} {S : Ids} {H0 : AH} {Q : PostC} {k k1 : List It} {e e1 : Env} {T T1 : List Var} {n n1 : Nat} {l1 r1 : List Nat} {d1 : Tmp}
/-- x[m:] of a list that is not empty. -/
theorem KW.slFrom {o : Oper} {dr : Bool} {t el : TypeId} {x y : Operand} {inf : TypeInfo} {a : Option Addr} {c m : Nat} {kk : IntKind} {xs : List Int} (hs : KI.Sl S H0 (.slice a xs.length c) xs) (hx0 : 0 < xs.length) (hm : m ≤ xs.length) (h : Go1 P k e T n (.op o dr) k1 e1 T1 n1 l1 r1) (hlr : l1 = r1) (ho : o.op = .slice t x (some y) none none) (hd : o.dst = some d1) (hx : ev e1 x = .slice a xs.length c) (hy : ev e1 y = .int kk (m : Nat))
    (hu : P.underlying t = some (.slice el)) (hi : P.info? el = some inf) (he : inf.size = 1) (hk : ∀ a' c', KI.Sl S H0 (.slice a' (xs.drop m).length c') (xs.drop m) → KW P S H0 Q n1 T1 k1 (put1 e1 d1 (.slice a' (xs.drop m).length c'))) : KW P S H0 Q n T k e := by
  rcases hs with ⟨rfl, _⟩ | ⟨id, o0, c1, b, h1, h2, h3, h4, h5, h6⟩
  · simp at hx0
  · cases h1
    have h5 : o0 + xs.length * 1 ≤ b.cells.length := h5
    have ab : abound (.int kk (m : Nat)) xs.length = some m := by simp [abound]; omega
    have hlen : (xs.drop m).length = xs.length - m := List.length_drop
    have hsub : ∀ c', xs.length - m ≤ c' → KI.Sl S H0 (.slice (some ⟨id, o0 + m * 1, some 1⟩) (xs.drop m).length c') (xs.drop m) := fun c' hc' => .inr ⟨id, o0 + m * 1, c', b, rfl, by rw [hlen]; exact hc', h3, h4, by rw [hlen]; show o0 + m * 1 + (xs.length - m) * 1 ≤ _; omega, fun i z hz => by
      rw [List.getElem?_drop] at hz
      have := h6 (m + i) z hz
      rw [show o0 + m * 1 + i * KI.es = o0 + (m + i) * KI.es by show o0 + m * 1 + i * 1 = o0 + (m + i) * 1; omega]
      exact this⟩
    by_cases hm0 : m = 0
    · subst hm0
      refine KW.pure h hlr ho hd rfl _ ?_ (hk (some ⟨id, o0, some 1⟩) c (by simpa using hsub c (by omega)))
      simp only [pop, acut, hu, hx, hi, Option.map, hy, bHi, bLo, ab]
      simp [he]
      rfl
    · by_cases hcm : c = m
      · have hd0 : xs.drop m = [] := List.drop_eq_nil_of_le (by omega)
        refine KW.pure h hlr ho hd rfl _ ?_ (hk (some ⟨id, o0, none⟩) 0 (.inl ⟨hd0, _, 0, by rw [hd0]; rfl, fun h => by cases h⟩))
        simp only [pop, acut, hu, hx, hi, Option.map, hy, bHi, bLo, ab, hd0]
        simp [he, hm0, hcm]
        rfl
      · refine KW.pure h hlr ho hd rfl _ ?_ (hk (some ⟨id, o0 + m * 1, some 1⟩) (c - m) (hsub _ (by omega)))
        simp only [pop, acut, hu, hx, hi, Option.map, hy, bHi, bLo, ab, hlen]
        simp [he, hm0, hcm]
        exact ⟨rfl, Nat.mul_one m, rfl⟩
end
/-- A copy in a block of its own, or nil. -/
def MkB (xs : List Int) (n : Nat) (v : Value) (H1 : AH) : Prop := (xs = [] ∧ v = .slice none 0 0) ∨ ∃ o, v = .slice (some ⟨o, 0, some 1⟩) xs.length xs.length ∧ New n H1.n o ∧ H1.m o = some ⟨2, true, xs.map (Value.int .i64)⟩
section
variable {S : Ids} {H0 : AH}
theorem cloneB {a c} {xs : List Int} (hl : xs.length ≤ 1048576) (hs : KI.Sl S H0 (.slice a xs.length c) xs) : SpecM Try.prog S H0 119 [.slice a xs.length c] (MkB xs) := by
  refine SpecM.of1 Try.func119 rfl (by kernel_rfl) rfl (fun H _ => ?_)
  refine KW.cndB rfl rfl (fun h => ?_) (fun h => ?_)
  · have ha : a = none := by cases a with
      | none => rfl
      | some a => simp at h
    have hx : xs = [] := by
      rcases hs with ⟨hx, _⟩ | ⟨id, k, c1, b, h1, _⟩
      · exact hx
      · rw [ha] at h1; cases h1
    subst hx
    refine KW.retM1 rfl rfl rfl rfl (fun H1 g => .inl ⟨rfl, rfl⟩)
  · refine KW.lit rfl rfl rfl rfl rfl rfl rfl rfl rfl rfl [] rfl rfl (fun v hv => by simp at hv) rfl ?_
    refine KW.appV 0 rfl rfl rfl rfl rfl rfl rfl rfl rfl rfl (fun H1 g => acells_I hs.up g) (by simp) (by simp) (fun v hv => by obtain ⟨_, _, rfl⟩ := List.mem_map.1 hv; rfl) (by show (_ + _) * 8 ≤ _; simp only [List.length_cons, List.length_nil]; omega) (by simp only [List.length_cons, List.length_nil]; omega) (show 0 + xs.length = xs.length from by omega) (fun oa _ _ => ?_)
    refine KW.retM1 rfl rfl rfl rfl (fun H1 g => .inr ⟨_, rfl, ⟨g.ge (H1 := H) (j := 0) rfl, (g.blk (j := 0) rfl).2⟩, (g.blk (j := 0) rfl).1⟩)
end
/-- Rows with their values behind them. -/
def augW (L : List (List Int)) (vals : List Int) : List (List Int) := List.zipWith (fun r v => r ++ [v]) L vals
theorem augW_at {L : List (List Int)} {vals : List Int} {i : Nat} {r : List Int} {v : Int} (h : L[i]? = some r) (h' : vals[i]? = some v) : (augW L vals)[i]? = some (r ++ [v]) := by
  simp [augW, List.getElem?_zipWith, h, h']
theorem augW_len {L : List (List Int)} {vals : List Int} (h : vals.length = L.length) : (augW L vals).length = L.length := by simp [augW, h]
theorem augW_rect {p : Int} {k : Nat} {L : List (List Int)} {vals : List Int} (hL : Rect p k L) (hv : ∀ v ∈ vals, 0 ≤ v ∧ v < p) : Rect p (k + 1) (augW L vals) := fun w hw => by
  obtain ⟨i, hi⟩ := List.getElem?_of_mem hw
  simp only [augW, List.getElem?_zipWith] at hi
  split at hi
  · rename_i r v hr hv'
    simp only [Option.some.injEq] at hi
    subst hi
    have h1 := hL r (List.mem_of_getElem? hr)
    refine ⟨by simp [h1.1], fun x hx => ?_⟩
    rcases List.mem_append.1 hx with h | h
    · exact h1.2 x h
    · rw [List.mem_singleton.1 h]; exact hv v (List.mem_of_getElem? hv')
  · cases hi
/-- Rows in a variable of one's own read as rows. -/
theorem RowsB.slV {S V : Ids} {A H1 : AH} {rows : List (List Int)} {cs : List Value} {T : List Var} {n j o : Nat} {ty : TypeId} (h : RowsB KI.ml S A V rows cs) (g : Good S A T n H1) (hT : T[j]? = some (o, ⟨ty, true, cs⟩)) : KI.sl.Sl (Low H1.n) H1 (.slice (some ⟨o, 0, some 1⟩) rows.length rows.length) rows :=
  (h.ml rfl g hT (X := Low H1.n) (g.blk hT).2 (fun id hid => by have := (g.froz id (h.sub id hid)).1; have := g.n_; show id < _; omega)).to (KLe.row (KLe.refl KI))
end Go.Proofs.Ytmkpfllbmdahkaa.Am
/- Writers that some loads do not wait for: stores and appends. For every program. No condition beyond each theorem's own. -/
set_option linter.unusedSimpArgs false
set_option linter.unusedVariables false
namespace Go.Proofs.Ytmkpfllbmdahkaa.Am
open Go Go.RowKit
/-- What such a load reads is another variable, or frozen. -/
def Ap (S : Ids) (T : List Var) (e : Env) (j : Nat) (u : Tmp) : Prop := (∃ i b id k s, e u = .pointer (some ⟨id, k, s⟩) ∧ T[i]? = some (id, b) ∧ i ≠ j) ∨ ∃ id k s, e u = .pointer (some ⟨id, k, s⟩) ∧ S id
def AllL (S : Ids) (T : List Var) (e : Env) (j : Nat) : List Tmp → Prop
  | [] => True
  | u :: L => Ap S T e j u ∧ AllL S T e j L
section
variable {P : Program} {S : Ids} {H0 : AH} {Q : PostC} {k k1 k2 : List It} {e e1 e2 : Env} {T T1 T2 : List Var} {n n1 n2 : Nat} {l1 r1 l2 r2 : List Nat} {d1 d2 : Tmp}
theorem AllL.out {L : List Tmp} {j : Nat} {H H1 : AH} {v0 : Var} (g : Good S H0 T n H) (hj : T[j]? = some v0 ∨ j = T.length) (hL : AllL S T e j L) (hH : ∀ id, id < n → (∀ v, T[j]? = some v → id ≠ v.1) → H1.m id = H.m id) : ∀ t ∈ L, ∀ id k s, e t = .pointer (some ⟨id, k, s⟩) → H1.m id = H.m id := by
  induction L with
  | nil => intro t ht; cases ht
  | cons u L ih =>
    intro t ht id k s he
    rcases List.mem_cons.1 ht with rfl | ht
    · rcases hL.1 with ⟨i, b, id', k', s', h1, h2, h3⟩ | ⟨id', k', s', h1, h2⟩
      · rw [h1] at he
        cases he
        exact hH id (g.vars i _ h2).2.1 (fun v hv heq => h3 (g.dist i j _ v h2 hv heq))
      · rw [h1] at he
        cases he
        exact hH id (g.froz id h2).1 (fun v hv heq => (g.vars j v hv).2.2 (heq ▸ h2))
    · exact ih hL.2 t ht id k s he
theorem KEvt.heapL {o : Oper} {dr : Bool} {c : Cf} {L : List Tmp} (v : Value) (T' : List Var) (n' : Nat) (hc : opClass o.op = 1 ∨ opClass o.op = 2) (hp : ∀ H, Good S H0 c.T c.n H → ∃ tag H1, hop P tag o.op c.e H = some (v, H1) ∧ Good S H0 T' n' H1 ∧ ∀ t ∈ L, ∀ id k s, c.e t = .pointer (some ⟨id, k, s⟩) → H1.m id = H.m id) (hk : KW P S H0 Q n' T' c.k (put c.e o.dst v)) : KEvt P S H0 Q (.opL o dr L) c := by
  intro H g
  obtain ⟨tag, H1, h1, g1, h2⟩ := hp H g
  refine ⟨0, v, H1, ?_, h2, hk H1 g1⟩
  unfold evOp
  split
  · rename_i hop; rw [hop] at hc; simp [opClass] at hc
  · split
    · rename_i h0; omega
    · exact ⟨tag, h1⟩
/-- A store to a variable. -/
theorem KW.stZ {o : Oper} {dr : Bool} {L : List Tmp} {t : TypeId} {x y : Operand} {id kk : Nat} {sp : Option Nat} {b b' : Blk} (j : Nat) (h : Go1 P k e T n (.opL o dr L) k1 e1 T1 n1 l1 r1) (hlr : l1 = r1) (ho : o.op = .store t x y) (hd : o.dst = none) (hx : ev e1 x = .pointer (some ⟨id, kk, sp⟩)) (hT : T1[j]? = some (id, b)) (hs : bstore P b t kk (ev e1 y) = some b') (hL : AllL S T1 e1 j L)
    (hk : KW P S H0 Q n1 (T1.set j (id, b')) k1 e1) : KW P S H0 Q n T k e := by
  refine KW.go h hlr (KEvt.heapL (c := ⟨_, _, _, _, _, _⟩) undef (T1.set j (id, b')) n1 (by rw [ho]; exact .inr rfl) (fun H g => ⟨none, H.set id b', ?_, g.set hT _, AllL.out g (.inl hT) hL (fun i hi hne => ?_)⟩) (by rw [hd]; exact hk))
  · rw [ho]
    simp only [hop, hx, bstore_ok (g.blk hT).1 hs]
  · have := hne _ hT
    simp [AH.set, this]
theorem KW.appNL {o : Oper} {dr : Bool} {L : List Tmp} {t el : TypeId} {x y : Operand} {inf : TypeInfo} {m : Nat} {ys : List Value} (h : Go1 P k e T n (.opL o dr L) k1 e1 T1 n1 l1 r1) (hlr : l1 = r1) (ho : o.op = .call { callee := .builtin .append, args := #[x, y], argTypes := #[t, t] }) (hd : o.dst = some d1) (hx : ev e1 x = .slice none 0 0)
    (hu : P.underlying t = some (.slice el)) (hi : P.info? el = some inf) (hs : inf.size = 1) (hzo : zeroOkL P el = true) (hy : ∀ H, Good S H0 T1 n1 H → acells H (ev e1 y) 1 = some (m, ys)) (hone : ∀ v ∈ ys, v.oneCell' = true) (hm : m ≠ 0) (hb : m * inf.bytes ≤ 140737488355328) (hml : m ≤ 9223372036854775807) (hL : AllL S T1 e1 T1.length L)
    (hk : KW P S H0 Q (n1 + 1) (T1 ++ [(n1, ⟨el, true, ys⟩)]) k1 (put1 e1 d1 (.slice (some ⟨n1, 0, some 1⟩) m m))) : KW P S H0 Q n T k e := by
  refine KW.go h hlr (KEvt.heapL (c := ⟨_, _, _, _, _, _⟩) _ _ _ (by rw [ho]; exact .inr rfl) (fun H g => ⟨none, _, ?_, g.push _, AllL.out (v0 := (0, ⟨0, true, []⟩)) g (.inr rfl) hL (fun i hi _ => ?_)⟩) (by rw [hd, put1_eq]; exact hk))
  · rw [ho]
    have h1 := hy H g
    simp only [hop, aappend, hu, hi, hs, hx, h1]
    rw [if_pos trivial, if_pos ⟨zeroOkL_ok hzo, by omega, List.all_eq_true.2 hone⟩, if_neg hm, if_pos ⟨hml, hb⟩, g.n_]
  · have hn := g.n_
    have hi : i < n1 := hi
    have : ¬ i = H.n := by omega
    simp [AH.push, this]
theorem KW.appTL {o : Oper} {dr : Bool} {L : List Tmp} {t el : TypeId} {x y : Operand} {inf : TypeInfo} {m len c id : Nat} {xs ys : List Value} (j : Nat) (h : Go1 P k e T n (.opL o dr L) k1 e1 T1 n1 l1 r1) (hlr : l1 = r1) (ho : o.op = .call { callee := .builtin .append, args := #[x, y], argTypes := #[t, t] }) (hd : o.dst = some d1) (hx : ev e1 x = .slice (some ⟨id, 0, some 1⟩) len c) (hT : T1[j]? = some (id, ⟨el, true, xs⟩))
    (hu : P.underlying t = some (.slice el)) (hi : P.info? el = some inf) (hs : inf.size = 1) (hzo : zeroOkL P el = true) (hy : ∀ H, Good S H0 T1 n1 H → acells H (ev e1 y) 1 = some (m, ys)) (hlen : xs.length = len) (hone : ∀ v ∈ ys, v.oneCell' = true) (hm : m ≠ 0) (hb : (len + m) * inf.bytes ≤ 140737488355328) (hml : len + m ≤ 9223372036854775807) (hL : AllL S T1 e1 j L)
    (hk : KW P S H0 Q (n1 + 1) (T1.set j (n1, ⟨el, true, xs ++ ys⟩)) k1 (put1 e1 d1 (.slice (some ⟨n1, 0, some 1⟩) (len + m) (len + m)))) : KW P S H0 Q n T k e := by
  refine KW.go h hlr (KEvt.heapL (c := ⟨_, _, _, _, _, _⟩) _ _ _ (by rw [ho]; exact .inr rfl) (fun H g => ⟨none, _, ?_, g.move hT _, AllL.out g (.inl hT) hL (fun i hi hne => ?_)⟩) (by rw [hd, put1_eq]; exact hk))
  · rw [ho]
    have h1 := hy H g
    have h2 := (g.blk hT).1
    simp only [hop, aappend, hu, hi, hs, hx, h1, h2]
    rw [if_pos trivial, if_pos ⟨zeroOkL_ok hzo, by omega, List.all_eq_true.2 hone⟩, if_neg hm, if_pos ⟨trivial, trivial, trivial, by omega, hml, hb⟩]
    simp only [List.drop_zero, Nat.mul_one, AH.kill, g.n_]
    rw [List.take_of_length_le (by omega)]
  · have hn := g.n_
    have hi : i < n1 := hi
    have h3 : ¬ i = H.n := by omega
    have h4 := hne _ hT
    simp [AH.push, AH.kill, h3, h4]
/-- One element more, to a slice that one has made. -/
theorem KW.app1L (j m0 : Nat) {o o' : Oper} {dr dr' : Bool} {L : List Tmp} {t el t' : TypeId} {m : Nat} {parts : Array (Nat × Operand)} {inf : TypeInfo} {z : Value} {x y : Operand} {len c id : Nat} {xs : List Value} {v : Value} (h : Go1 P k e T n (.op o dr) k1 e1 T1 n1 l1 r1) (hlr : l1 = r1) (ho : o.op = .buildSlice t m parts) (hd : o.dst = some d1)
    (hu : P.underlying t = some (.slice el)) (hi : P.info? el = some inf) (hs : inf.size = 1) (hz : inf.zero = some z) (hz1 : z.cells = #[z]) (hzo : zeroOkL P el = true) (hp : (parts.toList.map fun p => (p.1, ev e1 p.2)) = [(0, v)]) (hm : m = 1) (hv : v.cells = #[v]) (ho1 : v.oneCell' = true)
    (h' : Go1 P k1 (put1 e1 d1 (.slice (some ⟨n1, 0, some 1⟩) 1 1)) (T1 ++ [(n1, ⟨el, true, [v]⟩)]) (n1 + 1) (.opL o' dr' L) k2 e2 T2 n2 l2 r2) (hlr' : l2 = r2) (ho' : o'.op = .call { callee := .builtin .append, args := #[x, y], argTypes := #[t', t'] }) (hd' : o'.dst = some d2) (hx' : ev e2 x = .slice (some ⟨id, 0, some 1⟩) len c) (hT : T2[j]? = some (id, ⟨el, true, xs⟩))
    (hu' : P.underlying t' = some (.slice el)) (hy' : ev e2 y = .slice (some ⟨n1, 0, some 1⟩) 1 1) (hT2 : T2[m0]? = some (n1, ⟨el, true, [v]⟩)) (hlen : xs.length = len) (hb : (len + 1) * inf.bytes ≤ 140737488355328) (hml : len + 1 ≤ 9223372036854775807) (hL : AllL S T2 e2 j L)
    (hk : KW P S H0 Q (n2 + 1) ((T2.set j (n2, ⟨el, true, xs ++ [v]⟩)).take m0) k2 (put1 e2 d2 (.slice (some ⟨n2, 0, some 1⟩) (len + 1) (len + 1)))) : KW P S H0 Q n T k e :=
  KW.lit h hlr ho hd hu hi hs hz hz1 hzo [v] (by rw [hp]; rfl) hm (fun u hu => by rw [List.mem_singleton.1 hu]; exact hv) rfl
    (KW.appTL (ys := [v]) (m := 1) j h' hlr' ho' hd' hx' hT hu' hi hs hzo (fun H g => by rw [hy']; exact acells_T (g.blk hT2).1 rfl rfl) hlen (fun u hu => by rw [List.mem_singleton.1 hu]; exact ho1) (by decide) hb hml hL (KW.take m0 hk))
/-- .. to nil: what has been appended stays behind the rest. -/
theorem KW.app0L {o o' : Oper} {dr dr' : Bool} {L : List Tmp} {t el t' : TypeId} {m : Nat} {parts : Array (Nat × Operand)} {inf : TypeInfo} {z : Value} {x y : Operand} {v : Value} (m0 : Nat) (h : Go1 P k e T n (.op o dr) k1 e1 T1 n1 l1 r1) (hlr : l1 = r1) (ho : o.op = .buildSlice t m parts) (hd : o.dst = some d1)
    (hu : P.underlying t = some (.slice el)) (hi : P.info? el = some inf) (hs : inf.size = 1) (hz : inf.zero = some z) (hz1 : z.cells = #[z]) (hzo : zeroOkL P el = true) (hp : (parts.toList.map fun p => (p.1, ev e1 p.2)) = [(0, v)]) (hm : m = 1) (hv : v.cells = #[v]) (ho1 : v.oneCell' = true)
    (h' : Go1 P k1 (put1 e1 d1 (.slice (some ⟨n1, 0, some 1⟩) 1 1)) (T1 ++ [(n1, ⟨el, true, [v]⟩)]) (n1 + 1) (.opL o' dr' L) k2 e2 T2 n2 l2 r2) (hlr' : l2 = r2) (ho' : o'.op = .call { callee := .builtin .append, args := #[x, y], argTypes := #[t', t'] }) (hd' : o'.dst = some d2) (hx' : ev e2 x = .slice none 0 0)
    (hu' : P.underlying t' = some (.slice el)) (hy' : ev e2 y = .slice (some ⟨n1, 0, some 1⟩) 1 1) (hT2 : T2[m0]? = some (n1, ⟨el, true, [v]⟩)) (hb : inf.bytes ≤ 140737488355328) (hL : AllL S T2 e2 T2.length L)
    (hk : KW P S H0 Q (n2 + 1) (T2 ++ [(n2, ⟨el, true, [v]⟩)]) k2 (put1 e2 d2 (.slice (some ⟨n2, 0, some 1⟩) 1 1))) : KW P S H0 Q n T k e :=
  KW.lit h hlr ho hd hu hi hs hz hz1 hzo [v] (by rw [hp]; rfl) hm (fun u hu => by rw [List.mem_singleton.1 hu]; exact hv) rfl
    (KW.appNL (ys := [v]) (m := 1) h' hlr' ho' hd' hx' hu' hi hs hzo (fun H g => by rw [hy']; exact acells_T (g.blk hT2).1 rfl rfl) (fun u hu => by rw [List.mem_singleton.1 hu]; exact ho1) (by decide) (by omega) (by decide) hL hk)
end
end Go.Proofs.Ytmkpfllbmdahkaa.Am
/- Contract: systems of equations solved by the program: whether there is a solution. It holds under its own conditions. -/
set_option linter.unusedVariables false
set_option linter.unusedSimpArgs false
set_option maxRecDepth 20000
namespace Go.Proofs.Ytmkpfllbmdahkaa.Am
open Go Go.RowKit Go.Proofs Go.Proofs.Ytmkpfllbmdahkaa.Pl
theorem built_MatrixW (p : Int) {x c : Int} (h : x = c) : Try.prog.built 28 [(0, .int .i64 p), (1, .int .i64 x)] = some #[.int .i64 p, .int .i64 c, .slice none 0 0] := by subst h; exact built_Matrix2 _ _
section
variable {S : Ids} {H0 : AH}
theorem solve {p : Int} {k : Nat} (hp : PrimeP p) (hk : k ≤ 100) {L : List (List Int)} {vals : List Int} (hLl : L.length ≤ 100) (hL : Rect p k L) (hvl : vals.length = L.length) (hv : ∀ v ∈ vals, 0 ≤ v ∧ v < p) {a1 c1 a2 c2} (hs0 : KI.sl.Sl S H0 (.slice a1 L.length c1) L) (hv0 : KI.Sl S H0 (.slice a2 vals.length c2) vals) :
    SpecM Try.prog S H0 120 [.agg #[.int .i64 p, .int .i64 k, .slice a1 L.length c1], .slice a2 vals.length c2] (fun n v H1 => ∃ (a : Option Addr) (n c : Nat), v = .tuple #[.slice a n c, .bool (decide (k ∉ (ech p (augW L vals) (k + 1)).2))]) := by
  refine SpecM.of1L [5] Try.func120 rfl (by kernel_rfl) (by kernel_rfl) rfl (fun H _ => ?_)
  have hs := hs0.up (S' := Low H.n) (H' := H)
  have hvs := hv0.up (S' := Low H.n) (H' := H)
  have hWl := augW_len (L := L) (vals := vals) hvl
  have hWR := augW_rect hL hv
  have hf := fer hp
  have ek : IntKind.i64.wrap ((k : Int) + 1) = ((k + 1 : Nat) : Int) := by rw [wr (by omega) (by omega)]; omega
  refine KW.build rfl rfl rfl rfl rfl (built_MatrixW _ ek) ?_
  refine KW.lpM rfl rfl (fun s : CpS => [(1, .slice a2 vals.length c2), (2, .pointer (some ⟨H.n, 0, some 0⟩)), (6, .pointer (some ⟨H.n + 1, 0, some 1⟩)), (21, .slice a1 L.length c1), (22, .int .i64 L.length), (23, .int .i64 s.i)]) (fun s => s.S) (fun s => s.A) (fun s => [(H.n, ⟨28, true, [.int .i64 p, .int .i64 k, .slice a1 L.length c1]⟩), (H.n + 1, ⟨28, true, [.int .i64 p, .int .i64 (k + 1 : Nat), s.l]⟩)] ++ s.tail) (fun s => CqI (fun x => x) (augW L vals) H H (Low H.n) s) (fun s => L.length - s.i) (⟨0, Low H.n, H, fun _ => False, [], .slice none 0 0, []⟩) (⟨RwI.start, .inl ⟨rfl, rfl, rfl, rfl⟩⟩) ⟨rfl, rfl, rfl, rfl, rfl, rfl, trivial⟩ rfl rfl rfl (fun s hi bE n => ?_)
  obtain ⟨i, S1, A1, V, cs, l, tail⟩ := s
  obtain ⟨hq, hform⟩ := hi
  simp only at hq hform
  haveI : Stp (Low H.n) H S1 A1 := ⟨hq.old⟩
  have hle := hq.le
  have hcl := hq.b.len
  rw [List.length_map, List.length_take] at hcl
  simp only at hle hcl
  have hs1 := hs.up (S' := S1) (H' := A1)
  have hvs1 := hvs.up (S' := S1) (H' := A1)
  rcases hform with ⟨hi0, e1, e2, e3⟩ | ⟨hi0, o, e1, e2⟩
  case' inl => subst e1 e2 e3
  case' inr => subst e1 e2
  all_goals
    refine KW.cnd rfl rfl (fun j1 => ?gin) (fun j1 => ?gout)
    case gin =>
      have j1 : (i : Int) < (L.length : Int) := j1
      refine KW.getL hs1 rfl rfl rfl rfl rfl rfl rfl rfl rfl rfl rfl rfl rfl rfl rfl rfl (by omega) (j1) (fun y ay cy hy hsy => ?_)
      have hy : L[i]? = some y := hy
      have hym := hL y (List.mem_of_getElem? hy)
      obtain ⟨w, hw⟩ : ∃ w, vals[i]? = some w := ⟨vals[i]'(by omega), List.getElem?_eq_getElem (by omega)⟩
      have hWi := augW_at hy hw
      refine KW.ids (fun hlow hvar => ?_)
      refine KW.fact (fun _ g => g.nle (H1 := H)) (fun hn0 => ?_)
      refine KW.callN1 rfl rfl rfl rfl rfl (cloneB (by omega) hsy) (fun v HC SC mC _ _ hv => ?_)
      obtain hv := hv
      have t1 := (inferInstance : Stp S1 A1 SC HC).st
      have hvs2 := hvs1.up (S' := SC) (H' := HC)
      rcases hv with ⟨hy0, rfl⟩ | ⟨o3, rfl, hno3, hmo3⟩
      · refine KW.getI hvs2 rfl rfl rfl rfl rfl rfl rfl rfl rfl rfl rfl rfl rfl rfl rfl rfl (by omega) (by omega) (fun w2 hw2 => ?_)
        have hw2 : vals[i]? = some w2 := hw2
        rw [hw] at hw2
        cases hw2
        subst hy0
        have fin : ∀ (A' : AH) (S' : Ids) (o9 : Nat), (∀ id, S' id ↔ SC id ∨ id = o9) → St SC HC S' A' → ¬ SC o9 → St S1 A1 S' A' ∧ (∀ id, id = o9 → S' id ∧ H.n ≤ id ∧ ¬ S1 id) := fun A' S' o9 h1 h2 h3 => by
          refine ⟨t1.trans h2, fun id e => ?_⟩
          subst e
          refine ⟨(h1 _).2 (.inr rfl), ?_, fun h => h3 (t1 _ h).1⟩
          rcases Nat.lt_or_ge id H.n with h | h
          · exact absurd (t1 id (hq.old id h).1).1 h3
          · exact h
        first
          | (refine KW.app0L (v := .int .i64 w) 3 rfl rfl rfl rfl rfl rfl rfl rfl rfl rfl rfl rfl rfl rfl rfl rfl rfl rfl rfl rfl rfl rfl (by decide) ⟨.inl ⟨1, _, _, _, _, rfl, rfl, by simp⟩, trivial⟩ ?_
             refine KW.freeze 4 rfl (fun A' S' hnA hSA stA hmA hoA hnS hlow2 => ?_)
             obtain ⟨f1, f2⟩ := fin A' S' _ hSA stA.st hnS
             refine KW.take 3 ?_
             refine KW.app1 (xs := cs) (v := .slice (some ⟨_, 0, some 1⟩) 1 1) 2 3 rfl rfl rfl rfl rfl rfl rfl rfl rfl rfl rfl rfl rfl rfl rfl rfl rfl rfl rfl rfl rfl rfl rfl (by omega) (by show (_ + 1) * 24 ≤ _; omega) (by omega) ?_
             exact KW.nxt rfl rfl (fun H' g => ⟨⟨i + 1, S', A', _, _, _, _⟩, ⟨hq.nextX (o' := 0) f1 f2 hWi (row_ml (xs := [w]) hmA), .inr ⟨by simp only; omega, _, rfl, rfl⟩⟩, by simp only; omega, ⟨rfl, rfl, rfl, rfl, rfl, congrArg (Value.int .i64) (inc64 (by omega)), trivial⟩, g⟩))
          | (refine KW.app0L (v := .int .i64 w) 2 rfl rfl rfl rfl rfl rfl rfl rfl rfl rfl rfl rfl rfl rfl rfl rfl rfl rfl rfl rfl rfl rfl (by decide) ⟨.inl ⟨1, _, _, _, _, rfl, rfl, by simp⟩, trivial⟩ ?_
             refine KW.freeze 3 rfl (fun A' S' hnA hSA stA hmA hoA hnS hlow2 => ?_)
             obtain ⟨f1, f2⟩ := fin A' S' _ hSA stA.st hnS
             refine KW.take 2 ?_
             refine KW.app0 (v := .slice (some ⟨_, 0, some 1⟩) 1 1) 2 rfl rfl rfl rfl rfl rfl rfl rfl rfl rfl rfl rfl rfl rfl rfl rfl rfl rfl rfl rfl rfl rfl (by decide) ?_
             subst hi0
             exact KW.nxt rfl rfl (fun H' g => ⟨⟨1, S', A', _, _, _, _⟩, ⟨hq.nextX (o' := 0) f1 f2 hWi (row_ml (xs := [w]) hmA), .inr ⟨by simp only; omega, _, rfl, rfl⟩⟩, by simp only; omega, ⟨rfl, rfl, rfl, rfl, rfl, rfl, trivial⟩, g⟩))
      · have hSo3 : SC o3 := (inferInstance : On (New _ HC.n) HC SC HC).st o3 hno3 |>.1
        refine KW.thaw o3 _ hSo3 hmo3 ?_
        have t2 : St S1 A1 (fun id => SC id ∧ id ≠ o3) HC := fun id h => ⟨⟨(t1 id h).1, fun e => by have := hlow id h; have := hno3.1; omega⟩, (t1 id h).2⟩
        haveI : On S1 A1 (fun id => SC id ∧ id ≠ o3) HC := ⟨t2⟩
        have hvs2 := hvs1.up (S' := fun id => SC id ∧ id ≠ o3) (H' := HC)
        refine KW.getI hvs2 rfl rfl rfl rfl rfl rfl rfl rfl rfl rfl rfl rfl rfl rfl rfl rfl (by omega) (by omega) (fun w2 hw2 => ?_)
        have hw2 : vals[i]? = some w2 := hw2
        rw [hw] at hw2
        cases hw2
        have fin : ∀ (A' : AH) (S' : Ids) (o9 : Nat), (∀ id, S' id ↔ (SC id ∧ id ≠ o3) ∨ id = o9) → St (fun id => SC id ∧ id ≠ o3) HC S' A' → ¬ (SC o9 ∧ o9 ≠ o3) → St S1 A1 S' A' ∧ (∀ id, id = o9 → S' id ∧ H.n ≤ id ∧ ¬ S1 id) := fun A' S' o9 h1 h2 h3 => by
          refine ⟨t2.trans h2, fun id e => ?_⟩
          subst e
          refine ⟨(h1 _).2 (.inr rfl), ?_, fun h => h3 (t2 _ h).1⟩
          rcases Nat.lt_or_ge id H.n with h | h
          · exact absurd (t2 id (hq.old id h).1).1 h3
          · exact h
        have hyw : (y ++ [w]).length = y.length + 1 := by simp
        have hyc : y.map (Value.int .i64) ++ [.int .i64 w] = (y ++ [w]).map (Value.int .i64) := by simp
        first
          | (refine KW.app1L (xs := y.map (Value.int .i64)) (v := .int .i64 w) 3 4 rfl rfl rfl rfl rfl rfl rfl rfl rfl rfl rfl rfl rfl rfl rfl rfl rfl rfl rfl rfl rfl rfl rfl (by simp) (by show (_ + 1) * 8 ≤ _; omega) (by omega) ⟨.inl ⟨1, _, _, _, _, rfl, rfl, by decide⟩, trivial⟩ ?_
             refine KW.freeze 3 rfl (fun A' S' hnA hSA stA hmA hoA hnS hlow2 => ?_)
             obtain ⟨f1, f2⟩ := fin A' S' _ hSA stA.st hnS
             rw [hyc] at hmA
             rw [← hyw]
             refine KW.app1 (xs := cs) (v := .slice (some ⟨_, 0, some 1⟩) (y ++ [w]).length (y ++ [w]).length) 2 3 rfl rfl rfl rfl rfl rfl rfl rfl rfl rfl rfl rfl rfl rfl rfl rfl rfl rfl rfl rfl rfl rfl rfl (by omega) (by show (_ + 1) * 24 ≤ _; omega) (by omega) ?_
             exact KW.nxt rfl rfl (fun H' g => ⟨⟨i + 1, S', A', _, _, _, _⟩, ⟨hq.nextX (o' := 0) f1 f2 hWi (row_ml hmA), .inr ⟨by simp only; omega, _, rfl, rfl⟩⟩, by simp only; omega, ⟨rfl, rfl, rfl, rfl, rfl, congrArg (Value.int .i64) (inc64 (by omega)), trivial⟩, g⟩))
          | (refine KW.app1L (xs := y.map (Value.int .i64)) (v := .int .i64 w) 2 3 rfl rfl rfl rfl rfl rfl rfl rfl rfl rfl rfl rfl rfl rfl rfl rfl rfl rfl rfl rfl rfl rfl rfl (by simp) (by show (_ + 1) * 8 ≤ _; omega) (by omega) ⟨.inl ⟨1, _, _, _, _, rfl, rfl, by decide⟩, trivial⟩ ?_
             refine KW.freeze 2 rfl (fun A' S' hnA hSA stA hmA hoA hnS hlow2 => ?_)
             obtain ⟨f1, f2⟩ := fin A' S' _ hSA stA.st hnS
             rw [hyc] at hmA
             rw [← hyw]
             refine KW.app0 (v := .slice (some ⟨_, 0, some 1⟩) (y ++ [w]).length (y ++ [w]).length) 2 rfl rfl rfl rfl rfl rfl rfl rfl rfl rfl rfl rfl rfl rfl rfl rfl rfl rfl rfl rfl rfl rfl (by decide) ?_
             subst hi0
             exact KW.nxt rfl rfl (fun H' g => ⟨⟨1, S', A', _, _, _, _⟩, ⟨hq.nextX (o' := 0) f1 f2 hWi (row_ml hmA), .inr ⟨by simp only; omega, _, rfl, rfl⟩⟩, by simp only; omega, ⟨rfl, rfl, rfl, rfl, rfl, rfl, trivial⟩, g⟩))
    case gout =>
      have j1 : ¬ (i : Int) < (L.length : Int) := j1
      have ei : i = (augW L vals).length := by omega
      have hb := hq.b
      simp only at hb
      rw [ei, List.take_of_length_le (Nat.le_refl _), List.map_id'] at hb
      have hBW : B_Int64SS (augW L vals) := rect_sml hWR (by omega) (by omega)
      have sh := ech_shape hf hWR (k + 1)
      have hll := (ech_ok (p := p) (by have := hf.1; omega) hWR (k + 1)).2.1
      generalize hW : augW L vals = W at *
      first
        | (subst ei
           refine KW.callNV1 rfl rfl rfl rfl rfl (fun H1 g _ => echelon (S := Low H1.n) (H0 := H1) (k := k + 1) ⟨hp.1, hp.2.1⟩ (by omega) hBW hWR (hb.slV g (j := 2) rfl)) (fun v HE SE mE _ _ hv => ?_))
        | (have hW0 : W = [] := List.eq_nil_of_length_eq_zero (by omega)
           subst hW0
           refine KW.callNV1 rfl rfl rfl rfl rfl (fun H1 g _ => echelon (S := Low H1.n) (H0 := H1) (k := k + 1) ⟨hp.1, hp.2.1⟩ (by omega) hBW hWR (.inl ⟨rfl, none, 0, rfl, fun _ => rfl⟩)) (fun v HE SE mE _ _ hv => ?_))
      all_goals
        obtain ⟨a3, c3, a4, c4, rfl, hE, hP⟩ := hv
        generalize he : ech p _ (k + 1) = ee at *
        obtain ⟨E, P⟩ := ee
        simp only at hE hP sh hll
        have hPE := sh.le
        have hE20 : E.length ≤ 100 := by first | omega | (simp only [List.length_nil] at hll; omega)
        refine KW.mk1 rfl rfl rfl rfl rfl rfl rfl rfl rfl rfl rfl rfl (k) rfl rfl (by omega) (by show 8 * _ ≤ _; omega) ?_
        first
          | (refine KW.lpM rfl rfl (fun s : Nat × List Value => [(2, .pointer (some ⟨H.n, 0, some 0⟩)), (9, .pointer (some ⟨HE.n, 0, some 3⟩)), (11, .slice (some ⟨HE.n + 1, 0, some 1⟩) k k), (50, .slice a4 P.length c4), (51, .int .i64 P.length), (52, .int .i64 s.1)]) (fun _ => SE) (fun _ => HE) (fun s => [(H.n, ⟨28, true, [.int .i64 p, .int .i64 k, .slice a1 L.length c1]⟩), (H.n + 1, ⟨28, true, [.int .i64 p, .int .i64 (k + 1 : Nat), .slice (some ⟨o, 0, some 1⟩) W.length W.length]⟩), (o, ⟨32, true, cs⟩), (HE.n, ⟨28, true, [.int .i64 p, .int .i64 (k + 1 : Nat), .slice a3 P.length c3]⟩), (HE.n + 1, ⟨_, true, s.2⟩)]) (fun s => s.2.length = k ∧ s.1 ≤ P.length ∧ ∀ j, j < s.1 → ∀ q, P[j]? = some q → q ≠ k) (fun s => P.length - s.1) (0, _) ⟨by simp, by simp, fun j hj => absurd hj (Nat.not_lt_zero _)⟩ ⟨rfl, rfl, rfl, rfl, rfl, rfl, trivial⟩ rfl rfl rfl (fun s hi bE n => ?_))
          | (refine KW.lpM rfl rfl (fun s : Nat × List Value => [(2, .pointer (some ⟨H.n, 0, some 0⟩)), (9, .pointer (some ⟨HE.n, 0, some 2⟩)), (11, .slice (some ⟨HE.n + 1, 0, some 1⟩) k k), (50, .slice a4 P.length c4), (51, .int .i64 P.length), (52, .int .i64 s.1)]) (fun _ => SE) (fun _ => HE) (fun s => [(H.n, ⟨28, true, [.int .i64 p, .int .i64 k, .slice a1 L.length c1]⟩), (H.n + 1, ⟨28, true, [.int .i64 p, .int .i64 (k + 1 : Nat), .slice none 0 0]⟩), (HE.n, ⟨28, true, [.int .i64 p, .int .i64 (k + 1 : Nat), .slice a3 P.length c3]⟩), (HE.n + 1, ⟨_, true, s.2⟩)]) (fun s => s.2.length = k ∧ s.1 ≤ P.length ∧ ∀ j, j < s.1 → ∀ q, P[j]? = some q → q ≠ k) (fun s => P.length - s.1) (0, _) ⟨by simp, by simp, fun j hj => absurd hj (Nat.not_lt_zero _)⟩ ⟨rfl, rfl, rfl, rfl, rfl, rfl, trivial⟩ rfl rfl rfl (fun s hi bE n => ?_))
        obtain ⟨j, cc⟩ := s
        obtain ⟨hcc, hjP, hjn⟩ := hi
        simp only at hcc hjP hjn
        refine KW.cnd rfl rfl (fun j2 => ?gin2) (fun j2 => ?gout2)
        case gin2 =>
          have j2 : (j : Int) < (P.length : Int) := j2
          obtain ⟨q, hq2⟩ : ∃ q, P[j]? = some q := ⟨P[j]'(by omega), List.getElem?_eq_getElem (by omega)⟩
          obtain ⟨r, hr⟩ : ∃ r, E[j]? = some r := ⟨E[j]'(by have := sh.le; omega), List.getElem?_eq_getElem (by have := sh.le; omega)⟩
          have hpv := sh.piv j q r hq2 hr
          have hrl := sh.rect r (List.mem_of_getElem? hr)
          have hmap : (P.map fun (i : Nat) => (i : Int))[j]? = some (q : Int) := by rw [List.getElem?_map, hq2]; rfl
          refine KW.getI hP.ups rfl rfl rfl rfl rfl rfl rfl rfl rfl rfl rfl rfl rfl rfl rfl rfl (by omega) (by simp; omega) (fun x hx => ?_)
          have hx : (P.map fun (i : Nat) => (i : Int))[j]? = some x := hx
          rw [hmap] at hx
          cases hx
          by_cases hqk : q = k
          · have hd : decide (¬ k ∈ P) = false := decide_eq_false (fun hc => hc (hqk ▸ List.mem_of_getElem? hq2))
            refine KW.cT rfl rfl (by simp [hqk]) ?_
            refine KW.retM1 rfl rfl rfl rfl (fun H1 g => ?_)
            rw [hd]
            exact ⟨_, _, _, rfl⟩
          · refine KW.cF rfl rfl (by simp; omega) ?_
            have htk : (E.take P.length)[j]? = some r := by rw [List.getElem?_take, if_pos (by omega)]; exact hr
            refine KW.getL hE.upS rfl rfl rfl rfl rfl rfl rfl rfl rfl rfl rfl rfl rfl rfl rfl rfl (by omega) (by rw [List.length_take]; have := sh.le; omega) (fun y2 ay cy hy2 hsy2 => ?_)
            have hy2 : (E.take P.length)[j]? = some y2 := hy2
            rw [htk] at hy2
            cases hy2
            refine KW.getI hsy2 rfl rfl rfl rfl rfl rfl rfl rfl rfl rfl rfl rfl rfl rfl rfl rfl (by omega) (by omega) (fun z hz => ?_)
            refine KW.idx0 rfl rfl rfl rfl rfl rfl rfl rfl rfl (by omega) (by omega) ?_
            first | (refine KW.st1 4 rfl rfl rfl rfl rfl rfl rfl rfl rfl rfl rfl rfl (by simp only; omega) ?_) | (refine KW.st1 3 rfl rfl rfl rfl rfl rfl rfl rfl rfl rfl rfl rfl (by simp only; omega) ?_)
            exact KW.nxt rfl rfl (fun H' g => ⟨(j + 1, _), ⟨by simp only [List.length_set]; omega, by simp only; omega, upto hjn (fun q' hq' => by rw [hq2] at hq'; cases hq'; exact hqk)⟩, by simp only; omega, ⟨rfl, rfl, rfl, rfl, rfl, congrArg (Value.int .i64) (inc64 (by omega)), trivial⟩, g⟩)
        case gout2 =>
          have hjl : j = P.length := by have j2 : ¬ (j : Int) < (P.length : Int) := j2; omega
          subst hjl
          have hd : decide (¬ k ∈ P) = true := decide_eq_true (fun hm => by obtain ⟨i', hi'⟩ := List.getElem?_of_mem hm; exact hjn i' (List.getElem?_eq_some_iff.1 hi').1 k hi' rfl)
          refine KW.retM1 rfl rfl rfl rfl (fun H1 g => ?_)
          rw [hd]
          exact ⟨_, _, _, rfl⟩
end
end Go.Proofs.Ytmkpfllbmdahkaa.Am
/- Contract: the cases by the secret, of the program. It holds under its own conditions. -/
set_option linter.unusedVariables false
set_option linter.unusedSimpArgs false
set_option maxRecDepth 20000
namespace Go.Proofs.Ytmkpfllbmdahkaa.Am
open Go Go.RowKit Go.Proofs Go.Proofs.Ytmkpfllbmdahkaa.Pl
/-- The rows without the first element; what is left of the shares behind a secret. -/
def blR (L : List (List Int)) : List (List Int) := L.map (List.drop 1)
def restL (p : Int) (L : List (List Int)) (held : List Int) (s : Int) : List Int := List.zipWith (fun r v => (v + (p - s) * r.getD 0 0) % p) L held
theorem restL_len {p s : Int} {L : List (List Int)} {held : List Int} (h : held.length = L.length) : (restL p L held s).length = L.length := by simp [restL, h]
theorem restL_at {p s : Int} {L : List (List Int)} {held : List Int} {i : Nat} {r : List Int} {v : Int} (h : L[i]? = some r) (h' : held[i]? = some v) : (restL p L held s)[i]? = some ((v + (p - s) * r.getD 0 0) % p) := by simp [restL, List.getElem?_zipWith, h, h']
theorem restL_in {p s : Int} {L : List (List Int)} {held : List Int} (hp : 0 < p) : ∀ v ∈ restL p L held s, 0 ≤ v ∧ v < p := fun v hv => by
  obtain ⟨i, hi⟩ := List.getElem?_of_mem hv
  simp only [restL, List.getElem?_zipWith] at hi
  split at hi
  · simp only [Option.some.injEq] at hi
    subst hi
    exact ⟨Int.emod_nonneg _ (by omega), Int.emod_lt_of_pos _ hp⟩
  · cases hi
theorem blR_rect {p : Int} {k : Nat} {L : List (List Int)} (h : Rect p (k + 1) L) : Rect p k (blR L) := fun r hr => by
  obtain ⟨w, hw, rfl⟩ := List.mem_map.1 hr
  have h1 := h w hw
  exact ⟨by rw [List.length_drop]; omega, fun x hx => h1.2 x (List.mem_of_mem_drop hx)⟩
theorem blR_len {L : List (List Int)} : (blR L).length = L.length := by simp [blR]
/-- How many cases there are for secret s. -/
def csAt (p : Int) (k : Nat) (L : List (List Int)) (held : List Int) (s : Nat) : Int := if decide (k ∉ (ech p (augW (blR L) (restL p L held s)) (k + 1)).2) = true then tmN p (k - (ech p (blR L) k).2.length) else 0
def csL (p : Int) (k : Nat) (L : List (List Int)) (held : List Int) (n : Nat) : List Int := (List.range n).map (csAt p k L held)
theorem csL_len {p : Int} {k n : Nat} {L : List (List Int)} {held : List Int} : (csL p k L held n).length = n := by simp [csL]
theorem csL_next {p : Int} {k n : Nat} {L : List (List Int)} {held : List Int} : csL p k L held (n + 1) = csL p k L held n ++ [csAt p k L held n] := by simp [csL, List.range_succ]
noncomputable def r1_CasesBySecret (x : T_Scheme) (g held : List Int) : Int := if codeH x g held = 0 then (if 20000 < x.2.2.1 ^ x.2.2.2.1.toNat then 3 else 0) else codeH x g held
noncomputable def r0_CasesBySecret (x : T_Scheme) (g held : List Int) : List Int := if r1_CasesBySecret x g held = 0 then csL x.2.2.1 (x.2.2.2.1.toNat - 1) (heldR x.2.1 x.2.2.2.2 (bitsOf g)) held x.2.2.1.toNat else []
theorem Wr.all {xs ys : List Int} {n : Nat} {cs : List Value} (h : Wr xs ys n n cs) (hl : ys.length = n) : cs = ys.map (Value.int .i64) := by
  refine List.ext_getElem? fun i => ?_
  rcases Nat.lt_or_ge i n with hi | hi
  · rw [List.getElem?_map, List.getElem?_eq_getElem (show i < ys.length by omega), h.done i _ hi (List.getElem?_eq_getElem (by omega))]
    rfl
  · rw [List.getElem?_eq_none (by rw [h.len]; omega), List.getElem?_eq_none (by rw [List.length_map]; omega)]
/-- A list in a variable whose cells lead to rows. -/
theorem Good.rowsV {S0 : Ids} {H0 H1 : AH} {T : List Var} {n j o : Nat} {ty : TypeId} {cs : List Value} {xs : List (List Int)} (g : Good S0 H0 T n H1) (hT : T[j]? = some (o, ⟨ty, true, cs⟩)) (hl : cs.length = xs.length) (h : ∀ (i : Nat) x, xs[i]? = some x → ∃ v, cs[i]? = some v ∧ KI.Sl (Low H1.n) H1 v x) : KI.sl.Sl (Low H1.n) H1 (.slice (some ⟨o, 0, some 1⟩) xs.length xs.length) xs :=
  .inr ⟨o, 0, xs.length, _, rfl, Nat.le_refl _, (g.blk hT).2, (g.blk hT).1, by show 0 + xs.length * 1 ≤ cs.length; omega, fun i x hx => by
    obtain ⟨v, h1, h2⟩ := h i x hx
    have e : ((cs.drop (0 + i * 1)).take 1) = [v] := by rw [Nat.zero_add, Nat.mul_one, List.take_one, List.head?_drop, h1]; rfl
    show KI.sl.R (Low H1.n) H1 x ((cs.drop (0 + i * 1)).take 1)
    rw [e]
    exact sl1' h2⟩
structure BlS where
  i : Nat
  l : Value
  tail : List Var
  cs : List Value
structure BlI (L : List (List Int)) (S : Ids) (A : AH) (s : BlS) : Prop where
  le : s.i ≤ L.length
  len : s.cs.length = s.i
  row : ∀ (j : Nat) r, j < s.i → L[j]? = some r → ∃ v, s.cs[j]? = some v ∧ KI.Sl S A v (r.drop 1)
  form : (s.i = 0 ∧ s.l = .slice none 0 0 ∧ s.tail = []) ∨ (0 < s.i ∧ ∃ o, s.l = .slice (some ⟨o, 0, some 1⟩) s.i s.i ∧ s.tail = [(o, ⟨32, true, s.cs⟩)])
section
variable {S : Ids} {H0 : AH}
theorem impl_CasesBySecret {x : T_Scheme} {g held : List Int} {cs : List Value} {a3 c3 a4 c4} (hB : B_Scheme x) (hG : B_Int64S g) (hH : B_Int64S held) (h : K_Scheme.R S H0 x cs) (kg : K_Int64S.R S H0 g [.slice a3 g.length c3]) (kh : K_Int64S.R S H0 held [.slice a4 held.length c4]) :
    SpecM Try.prog S H0 31 [.agg cs.toArray, .slice a3 g.length c3, .slice a4 held.length c4] (MkLC (r0_CasesBySecret x g held) (r1_CasesBySecret x g held)) := by
  obtain ⟨a1, c1, a2, c2, rfl, s1, s2⟩ := split2_Scheme h
  have s3 := sl1 kg
  have s4 := sl1 kh
  obtain ⟨h', ow, p, c, rows⟩ := x
  simp only at s1 s2 ⊢
  have hO : B_Int64S ow := hB.2.1
  have hBr : B_Int64SS rows := hB.2.2.2.2
  have hG' : g.length ≤ 1048576 := hG
  have hH' : held.length ≤ 1048576 := hH
  refine SpecM.of1 Try.func31 rfl (by kernel_rfl) rfl (fun H _ => ?_)
  refine KW.callE rfl rfl rfl rfl rfl (Am.heldCode (h', ow, p, c, rows) g held hB hG hH s1.up s2.up s3.up s4.up) (fun n8 m8 => ?_)
  by_cases hc : codeH (h', ow, p, c, rows) g held = 0
  · obtain ⟨hk, hg, hhl, hhe⟩ := codeH_ok hc
    have hk : OkSch h' ow p c rows := hk
    simp only at hg hhl hhe
    refine KW.cF rfl rfl (by simp [hc]) ?_
    obtain ⟨q, hq⟩ : ∃ q : Nat, h' = q := ⟨h'.toNat, by have := hk.h1; omega⟩
    have hq7 := hk.h7
    rw [hq] at hg
    have hgs := rises_small hg
    have hbt : bitsOf g < 256 := Nat.lt_of_lt_of_le (bitsOf_lt (m := q) (fun x hx => by have := hgs x hx; omega)) (Nat.pow_le_pow_right (by decide) (show q ≤ 8 by omega))
    obtain ⟨k, rfl⟩ : ∃ k : Nat, c = ((k + 1 : Nat) : Int) := ⟨c.toNat - 1, by have := hk.c1; omega⟩
    have hpr := hk.mat.pr
    have hp2 := hpr.1
    have hp31 := hpr.2.1
    have hk12 := hk.mat.c1
    refine KW.callE rfl rfl rfl rfl rfl (crowdOf (m := q) (by omega) (by omega) hgs s3.up) (fun _ _ => ?_)
    refine KW.callN1 rfl rfl rfl rfl rfl (Am.held h' p ((k + 1 : Nat) : Int) (bitsOf g) (by omega) hO hBr hk s1.up s2.up) (fun v HM SM mM _ _ hv => ?_)
    obtain ⟨am, cm, rfl, hM⟩ := hv
    have hM := hM.up (S' := SM) (H' := HM)
    have hLr : Rect p (k + 1) (heldR ow rows (bitsOf g)) := held_rect hk rfl
    have hLl : (heldR ow rows (bitsOf g)).length ≤ 20 := held_len hk
    have hhL : held.length = (heldR ow rows (bitsOf g)).length := by rw [hhl]; unfold heldR rowsG; rw [selR_len]
    refine KW.callE rfl rfl rfl rfl rfl (times p (k + 1) ⟨hp2, hp31⟩ (by omega)) (fun n9 m9 => ?_)
    by_cases hbig : 20000 < p ^ (k + 1)
    · have e1 : r1_CasesBySecret (h', ow, p, ((k + 1 : Nat) : Int), rows) g held = 3 := by
        unfold r1_CasesBySecret
        rw [if_pos hc]
        simp only [Int.toNat_natCast]
        rw [if_pos hbig]
      have e0 : r0_CasesBySecret (h', ow, p, ((k + 1 : Nat) : Int), rows) g held = [] := by unfold r0_CasesBySecret; rw [e1]; rfl
      rw [e0, e1]
      have := tmN_gt ⟨hp2, hp31⟩ (k + 1) hbig
      refine KW.yes rfl rfl (by omega) ?_
      refine KW.retM1 rfl rfl rfl rfl (fun H1 g => MkLC.nil rfl)
    · have e1 : r1_CasesBySecret (h', ow, p, ((k + 1 : Nat) : Int), rows) g held = 0 := by
        unfold r1_CasesBySecret
        rw [if_pos hc]
        simp only [Int.toNat_natCast]
        rw [if_neg hbig]
      have e0 : r0_CasesBySecret (h', ow, p, ((k + 1 : Nat) : Int), rows) g held = csL p k (heldR ow rows (bitsOf g)) held p.toNat := by
        unfold r0_CasesBySecret
        rw [if_pos e1]
        simp only [Int.toNat_natCast, Nat.add_sub_cancel]
      rw [e0, e1]
      have htm := tmN_le ⟨hp2, hp31⟩ (k + 1) (by omega)
      generalize hLd : heldR ow rows (bitsOf g) = L at *
      refine KW.no rfl rfl (by omega) ?_
      have ek : IntKind.i64.wrap (((k + 1 : Nat) : Int) - 1) = (k : Int) := by rw [wr (by omega) (by omega)]; omega
      refine KW.build rfl rfl rfl rfl rfl (built_MatrixW _ ek) ?_
      refine KW.lpM rfl rfl (fun s : BlS => [(2, .slice a4 held.length c4), (9, .pointer (some ⟨HM.n, 0, some 1⟩)), (10, .pointer (some ⟨n9, 0, some 2⟩)), (45, .slice am L.length cm), (46, .int .i64 L.length), (47, .int .i64 s.i)]) (fun s => SM) (fun s => HM) (fun s => [(H.n, ⟨41, true, [.int .i64 h', .slice a1 ow.length c1, .int .i64 p, .int .i64 (k + 1 : Nat), .slice a2 rows.length c2]⟩), (HM.n, ⟨28, true, [.int .i64 p, .int .i64 (k + 1 : Nat), .slice am L.length cm]⟩), (n9, ⟨28, true, [.int .i64 p, .int .i64 k, s.l]⟩)] ++ s.tail) (fun s => BlI L SM HM s) (fun s => L.length - s.i) (⟨0, .slice none 0 0, [], []⟩) (⟨by simp, rfl, fun j r hj => absurd hj (Nat.not_lt_zero _), .inl ⟨rfl, rfl, rfl⟩⟩) ⟨rfl, rfl, rfl, rfl, rfl, rfl, trivial⟩ rfl rfl rfl (fun s hi bE n => ?_)
      obtain ⟨i, l, tail, cs⟩ := s
      obtain ⟨hle, hlen, hrow, hform⟩ := hi
      simp only at hle hlen hrow hform
      rcases hform with ⟨hi0, e2, e3⟩ | ⟨hi0, o, e2, e3⟩
      case' inl => subst e2 e3
      case' inr => subst e2 e3
      all_goals
        refine KW.cnd rfl rfl (fun j1 => ?_) (fun j1 => ?_)
        · have j1 : (i : Int) < (L.length : Int) := j1
          refine KW.getL hM rfl rfl rfl rfl rfl rfl rfl rfl rfl rfl rfl rfl rfl rfl rfl rfl (by omega) (j1) (fun y ay cy hy hsy => ?_)
          have hy : L[i]? = some y := hy
          have hym := hLr y (List.mem_of_getElem? hy)
          refine KW.slFrom (m := 1) hsy (by omega) (by omega) rfl rfl rfl rfl rfl rfl rfl rfl rfl (fun a' c' hs' => ?_)
          have hnext : ∀ (j : Nat) r, j < i + 1 → L[j]? = some r → ∃ v, (cs ++ [.slice a' (y.drop 1).length c'])[j]? = some v ∧ KI.Sl SM HM v (r.drop 1) := fun j r hj hr => by
            rcases Nat.lt_or_ge j i with h | h
            · obtain ⟨v, h1, h2⟩ := hrow j r h hr
              exact ⟨v, by rw [List.getElem?_append_left (by omega)]; exact h1, h2⟩
            · obtain rfl : j = i := by omega
              rw [hy] at hr
              cases hr
              exact ⟨_, by rw [← hlen]; simp, hs'⟩
          first
            | (refine KW.app1 (xs := cs) (v := .slice a' (y.drop 1).length c') 3 4 rfl rfl rfl rfl rfl rfl rfl rfl rfl rfl rfl rfl rfl rfl rfl rfl rfl rfl rfl rfl rfl rfl rfl (by omega) (by show (_ + 1) * 24 ≤ _; omega) (by omega) ?_
               exact KW.nxt rfl rfl (fun H' g => ⟨⟨i + 1, _, _, _⟩, ⟨by simp only; omega, by simp [hlen], hnext, .inr ⟨by simp only; omega, _, rfl, rfl⟩⟩, by simp only; omega, ⟨rfl, rfl, rfl, rfl, rfl, congrArg (Value.int .i64) (inc64 (by omega)), trivial⟩, g⟩))
            | (refine KW.app0 (v := .slice a' (y.drop 1).length c') 3 rfl rfl rfl rfl rfl rfl rfl rfl rfl rfl rfl rfl rfl rfl rfl rfl rfl rfl rfl rfl rfl rfl (by decide) ?_
               subst hi0
               have hcs0 : cs = [] := List.eq_nil_of_length_eq_zero hlen
               subst hcs0
               exact KW.nxt rfl rfl (fun H' g => ⟨⟨1, _, _, [_]⟩, ⟨by simp only; omega, rfl, hnext, .inr ⟨by simp only; omega, _, rfl, rfl⟩⟩, by simp only; omega, ⟨rfl, rfl, rfl, rfl, rfl, rfl, trivial⟩, g⟩))
      · have j1 : ¬ (i : Int) < (L.length : Int) := j1
        have hBR := blR_rect hLr
        have hBl : (blR L).length = L.length := blR_len
        have hBB : B_Int64SS (blR L) := rect_sml hBR (by omega) (by omega)
        have hei : i = (blR L).length := by omega
        have hrowB : ∀ (j : Nat) r, (blR L)[j]? = some r → ∃ v, cs[j]? = some v ∧ KI.Sl SM HM v r := fun j r hr => by
          simp only [blR, List.getElem?_map, Option.map_eq_some_iff] at hr
          obtain ⟨w, hw, rfl⟩ := hr
          exact hrow j w (by have := (List.getElem?_eq_some_iff.1 hw).1; omega) hw
        have hrkle := ech_piv p (blR L) k
        have hrk : IntKind.i64.wrap ((k : Int) - rkM p k (blR L)) = ((k - (ech p (blR L) k).2.length : Nat) : Int) := by
          have : rkM p k (blR L) = ((ech p (blR L) k).2.length : Nat) := rfl
          rw [this, wr (by omega) (by omega)]
          omega
        have hpn : ((p.toNat : Nat) : Int) = p := by omega
        subst hei
        refine KW.callNV1 rfl rfl rfl rfl rfl (fun H1 g t => rankM (S := Low H1.n) (H0 := H1) (k := k) ⟨hp2, hp31⟩ (by omega) hBB hBR (g.rowsV (j := 3) rfl hlen (fun j r hr => by obtain ⟨v, h1, h2⟩ := hrowB j r hr; exact ⟨v, h1, (haveI := t; h2.up)⟩))) (fun v HR SR mR _ _ hv => ?_)
        subst hv
        refine KW.callE rfl rfl rfl rfl rfl ((by show Spec _ _ _ _ [.int .i64 p, .int .i64 (IntKind.i64.wrap _), .int .i64 20000] _; rw [hrk]; exact times p (k - _) ⟨hp2, hp31⟩ (by omega))) (fun n7 m7 => ?_)
        have hMR := hM.up (S' := SR) (H' := HR)
        have hRB : ∀ (j : Nat) r, (blR L)[j]? = some r → ∃ v, cs[j]? = some v ∧ KI.Sl SR HR v r := fun j r hr => by obtain ⟨v, h1, h2⟩ := hrowB j r hr; exact ⟨v, h1, h2.up⟩
        have hheld := s4.up (S' := SR) (H' := HR)
        refine KW.lit rfl rfl rfl rfl rfl rfl rfl rfl rfl rfl [] rfl rfl (fun v hv => by simp at hv) rfl ?_
        refine KW.lpM rfl rfl (fun s : Nat × Nat => [(2, .slice a4 held.length c4), (9, .pointer (some ⟨HM.n, 0, some 1⟩)), (10, .pointer (some ⟨n9, 0, some 2⟩)), (13, .int .i64 (tmN p (k - (ech p (blR L) k).2.length))), (14, .slice (some ⟨s.2, 0, some 1⟩) (csL p k L held s.1).length (csL p k L held s.1).length), (69, .int .i64 p), (70, .int .i64 s.1)]) (fun _ => SR) (fun _ => HR) (fun s => [(H.n, ⟨41, true, [.int .i64 h', .slice a1 ow.length c1, .int .i64 p, .int .i64 (k + 1 : Nat), .slice a2 rows.length c2]⟩), (HM.n, ⟨28, true, [.int .i64 p, .int .i64 (k + 1 : Nat), .slice am L.length cm]⟩), (n9, ⟨28, true, [.int .i64 p, .int .i64 k, .slice (some ⟨o, 0, some 1⟩) (blR L).length (blR L).length]⟩), (o, ⟨32, true, cs⟩), (s.2, ⟨_, true, (csL p k L held s.1).map (Value.int .i64)⟩)]) (fun s => s.1 ≤ p.toNat) (fun s => p.toNat - s.1) (0, _) (by simp) ⟨rfl, rfl, rfl, rfl, rfl, rfl, rfl, trivial⟩ rfl rfl rfl (fun s hi bE n => ?_)
        obtain ⟨sc, oo⟩ := s
        simp only at hi
        have hol : (csL p k L held sc).length = sc := csL_len
        have onx := csL_next (p := p) (k := k) (n := sc) (L := L) (held := held)
        refine KW.cnd rfl rfl (fun j3 => ?_) (fun j3 => ?_)
        · have j3 : (sc : Int) < p := j3
          refine KW.ids (fun hlow hvar => ?_)
          refine KW.callN1 rfl rfl rfl rfl rfl (cloneB hH' hheld) (fun v HC SC mC _ _ hv => ?_)
          obtain hv := hv
          have t1 := (inferInstance : Stp SR HR SC HC).st
          rcases hv with ⟨hy0, rfl⟩ | ⟨o3, rfl, hno3, hmo3⟩
          · subst hy0
            exfalso
            simp at hhL
            omega
          · have hSo3 : SC o3 := (inferInstance : On (New _ HC.n) HC SC HC).st o3 hno3 |>.1
            refine KW.thaw o3 _ hSo3 hmo3 ?_
            have t2 : St SR HR (fun id => SC id ∧ id ≠ o3) HC := fun id h => ⟨⟨(t1 id h).1, fun e => by have := hlow id h; have := hno3.1; omega⟩, (t1 id h).2⟩
            haveI t2i : On SR HR (fun id => SC id ∧ id ≠ o3) HC := ⟨t2⟩
            have hM2 := hMR.up (S' := (fun id => SC id ∧ id ≠ o3)) (H' := HC)
            refine KW.lpM rfl rfl (fun u : Nat × List Value => [(2, .slice a4 held.length c4), (9, .pointer (some ⟨HM.n, 0, some 1⟩)), (10, .pointer (some ⟨n9, 0, some 2⟩)), (13, .int .i64 (tmN p (k - (ech p (blR L) k).2.length))), (14, .slice (some ⟨oo, 0, some 1⟩) (csL p k L held sc).length (csL p k L held sc).length), (15, .int .i64 sc), (16, .slice (some ⟨o3, 0, some 1⟩) held.length held.length), (69, .int .i64 p), (70, .int .i64 sc), (76, .slice am L.length cm), (77, .int .i64 L.length), (78, .int .i64 u.1)]) (fun _ => (fun id => SC id ∧ id ≠ o3)) (fun _ => HC) (fun u => [(H.n, ⟨41, true, [.int .i64 h', .slice a1 ow.length c1, .int .i64 p, .int .i64 (k + 1 : Nat), .slice a2 rows.length c2]⟩), (HM.n, ⟨28, true, [.int .i64 p, .int .i64 (k + 1 : Nat), .slice am L.length cm]⟩), (n9, ⟨28, true, [.int .i64 p, .int .i64 k, .slice (some ⟨o, 0, some 1⟩) (blR L).length (blR L).length]⟩), (o, ⟨32, true, cs⟩), (oo, ⟨_, true, (csL p k L held sc).map (Value.int .i64)⟩), (o3, ⟨2, true, u.2⟩)]) (fun u => u.1 ≤ L.length ∧ Wr held (restL p L held sc) held.length u.1 u.2) (fun u => L.length - u.1) (0, held.map (Value.int .i64)) ⟨by omega, by simp, fun j y hj => absurd hj (Nat.not_lt_zero _), fun j x _ hx => by rw [List.getElem?_map, hx]; rfl⟩ ⟨rfl, rfl, rfl, rfl, rfl, rfl, rfl, rfl, rfl, rfl, rfl, rfl, trivial⟩ rfl rfl rfl (fun u hu bE n => ?_)
            obtain ⟨i3, cc⟩ := u
            obtain ⟨hi3, hw3⟩ := hu
            simp only at hi3 hw3
            have hcl := hw3.len
            refine KW.cnd rfl rfl (fun j4 => ?_) (fun j4 => ?_)
            · have j4 : (i3 : Int) < (L.length : Int) := j4
              refine KW.getL hM2 rfl rfl rfl rfl rfl rfl rfl rfl rfl rfl rfl rfl rfl rfl rfl rfl (by omega) (j4) (fun y ay cy hy hsy => ?_)
              have hy : L[i3]? = some y := hy
              have hym := hLr y (List.mem_of_getElem? hy)
              obtain ⟨w, hw⟩ : ∃ w, held[i3]? = some w := ⟨held[i3]'(by omega), List.getElem?_eq_getElem (by omega)⟩
              have hwb := hhe w (List.mem_of_getElem? hw)
              refine KW.idx0 rfl rfl rfl rfl rfl rfl rfl rfl rfl (by omega) (by omega) ?_
              refine KW.ldT 5 rfl rfl rfl rfl rfl rfl (bload_at (by rw [Nat.zero_add, Nat.mul_one]; exact hw3.rest i3 w (Nat.le_refl _) hw) rfl rfl) ?_
              refine KW.getI hsy rfl rfl rfl rfl rfl rfl rfl rfl rfl rfl rfl rfl rfl rfl rfl rfl (by omega) (by omega) (fun z hz => ?_)
              have hz : y[0]? = some z := hz
              have hzd : y.getD 0 0 = z := getD_of hz
              have hzb := hym.2 z (List.mem_of_getElem? hz)
              have hm := mul_in (x := p - sc) (y := z) (by omega) (by omega)
              have ev1 : IntKind.i64.wrap (w + IntKind.i64.wrap (IntKind.i64.wrap (p - sc) * z)) = w + (p - sc) * z := by rw [wr (x := p - sc) (by omega) (by omega), wr (x := (p - sc) * z) (by omega) (by omega), wr (by omega) (by omega)]
              refine KW.rem rfl rfl rfl rfl rfl rfl (by rw [ev1]; omega) (by omega) ?_
              refine KW.idx0 rfl rfl rfl rfl rfl rfl rfl rfl rfl (by omega) (by omega) ?_
              refine KW.st1 5 rfl rfl rfl rfl rfl rfl rfl rfl rfl rfl rfl rfl (by simp only; omega) ?_
              exact KW.nxt rfl rfl (fun H' g => ⟨(i3 + 1, _), ⟨by simp only; omega, hw3.next (by omega) (restL_at hy hw) (by rw [ev1, hzd]; rfl)⟩, by simp only; omega, ⟨rfl, rfl, rfl, rfl, rfl, rfl, rfl, rfl, rfl, rfl, rfl, congrArg (Value.int .i64) (inc64 (by omega)), trivial⟩, g⟩)
            · have hi4 : i3 = held.length := by have j4 : ¬ (i3 : Int) < (L.length : Int) := j4; omega
              subst hi4
              have hrl := restL_len (p := p) (s := sc) hhL
              have hcc := hw3.all (by omega)
              subst hcc
              have hri := restL_in (p := p) (s := sc) (L := L) (held := held) (by omega)
              have hrh : held.length = (restL p L held sc).length := by omega
              refine KW.callNV1 rfl rfl rfl rfl rfl (fun H1 g t => by
                have hrs := g.ints (j := 5) (xs := restL p L held sc) (c := held.length) rfl rfl (by omega)
                rw [← hrh] at hrs
                have hbs := g.rowsV (j := 3) rfl hlen (fun j r hr => by obtain ⟨v, h1, h2⟩ := hRB j r hr; exact ⟨v, h1, (haveI := t; h2.up)⟩)
                have hsol := solve (S := Low H1.n) (H0 := H1) (k := k) (vals := restL p L held sc) (a2 := some ⟨o3, 0, some 1⟩) (c2 := held.length) hpr (by omega) (by omega) hBR (by omega) hri hbs (by rw [← hrh]; exact hrs)
                rw [← hrh] at hsol
                exact hsol) (fun v HS SS mS _ _ hv => ?_)
              obtain ⟨a9, ns, cs2, rfl⟩ := hv
              have hat : csAt p k L held sc = if decide (k ∉ (ech p (augW (blR L) (restL p L held sc)) (k + 1)).2) = true then tmN p (k - (ech p (blR L) k).2.length) else 0 := rfl
              refine KW.cndB rfl rfl (fun b => ?_) (fun b => ?_)
              · have hvv : csAt p k L held sc = tmN p (k - (ech p (blR L) k).2.length) := hat.trans (if_pos b)
                refine KW.take 5 ?_
                refine KW.app1 (xs := (csL p k L held sc).map (Value.int .i64)) (v := .int .i64 (tmN p (k - (ech p (blR L) k).2.length))) 4 5 rfl rfl rfl rfl rfl rfl rfl rfl rfl rfl rfl rfl rfl rfl rfl rfl rfl rfl rfl rfl rfl rfl rfl (by simp) (by show (_ + 1) * 8 ≤ _; first | omega | (simp only; omega)) (by first | omega | (simp only; omega)) ?_
                exact KW.nxt rfl rfl (fun H' g => ⟨(sc + 1, _), by first | omega | (simp only; omega), by first | omega | (simp only; omega), ⟨rfl, rfl, rfl, rfl, by simp only [onx, List.length_append, List.length_singleton]; rfl, rfl, congrArg (Value.int .i64) (inc64 (by omega)), trivial⟩, (g.weak (fun id hid => ⟨((inferInstance : Stp _ _ SS HS).st id (t2i.st id hid).1).1, by rw [((inferInstance : Stp _ _ SS HS).st id (t2i.st id hid).1).2, (t2i.st id hid).2]⟩)).eqT (by simp only [onx, hvv, List.map_append]; rfl)⟩)
              · have hvv : csAt p k L held sc = 0 := hat.trans (if_neg (fun h => Bool.noConfusion (h.symm.trans b)))
                refine KW.take 5 ?_
                refine KW.app1 (xs := (csL p k L held sc).map (Value.int .i64)) (v := .int .i64 0) 4 5 rfl rfl rfl rfl rfl rfl rfl rfl rfl rfl rfl rfl rfl rfl rfl rfl rfl rfl rfl rfl rfl rfl rfl (by simp) (by show (_ + 1) * 8 ≤ _; first | omega | (simp only; omega)) (by first | omega | (simp only; omega)) ?_
                exact KW.nxt rfl rfl (fun H' g => ⟨(sc + 1, _), by first | omega | (simp only; omega), by first | omega | (simp only; omega), ⟨rfl, rfl, rfl, rfl, by simp only [onx, List.length_append, List.length_singleton]; rfl, rfl, congrArg (Value.int .i64) (inc64 (by omega)), trivial⟩, (g.weak (fun id hid => ⟨((inferInstance : Stp _ _ SS HS).st id (t2i.st id hid).1).1, by rw [((inferInstance : Stp _ _ SS HS).st id (t2i.st id hid).1).2, (t2i.st id hid).2]⟩)).eqT (by simp only [onx, hvv, List.map_append]; rfl)⟩)
        · have hsn : sc = p.toNat := by have j3 : ¬ (sc : Int) < p := j3; omega
          subst hsn
          refine KW.retM1 rfl rfl rfl rfl (fun H1 g => ⟨_, _, rfl, ml1' (int_ml ⟨g.ge (H1 := H) (j := 4) rfl, (g.blk (j := 4) rfl).2⟩ (g.blk (j := 4) rfl).1 rfl rfl (Nat.le_refl _))⟩)
      · have j1 : ¬ (i : Int) < (L.length : Int) := j1
        have hBR := blR_rect hLr
        have hBl : (blR L).length = L.length := blR_len
        have hBB : B_Int64SS (blR L) := rect_sml hBR (by omega) (by omega)
        have hei : i = (blR L).length := by omega
        have hrowB : ∀ (j : Nat) r, (blR L)[j]? = some r → ∃ v, cs[j]? = some v ∧ KI.Sl SM HM v r := fun j r hr => by
          simp only [blR, List.getElem?_map, Option.map_eq_some_iff] at hr
          obtain ⟨w, hw, rfl⟩ := hr
          exact hrow j w (by have := (List.getElem?_eq_some_iff.1 hw).1; omega) hw
        have hrkle := ech_piv p (blR L) k
        have hrk : IntKind.i64.wrap ((k : Int) - rkM p k (blR L)) = ((k - (ech p (blR L) k).2.length : Nat) : Int) := by
          have : rkM p k (blR L) = ((ech p (blR L) k).2.length : Nat) := rfl
          rw [this, wr (by omega) (by omega)]
          omega
        have hpn : ((p.toNat : Nat) : Int) = p := by omega
        have hL0 : L = [] := List.eq_nil_of_length_eq_zero (by omega)
        have hcs0 : cs = [] := List.eq_nil_of_length_eq_zero (by omega)
        subst hL0
        subst hcs0
        have hH0 : held = [] := List.eq_nil_of_length_eq_zero (by simpa using hhL)
        refine KW.callNV1 rfl rfl rfl rfl rfl (fun H1 g t => rankM (S := Low H1.n) (H0 := H1) (k := k) ⟨hp2, hp31⟩ (by omega) hBB hBR (.inl ⟨rfl, none, 0, rfl, fun _ => rfl⟩)) (fun v HR SR mR _ _ hv => ?_)
        subst hv
        refine KW.callE rfl rfl rfl rfl rfl ((by show Spec _ _ _ _ [.int .i64 p, .int .i64 (IntKind.i64.wrap _), .int .i64 20000] _; rw [hrk]; exact times p (k - _) ⟨hp2, hp31⟩ (by omega))) (fun n7 m7 => ?_)
        have hMR := hM.up (S' := SR) (H' := HR)
        have hheld := s4.up (S' := SR) (H' := HR)
        refine KW.lit rfl rfl rfl rfl rfl rfl rfl rfl rfl rfl [] rfl rfl (fun v hv => by simp at hv) rfl ?_
        refine KW.lpM rfl rfl (fun s : Nat × Nat => [(2, .slice a4 held.length c4), (9, .pointer (some ⟨HM.n, 0, some 1⟩)), (10, .pointer (some ⟨n9, 0, some 2⟩)), (13, .int .i64 (tmN p (k - (ech p (blR ([] : List (List Int))) k).2.length))), (14, .slice (some ⟨s.2, 0, some 1⟩) (csL p k [] held s.1).length (csL p k [] held s.1).length), (69, .int .i64 p), (70, .int .i64 s.1)]) (fun _ => SR) (fun _ => HR) (fun s => [(H.n, ⟨41, true, [.int .i64 h', .slice a1 ow.length c1, .int .i64 p, .int .i64 (k + 1 : Nat), .slice a2 rows.length c2]⟩), (HM.n, ⟨28, true, [.int .i64 p, .int .i64 (k + 1 : Nat), .slice am ([] : List (List Int)).length cm]⟩), (n9, ⟨28, true, [.int .i64 p, .int .i64 k, .slice none 0 0]⟩), (s.2, ⟨_, true, (csL p k [] held s.1).map (Value.int .i64)⟩)]) (fun s => s.1 ≤ p.toNat) (fun s => p.toNat - s.1) (0, _) (by simp) ⟨rfl, rfl, rfl, rfl, rfl, rfl, rfl, trivial⟩ rfl rfl rfl (fun s hi bE n => ?_)
        obtain ⟨sc, oo⟩ := s
        simp only at hi
        have hol : (csL p k [] held sc).length = sc := csL_len
        have onx := csL_next (p := p) (k := k) (n := sc) (L := []) (held := held)
        refine KW.cnd rfl rfl (fun j3 => ?_) (fun j3 => ?_)
        · have j3 : (sc : Int) < p := j3
          refine KW.ids (fun hlow hvar => ?_)
          refine KW.callN1 rfl rfl rfl rfl rfl (cloneB hH' hheld) (fun v HC SC mC _ _ hv => ?_)
          obtain hv := hv
          have t1 := (inferInstance : Stp SR HR SC HC).st
          rcases hv with ⟨hy0, rfl⟩ | ⟨o3, rfl, hno3, hmo3⟩
          · haveI t2i : On SR HR SC HC := ⟨t1⟩
            have hM2 := hMR.up (S' := SC) (H' := HC)
            refine KW.lpM rfl rfl (fun u : Nat × List Value => [(2, .slice a4 held.length c4), (9, .pointer (some ⟨HM.n, 0, some 1⟩)), (10, .pointer (some ⟨n9, 0, some 2⟩)), (13, .int .i64 (tmN p (k - (ech p (blR ([] : List (List Int))) k).2.length))), (14, .slice (some ⟨oo, 0, some 1⟩) (csL p k [] held sc).length (csL p k [] held sc).length), (15, .int .i64 sc), (16, .slice none 0 0), (69, .int .i64 p), (70, .int .i64 sc), (76, .slice am ([] : List (List Int)).length cm), (77, .int .i64 ([] : List (List Int)).length), (78, .int .i64 u.1)]) (fun _ => SC) (fun _ => HC) (fun u => [(H.n, ⟨41, true, [.int .i64 h', .slice a1 ow.length c1, .int .i64 p, .int .i64 (k + 1 : Nat), .slice a2 rows.length c2]⟩), (HM.n, ⟨28, true, [.int .i64 p, .int .i64 (k + 1 : Nat), .slice am ([] : List (List Int)).length cm]⟩), (n9, ⟨28, true, [.int .i64 p, .int .i64 k, .slice none 0 0]⟩), (oo, ⟨_, true, (csL p k [] held sc).map (Value.int .i64)⟩)]) (fun u => u.1 = 0 ∧ u.2 = []) (fun u => 0) (0, []) ⟨rfl, rfl⟩ ⟨rfl, rfl, rfl, rfl, rfl, rfl, rfl, rfl, rfl, rfl, rfl, rfl, trivial⟩ rfl rfl rfl (fun u hu bE n => ?_)
            obtain ⟨i3, cc⟩ := u
            obtain ⟨hi3, hw3⟩ := hu
            simp only at hi3 hw3
            subst hi3
            subst hw3
            refine KW.cF rfl rfl (by first | (simp; done) | decide) ?_
            refine KW.callNV1 rfl rfl rfl rfl rfl (fun H1 g t => solve (S := Low H1.n) (H0 := H1) (k := k) (L := []) (vals := []) hpr (by omega) (by simp) (fun r hr => by cases hr) rfl (fun v hv => by cases hv) (.inl ⟨rfl, none, 0, rfl, fun _ => rfl⟩) (.inl ⟨rfl, none, 0, rfl, fun _ => rfl⟩)) (fun v HS SS mS _ _ hv => ?_)
            obtain ⟨a9, ns, cs2, rfl⟩ := hv
            have hat : csAt p k [] held sc = if decide (k ∉ (ech p (augW (blR []) (restL p [] held sc)) (k + 1)).2) = true then tmN p (k - (ech p (blR ([] : List (List Int))) k).2.length) else 0 := rfl
            refine KW.cndB rfl rfl (fun b => ?_) (fun b => ?_)
            · have hvv : csAt p k [] held sc = tmN p (k - (ech p (blR ([] : List (List Int))) k).2.length) := hat.trans (if_pos b)
              refine KW.take 4 ?_
              refine KW.app1 (xs := (csL p k [] held sc).map (Value.int .i64)) (v := .int .i64 (tmN p (k - (ech p (blR ([] : List (List Int))) k).2.length))) 3 4 rfl rfl rfl rfl rfl rfl rfl rfl rfl rfl rfl rfl rfl rfl rfl rfl rfl rfl rfl rfl rfl rfl rfl (by simp) (by show (_ + 1) * 8 ≤ _; first | omega | (simp only; omega)) (by first | omega | (simp only; omega)) ?_
              exact KW.nxt rfl rfl (fun H' g => ⟨(sc + 1, _), by first | omega | (simp only; omega), by first | omega | (simp only; omega), ⟨rfl, rfl, rfl, rfl, by simp only [onx, List.length_append, List.length_singleton]; rfl, rfl, congrArg (Value.int .i64) (inc64 (by omega)), trivial⟩, (g.weak (fun id hid => ⟨((inferInstance : Stp _ _ SS HS).st id (t2i.st id hid).1).1, by rw [((inferInstance : Stp _ _ SS HS).st id (t2i.st id hid).1).2, (t2i.st id hid).2]⟩)).eqT (by simp only [onx, hvv, List.map_append]; rfl)⟩)
            · have hvv : csAt p k [] held sc = 0 := hat.trans (if_neg (fun h => Bool.noConfusion (h.symm.trans b)))
              refine KW.take 4 ?_
              refine KW.app1 (xs := (csL p k [] held sc).map (Value.int .i64)) (v := .int .i64 0) 3 4 rfl rfl rfl rfl rfl rfl rfl rfl rfl rfl rfl rfl rfl rfl rfl rfl rfl rfl rfl rfl rfl rfl rfl (by simp) (by show (_ + 1) * 8 ≤ _; first | omega | (simp only; omega)) (by first | omega | (simp only; omega)) ?_
              exact KW.nxt rfl rfl (fun H' g => ⟨(sc + 1, _), by first | omega | (simp only; omega), by first | omega | (simp only; omega), ⟨rfl, rfl, rfl, rfl, by simp only [onx, List.length_append, List.length_singleton]; rfl, rfl, congrArg (Value.int .i64) (inc64 (by omega)), trivial⟩, (g.weak (fun id hid => ⟨((inferInstance : Stp _ _ SS HS).st id (t2i.st id hid).1).1, by rw [((inferInstance : Stp _ _ SS HS).st id (t2i.st id hid).1).2, (t2i.st id hid).2]⟩)).eqT (by simp only [onx, hvv, List.map_append]; rfl)⟩)
          · have hSo3 : SC o3 := (inferInstance : On (New _ HC.n) HC SC HC).st o3 hno3 |>.1
            refine KW.thaw o3 _ hSo3 hmo3 ?_
            have t2 : St SR HR (fun id => SC id ∧ id ≠ o3) HC := fun id h => ⟨⟨(t1 id h).1, fun e => by have := hlow id h; have := hno3.1; omega⟩, (t1 id h).2⟩
            haveI t2i : On SR HR (fun id => SC id ∧ id ≠ o3) HC := ⟨t2⟩
            have hM2 := hMR.up (S' := (fun id => SC id ∧ id ≠ o3)) (H' := HC)
            refine KW.lpM rfl rfl (fun u : Nat × List Value => [(2, .slice a4 held.length c4), (9, .pointer (some ⟨HM.n, 0, some 1⟩)), (10, .pointer (some ⟨n9, 0, some 2⟩)), (13, .int .i64 (tmN p (k - (ech p (blR ([] : List (List Int))) k).2.length))), (14, .slice (some ⟨oo, 0, some 1⟩) (csL p k [] held sc).length (csL p k [] held sc).length), (15, .int .i64 sc), (16, .slice (some ⟨o3, 0, some 1⟩) held.length held.length), (69, .int .i64 p), (70, .int .i64 sc), (76, .slice am ([] : List (List Int)).length cm), (77, .int .i64 ([] : List (List Int)).length), (78, .int .i64 u.1)]) (fun _ => (fun id => SC id ∧ id ≠ o3)) (fun _ => HC) (fun u => [(H.n, ⟨41, true, [.int .i64 h', .slice a1 ow.length c1, .int .i64 p, .int .i64 (k + 1 : Nat), .slice a2 rows.length c2]⟩), (HM.n, ⟨28, true, [.int .i64 p, .int .i64 (k + 1 : Nat), .slice am ([] : List (List Int)).length cm]⟩), (n9, ⟨28, true, [.int .i64 p, .int .i64 k, .slice none 0 0]⟩), (oo, ⟨_, true, (csL p k [] held sc).map (Value.int .i64)⟩), (o3, ⟨2, true, u.2⟩)]) (fun u => u.1 = 0 ∧ u.2 = held.map (Value.int .i64)) (fun u => 0) (0, held.map (Value.int .i64)) ⟨rfl, rfl⟩ ⟨rfl, rfl, rfl, rfl, rfl, rfl, rfl, rfl, rfl, rfl, rfl, rfl, trivial⟩ rfl rfl rfl (fun u hu bE n => ?_)
            obtain ⟨i3, cc⟩ := u
            obtain ⟨hi3, hw3⟩ := hu
            simp only at hi3 hw3
            subst hi3
            subst hw3
            refine KW.cF rfl rfl (by first | (simp; done) | decide) ?_
            refine KW.callNV1 rfl rfl rfl rfl rfl (fun H1 g t => solve (S := Low H1.n) (H0 := H1) (k := k) (L := []) (vals := held) hpr (by omega) (by simp) (fun r hr => by cases hr) (by simpa using hhL) (fun v hv => by rw [hH0] at hv; cases hv) (.inl ⟨rfl, none, 0, rfl, fun _ => rfl⟩) (g.ints (j := 4) rfl rfl (Nat.le_refl _))) (fun v HS SS mS _ _ hv => ?_)
            obtain ⟨a9, ns, cs2, rfl⟩ := hv
            have hat : csAt p k [] held sc = if decide (k ∉ (ech p (augW (blR []) (restL p [] held sc)) (k + 1)).2) = true then tmN p (k - (ech p (blR ([] : List (List Int))) k).2.length) else 0 := rfl
            refine KW.cndB rfl rfl (fun b => ?_) (fun b => ?_)
            · have hvv : csAt p k [] held sc = tmN p (k - (ech p (blR ([] : List (List Int))) k).2.length) := hat.trans (if_pos b)
              refine KW.take 4 ?_
              refine KW.app1 (xs := (csL p k [] held sc).map (Value.int .i64)) (v := .int .i64 (tmN p (k - (ech p (blR ([] : List (List Int))) k).2.length))) 3 4 rfl rfl rfl rfl rfl rfl rfl rfl rfl rfl rfl rfl rfl rfl rfl rfl rfl rfl rfl rfl rfl rfl rfl (by simp) (by show (_ + 1) * 8 ≤ _; first | omega | (simp only; omega)) (by first | omega | (simp only; omega)) ?_
              exact KW.nxt rfl rfl (fun H' g => ⟨(sc + 1, _), by first | omega | (simp only; omega), by first | omega | (simp only; omega), ⟨rfl, rfl, rfl, rfl, by simp only [onx, List.length_append, List.length_singleton]; rfl, rfl, congrArg (Value.int .i64) (inc64 (by omega)), trivial⟩, (g.weak (fun id hid => ⟨((inferInstance : Stp _ _ SS HS).st id (t2i.st id hid).1).1, by rw [((inferInstance : Stp _ _ SS HS).st id (t2i.st id hid).1).2, (t2i.st id hid).2]⟩)).eqT (by simp only [onx, hvv, List.map_append]; rfl)⟩)
            · have hvv : csAt p k [] held sc = 0 := hat.trans (if_neg (fun h => Bool.noConfusion (h.symm.trans b)))
              refine KW.take 4 ?_
              refine KW.app1 (xs := (csL p k [] held sc).map (Value.int .i64)) (v := .int .i64 0) 3 4 rfl rfl rfl rfl rfl rfl rfl rfl rfl rfl rfl rfl rfl rfl rfl rfl rfl rfl rfl rfl rfl rfl rfl (by simp) (by show (_ + 1) * 8 ≤ _; first | omega | (simp only; omega)) (by first | omega | (simp only; omega)) ?_
              exact KW.nxt rfl rfl (fun H' g => ⟨(sc + 1, _), by first | omega | (simp only; omega), by first | omega | (simp only; omega), ⟨rfl, rfl, rfl, rfl, by simp only [onx, List.length_append, List.length_singleton]; rfl, rfl, congrArg (Value.int .i64) (inc64 (by omega)), trivial⟩, (g.weak (fun id hid => ⟨((inferInstance : Stp _ _ SS HS).st id (t2i.st id hid).1).1, by rw [((inferInstance : Stp _ _ SS HS).st id (t2i.st id hid).1).2, (t2i.st id hid).2]⟩)).eqT (by simp only [onx, hvv, List.map_append]; rfl)⟩)
        · have hsn : sc = p.toNat := by have j3 : ¬ (sc : Int) < p := j3; omega
          subst hsn
          refine KW.retM1 rfl rfl rfl rfl (fun H1 g => ⟨_, _, rfl, ml1' (int_ml ⟨g.ge (H1 := H) (j := 3) rfl, (g.blk (j := 3) rfl).2⟩ (g.blk (j := 3) rfl).1 rfl rfl (Nat.le_refl _))⟩)
  · have e1 : r1_CasesBySecret (h', ow, p, c, rows) g held = codeH (h', ow, p, c, rows) g held := by unfold r1_CasesBySecret; rw [if_neg hc]
    have e0 : r0_CasesBySecret (h', ow, p, c, rows) g held = [] := by unfold r0_CasesBySecret; rw [e1, if_neg hc]
    rw [e0, e1]
    refine KW.cT rfl rfl (by simpa using hc) ?_
    refine KW.retM1 rfl rfl rfl rfl (fun H1 g => MkLC.nil rfl)
end
end Go.Proofs.Ytmkpfllbmdahkaa.Am
/- The cases by the secret, counted one by one, are those of the echelon. Each holds under its own conditions. -/
set_option linter.unusedVariables false
set_option linter.unusedSimpArgs false
namespace Go.Proofs.Ytmkpfllbmdahkaa.Am
open Go Go.RowKit Go.Proofs Go.Proofs.Ytmkpfllbmdahkaa.Pl
theorem dF_drop {r : List Int} : ∀ (t : List Int) (c : Nat), dF (r.drop 1) c t = dF r (c + 1) t
  | [], _ => rfl
  | a :: t, c => by
    simp only [dF]
    rw [dF_drop t (c + 1)]
    congr 2
    simp [List.getD_eq_getElem?_getD, List.getElem?_drop, Nat.add_comm]
theorem dF_app {r : List Int} {v : Int} : ∀ (t : List Int) (c : Nat), c + t.length ≤ r.length → dF (r ++ [v]) c t = dF r c t
  | [], _, _ => rfl
  | a :: t, c, h => by
    simp only [List.length_cons] at h
    simp only [dF]
    rw [dF_app t (c + 1) (by omega)]
    congr 2
    simp only [List.getD_eq_getElem?_getD]
    rw [List.getElem?_append_left (by omega)]
theorem dotN_dF {r : List Int} : ∀ (x : List Int) (c : Nat), dotN (r.drop c) x x.length = dF r c x := by
  have key : ∀ (x : List Int) (a : Int) (c n : Nat), dotN (r.drop c) (a :: x) (n + 1) = r.getD c 0 * a + dotN (r.drop (c + 1)) x n := by
    intro x a c n
    induction n with
    | zero => simp [dotN, List.getD_eq_getElem?_getD, List.getElem?_drop]
    | succ n ih =>
      rw [dotN, ih, dotN]
      simp only [List.getD_eq_getElem?_getD, List.getElem?_cons_succ, List.getElem?_drop]
      rw [show c + (n + 1) = c + 1 + n by omega]
      omega
  intro x
  induction x with
  | nil => intro c; rfl
  | cons a x ih =>
    intro c
    rw [List.length_cons, key, ih (c + 1)]
    rfl
/-- Elements fit: all rows give what is held. -/
def Fits (p : Int) (L : List (List Int)) (held x : List Int) : Prop := ∀ (j : Nat) r v, L[j]? = some r → held[j]? = some v → dotS p r x = v
theorem mod_zero_iff {p a b v : Int} (hv : 0 ≤ v ∧ v < p) (h : ∃ m, b = a + p * m) : a % p = v ↔ (b - v) % p = 0 := by
  obtain ⟨m, rfl⟩ := h
  constructor
  · intro h
    rw [show a + p * m - v = (a - v) + p * m by omega, Int.add_mul_emod_self_left, ← h]
    exact Int.emod_eq_zero_of_dvd (Int.dvd_self_sub_emod)
  · intro h
    rw [show a + p * m - v = (a - v) + p * m by omega, Int.add_mul_emod_self_left] at h
    have := Int.emod_eq_emod_iff_emod_sub_eq_zero.2 h
    rw [this]
    exact Int.emod_eq_of_lt hv.1 hv.2
theorem fits_iff {p s : Int} {k : Nat} {L : List (List Int)} {held t : List Int} (hp : 0 < p) (hL : Rect p (k + 1) L) (hl : held.length = L.length) (hh : ∀ v ∈ held, 0 ≤ v ∧ v < p) (ht : t.length = k) : Fits p L held (s :: t) ↔ AllS p k (augW (blR L) (restL p L held s)) t := by
  have one : ∀ (j : Nat) r v, L[j]? = some r → held[j]? = some v → (dotS p r (s :: t) = v ↔ Sat p k (r.drop 1 ++ [(v + (p - s) * r.getD 0 0) % p]) t) := fun j r v hr hv => by
    have hrl := (hL r (List.mem_of_getElem? hr)).1
    have hd : (r.drop 1).length = k := by rw [List.length_drop]; omega
    rw [sat_iff, dF_app t 0 (by omega), dF_drop]
    have e1 : (r.drop 1 ++ [(v + (p - s) * r.getD 0 0) % p]).getD k 0 = (v + (p - s) * r.getD 0 0) % p := by
      simp only [List.getD_eq_getElem?_getD]
      rw [List.getElem?_append_right (by omega), hd, Nat.sub_self]
      rfl
    rw [e1]
    have e2 : dotS p r (s :: t) = (r.getD 0 0 * s + dF r 1 t) % p := by
      unfold dotS
      have h := dotN_dF (r := r) (s :: t) 0
      rw [List.drop_zero, List.length_cons] at h
      rw [hrl, ← ht, h]
      rfl
    obtain ⟨m, hm⟩ := mod_eq (v + (p - s) * r.getD 0 0) p
    rw [e2, mod_zero_iff (hh v (List.mem_of_getElem? hv)) (b := dF r 1 t - ((v + (p - s) * r.getD 0 0) % p) + v) ⟨m - r.getD 0 0, by rw [hm]; grind⟩]
    rw [show dF r 1 t - (v + (p - s) * r.getD 0 0) % p + v - v = dF r 1 t - (v + (p - s) * r.getD 0 0) % p by omega]
  constructor
  · intro hF j w hw
    simp only [augW, restL, blR, List.getElem?_zipWith, List.getElem?_map] at hw
    cases hr : L[j]? with
    | none => rw [hr] at hw; simp at hw
    | some r =>
      cases hv : held[j]? with
      | none => rw [hr, hv] at hw; simp at hw
      | some v =>
        rw [hr, hv] at hw
        simp only [Option.map_some, Option.some.injEq] at hw
        subst hw
        exact (one j r v hr hv).1 (hF j r v hr hv)
  · intro hA j r v hr hv
    refine (one j r v hr hv).2 (hA j _ ?_)
    exact augW_at (by simp [blR, hr]) (restL_at hr hv)
theorem aug_take {k : Nat} {B : List (List Int)} {vals : List Int} (hB : ∀ r ∈ B, r.length = k) (hl : vals.length = B.length) : (augW B vals).map (List.take k) = B := by
  refine List.ext_getElem? fun i => ?_
  rw [List.getElem?_map]
  rcases Nat.lt_or_ge i B.length with hi | hi
  · have h1 : B[i]? = some B[i] := List.getElem?_eq_getElem hi
    have h2 : vals[i]? = some (vals[i]'(by omega)) := List.getElem?_eq_getElem (by omega)
    rw [augW_at h1 h2, h1, Option.map_some]
    congr 1
    have := hB B[i] (List.getElem_mem hi)
    rw [List.take_append_of_le_length (by omega), List.take_of_length_le (by omega)]
  · rw [List.getElem?_eq_none (by rw [augW_len hl]; exact hi), List.getElem?_eq_none hi]; rfl
noncomputable def cntN (p : Int) (k : Nat) (L : List (List Int)) (held : List Int) (s n : Nat) : Nat := (List.range n).countP fun m => decide (m % p.toNat = s) && tv (Fits p L held (dig p.toNat (k + 1) m))
/-- What is counted one by one is what the echelon tells. -/
theorem cnt_eq {p : Int} {k : Nat} {L : List (List Int)} {held : List Int} (hp : PrimeP p) (hL : Rect p (k + 1) L) (hl : held.length = L.length) (hh : ∀ v ∈ held, 0 ≤ v ∧ v < p) (hbig : p ^ (k + 1) ≤ 20000) {s : Nat} (hs : s < p.toNat) : ((cntN p k L held s (p.toNat ^ (k + 1)) : Nat) : Int) = csAt p k L held s := by
  have hf := fer hp
  have hp0 : 0 < p := by have := hp.1; omega
  have hpn : 0 < p.toNat := by omega
  have hB := blR_rect hL
  have hrl := restL_len (p := p) (s := s) hl
  have hW : Rect p (k + 1) (augW (blR L) (restL p L held s)) := augW_rect hB (restL_in hp0)
  have h1 := count_low hpn (m := k) hs (fun x => tv (Fits p L held x))
  unfold cntN
  rw [h1]
  have h2 : (vec p.toNat k).countP (fun t => tv (Fits p L held ((s : Int) :: t))) = (vec p.toNat k).countP (fun x => @decide _ (Classical.propDecidable (AllS p k (augW (blR L) (restL p L held s)) x))) := List.countP_congr fun t ht => by
    rw [tv_iff]
    exact (fits_iff hp0 hL hl hh (vec_len k ht)).trans (@decide_eq_true_iff _ (Classical.propDecidable _)).symm
  rw [h2, count_sol hf hW (D2 := Classical.propDecidable _)]
  have hrk : (ech p (augW (blR L) (restL p L held s)) k).2 = (ech p (blR L) k).2 := by
    have h3 := ech_take (k := k) hf hW k (Nat.le_refl k)
    rw [aug_take (fun r hr => (hB r hr).1) (by rw [hrl, blR_len])] at h3
    rw [h3]
  rw [hrk]
  unfold csAt
  by_cases hS : Solv p k (augW (blR L) (restL p L held s))
  · rw [if_pos hS, if_pos (decide_eq_true ((solv_iff hf hW).1 hS))]
    have h4 : p ^ (k - (ech p (blR L) k).2.length) ≤ p ^ (k + 1) := Int.pow_le_of_le ⟨hp.1, hp.2.1⟩ (by omega)
    rw [tmN_le ⟨hp.1, hp.2.1⟩ _ (by omega)]
    rw [Int.natCast_pow, Int.toNat_of_nonneg (by omega)]
  · rw [if_neg hS, if_neg (by rw [decide_eq_true_eq]; exact fun h => hS ((solv_iff hf hW).2 h))]
    rfl
theorem dig_at {p : Nat} : ∀ (m n j : Nat), j < m → (dig p m n)[j]? = some ((n / p ^ j % p : Nat) : Int)
  | 0, n, j, h => by omega
  | m + 1, n, 0, _ => by simp [dig]
  | m + 1, n, j + 1, h => by
    simp only [dig, List.getElem?_cons_succ]
    rw [dig_at m (n / p) j (by omega), Nat.div_div_eq_div_mul, Nat.pow_succ, Nat.mul_comm (p ^ j) p]
theorem dig_len {p : Nat} : ∀ (m n : Nat), (dig p m n).length = m
  | 0, n => rfl
  | m + 1, n => by simp [dig, dig_len m]
theorem dig_in {p : Nat} (hp : 0 < p) {m n : Nat} : ∀ x ∈ dig p m n, 0 ≤ x ∧ x < (p : Int) := fun x hx => by
  obtain ⟨j, hj⟩ := List.getElem?_of_mem hx
  have hjl := (List.getElem?_eq_some_iff.1 hj).1
  rw [dig_len] at hjl
  rw [dig_at m n j hjl] at hj
  cases hj
  have := Nat.mod_lt (n / p ^ j) hp
  omega
theorem cntN_next {p : Int} {k : Nat} {L : List (List Int)} {held : List Int} {s n : Nat} : cntN p k L held s (n + 1) = cntN p k L held s n + (if n % p.toNat = s ∧ tv (Fits p L held (dig p.toNat (k + 1) n)) = true then 1 else 0) := by
  unfold cntN
  rw [List.range_succ, List.countP_append, List.countP_cons, List.countP_nil]
  congr 1
  simp only [Bool.and_eq_true, decide_eq_true_eq, Nat.zero_add]
theorem cntN_le {p : Int} {k : Nat} {L : List (List Int)} {held : List Int} {s n : Nat} : cntN p k L held s n ≤ n := by
  unfold cntN
  exact Nat.le_trans List.countP_le_length (by simp)
end Go.Proofs.Ytmkpfllbmdahkaa.Am
/- Contract: the cases by the secret, of the reference. It holds under its own conditions. -/
set_option linter.unusedVariables false
set_option linter.unusedSimpArgs false
set_option maxRecDepth 20000
namespace Go.Proofs.Ytmkpfllbmdahkaa.Am
open Go Go.RowKit Go.Proofs Go.Proofs.Ytmkpfllbmdahkaa.Pl
/-- The cells of the counts. -/
structure CnI (p : Int) (k : Nat) (L : List (List Int)) (held : List Int) (n : Nat) (cs : List Value) : Prop where
  len : cs.length = p.toNat
  at_ : ∀ s, s < p.toNat → cs[s]? = some (.int .i64 (cntN p k L held s n : Nat))
theorem CnI.miss {p : Int} {k n : Nat} {L : List (List Int)} {held : List Int} {cs : List Value} (h : CnI p k L held n cs) (hf : ¬ Fits p L held (dig p.toNat (k + 1) n)) : CnI p k L held (n + 1) cs := ⟨h.len, fun s hs => by
  rw [h.at_ s hs, cntN_next, if_neg (fun hc => hf (tv_iff.1 hc.2))]
  rfl⟩
theorem CnI.hit {p : Int} {k n s0 : Nat} {L : List (List Int)} {held : List Int} {cs : List Value} {v : Value} (h : CnI p k L held n cs) (hf : Fits p L held (dig p.toNat (k + 1) n)) (hs0 : n % p.toNat = s0) (hp : 0 < p.toNat) (hv : v = .int .i64 ((cntN p k L held s0 n + 1 : Nat) : Int)) : CnI p k L held (n + 1) (cs.set s0 v) := ⟨by rw [List.length_set]; exact h.len, fun s hs => by
  have hl := h.len
  by_cases e : s0 = s
  · rw [← e, List.getElem?_set_self (by rw [hl, ← hs0]; exact Nat.mod_lt _ hp), hv, cntN_next, if_pos ⟨hs0, tv_true hf⟩]
  · rw [List.getElem?_set_ne e, h.at_ s hs, cntN_next, if_neg (fun hc => e (hs0.symm.trans hc.1))]
    rfl⟩
theorem CnI.all {p : Int} {k : Nat} {L : List (List Int)} {held : List Int} {cs : List Value} {n : Nat} (h : CnI p k L held n cs) (he : ∀ s, s < p.toNat → ((cntN p k L held s n : Nat) : Int) = csAt p k L held s) : cs = (csL p k L held p.toNat).map (Value.int .i64) := by
  refine List.ext_getElem? fun i => ?_
  rcases Nat.lt_or_ge i p.toNat with hi | hi
  · rw [h.at_ i hi, he i hi, List.getElem?_map, csL, List.getElem?_map, List.getElem?_range hi]
    rfl
  · rw [List.getElem?_eq_none (by rw [h.len]; exact hi), List.getElem?_eq_none (by rw [List.length_map, csL_len]; exact hi)]
section
variable {S : Ids} {H0 : AH}
theorem spec_CasesBySecret {x : T_Scheme} {gg held : List Int} {cs : List Value} {a3 c3 a4 c4} (hB : B_Scheme x) (hG : B_Int64S gg) (hH : B_Int64S held) (h : K_Scheme.R S H0 x cs) (kg : K_Int64S.R S H0 gg [.slice a3 gg.length c3]) (kh : K_Int64S.R S H0 held [.slice a4 held.length c4]) :
    SpecM Try.prog S H0 29 [.agg cs.toArray, .slice a3 gg.length c3, .slice a4 held.length c4] (MkLC (r0_CasesBySecret x gg held) (r1_CasesBySecret x gg held)) := by
  obtain ⟨a1, c1, a2, c2, rfl, s1, s2⟩ := split2_Scheme h
  have s3 := sl1 kg
  have s4 := sl1 kh
  obtain ⟨h', ow, p, c, rows⟩ := x
  simp only at s1 s2 ⊢
  have hO : B_Int64S ow := hB.2.1
  have hBr : B_Int64SS rows := hB.2.2.2.2
  have hG' : gg.length ≤ 1048576 := hG
  have hH' : held.length ≤ 1048576 := hH
  refine SpecM.of1 Try.func29 rfl (by kernel_rfl) rfl (fun H _ => ?_)
  refine KW.callV1 rfl rfl rfl rfl rfl (fun H1 g _ => l04With (S := Low H1.n) (H0 := H1) (h', ow, p, c, rows) gg held hB hG hH (g.has (j := 0) rfl rfl) s1.up s2.up s3.up s4.up) (fun n8 m8 => ?_)
  by_cases hc : codeH (h', ow, p, c, rows) gg held = 0
  · obtain ⟨hk, hg, hhl, hhe⟩ := codeH_ok hc
    have hk : OkSch h' ow p c rows := hk
    simp only at hg hhl hhe
    refine KW.cF rfl rfl (by simp [hc]) ?_
    obtain ⟨k, rfl⟩ : ∃ k : Nat, c = ((k + 1 : Nat) : Int) := ⟨c.toNat - 1, by have := hk.c1; omega⟩
    have hpr := hk.mat.pr
    have hp2 := hpr.1
    have hp31 := hpr.2.1
    have hk12 := hk.mat.c1
    have hrg := rowsG_spec hk hg
    refine KW.call rfl rfl rfl rfl rfl (l04Cases p (k + 1) ⟨hp2, hp31⟩ (by omega)) (fun v n9 _ hv => ?_)
    obtain ⟨r, rfl, hr1, hr2, hr3⟩ := hv
    by_cases hbig : 20000 < p ^ (k + 1)
    · have e1 : r1_CasesBySecret (h', ow, p, ((k + 1 : Nat) : Int), rows) gg held = 3 := by
        unfold r1_CasesBySecret
        rw [if_pos hc]
        simp only [Int.toNat_natCast]
        rw [if_pos hbig]
      have e0 : r0_CasesBySecret (h', ow, p, ((k + 1 : Nat) : Int), rows) gg held = [] := by unfold r0_CasesBySecret; rw [e1]; rfl
      rw [e0, e1]
      have := hr3 hbig
      refine KW.yes rfl rfl (by omega) ?_
      refine KW.lit rfl rfl rfl rfl rfl rfl rfl rfl rfl rfl [] rfl rfl (fun v hv => by simp at hv) rfl ?_
      refine KW.retM1 rfl rfl rfl rfl (fun H1 g => MkLC.nil' rfl)
    · have e1 : r1_CasesBySecret (h', ow, p, ((k + 1 : Nat) : Int), rows) gg held = 0 := by
        unfold r1_CasesBySecret
        rw [if_pos hc]
        simp only [Int.toNat_natCast]
        rw [if_neg hbig]
      have e0 : r0_CasesBySecret (h', ow, p, ((k + 1 : Nat) : Int), rows) gg held = csL p k (heldR ow rows (bitsOf gg)) held p.toNat := by
        unfold r0_CasesBySecret
        rw [if_pos e1]
        simp only [Int.toNat_natCast, Nat.add_sub_cancel]
      rw [e0, e1]
      have hr := hr2 (by omega)
      refine KW.no rfl rfl (by omega) ?_
      refine KW.callNV1 rfl rfl rfl rfl rfl (fun H1 g _ => l04Part (S := Low H1.n) (H0 := H1) h' p ((k + 1 : Nat) : Int) (id := H.n) (kk := 0) hO hBr hk hG' (g.has (j := 0) rfl rfl) s1.up s2.up s3.up) (fun v HM SM mM _ _ hv => ?_)
      obtain ⟨am, cm, rfl, hM⟩ := hv
      have hM := hM.up (S' := SM) (H' := HM)
      have esel : selR rows (rowsP (fun i => decide (ow.getD i 0 ∈ gg)) ow.length) = heldR ow rows (bitsOf gg) := by rw [hrg]; rfl
      rw [esel] at hM ⊢
      have hLr : Rect p (k + 1) (heldR ow rows (bitsOf gg)) := held_rect hk rfl
      have hLl : (heldR ow rows (bitsOf gg)).length ≤ 20 := held_len hk
      have hhL : held.length = (heldR ow rows (bitsOf gg)).length := by rw [hhl]; unfold heldR rowsG; rw [selR_len]
      generalize hLd : heldR ow rows (bitsOf gg) = L at *
      obtain ⟨P, rfl⟩ : ∃ P : Nat, p = P := ⟨p.toNat, by omega⟩
      have hP0 : 0 < P := by omega
      have hheld := s4.up (S' := SM) (H' := HM)
      have hcnt : ∀ s, s < P → ((cntN (P : Int) k L held s (P ^ (k + 1)) : Nat) : Int) = csAt P k L held s := fun s hs => by
        have := cnt_eq hpr hLr hhL (fun v hv => by have := hhe v hv; omega) (by omega) (s := s) (by simpa using hs)
        simpa using this
      have hpN : ((P ^ (k + 1) : Nat) : Int) = (P : Int) ^ (k + 1) := by rw [Int.natCast_pow]
      have hN20 : P ^ (k + 1) ≤ 20000 := by omega
      refine KW.mk1 rfl rfl rfl rfl rfl rfl rfl rfl rfl rfl rfl rfl (P) rfl rfl (by omega) (by show 8 * _ ≤ _; omega) ?_
      refine KW.lpM rfl rfl (fun s : Nat × List Value => [(2, .slice a4 held.length c4), (3, .pointer (some ⟨H.n, 0, some 0⟩)), (9, .int .i64 P), (10, .pointer (some ⟨HM.n, 0, some 1⟩)), (11, .slice (some ⟨HM.n + 1, 0, some 1⟩) P P), (12, .int .i64 s.1)]) (fun s => SM) (fun s => HM) (fun s => [(H.n, ⟨41, true, [.int .i64 h', .slice a1 ow.length c1, .int .i64 P, .int .i64 (k + 1 : Nat), .slice a2 rows.length c2]⟩), (HM.n, ⟨28, true, [.int .i64 P, .int .i64 (k + 1 : Nat), .slice am L.length cm]⟩), (HM.n + 1, ⟨_, true, s.2⟩)]) (fun s => s.1 ≤ P ^ (k + 1) ∧ CnI P k L held s.1 s.2) (fun s => P ^ (k + 1) - s.1) ((0, _)) (⟨by simp, by simp, fun s hs => by rw [List.getElem?_replicate, if_pos (by simpa using hs)]; simp [cntN]⟩) ⟨rfl, rfl, rfl, rfl, rfl, rfl, trivial⟩ rfl rfl rfl (fun s hi bE n => ?_)
      obtain ⟨N, cs⟩ := s
      obtain ⟨hN, hcs⟩ := hi
      simp only at hN hcs
      refine KW.call rfl rfl rfl rfl rfl (l04Cases P (k + 1) ⟨hp2, hp31⟩ (by omega)) (fun v n7 _ hv => ?_)
      obtain ⟨r', rfl, hr1', hr2', hr3'⟩ := hv
      have hr' := hr2' (by omega)
      refine KW.cnd rfl rfl (fun j1 => ?_) (fun j1 => ?_)
      · have j1 : (N : Int) < r' := j1
        have hNlt : N < P ^ (k + 1) := by omega
        refine KW.lit rfl rfl rfl rfl rfl rfl rfl rfl rfl rfl [] rfl rfl (fun v hv => by simp at hv) rfl ?_
        refine KW.lpM rfl rfl (fun s : Nat × Nat => [(2, .slice a4 held.length c4), (3, .pointer (some ⟨H.n, 0, some 0⟩)), (9, .int .i64 P), (10, .pointer (some ⟨HM.n, 0, some 1⟩)), (11, .slice (some ⟨HM.n + 1, 0, some 1⟩) P P), (12, .int .i64 N), (13, .slice (some ⟨s.2, 0, some 1⟩) ((dig P (k + 1) N).take s.1).length ((dig P (k + 1) N).take s.1).length), (14, .int .i64 (N / P ^ s.1 : Nat))]) (fun s => SM) (fun s => HM) (fun s => [(H.n, ⟨41, true, [.int .i64 h', .slice a1 ow.length c1, .int .i64 P, .int .i64 (k + 1 : Nat), .slice a2 rows.length c2]⟩), (HM.n, ⟨28, true, [.int .i64 P, .int .i64 (k + 1 : Nat), .slice am L.length cm]⟩), (HM.n + 1, ⟨_, true, cs⟩), (s.2, ⟨_, true, ((dig P (k + 1) N).take s.1).map (Value.int .i64)⟩)]) (fun s => s.1 ≤ k + 1) (fun s => k + 1 - s.1) ((0, _)) (by simp) ⟨rfl, rfl, rfl, rfl, rfl, rfl, rfl, congrArg (Value.int .i64) (by simp), trivial⟩ rfl rfl rfl (fun s hi bE n => ?_)
        obtain ⟨j, oo⟩ := s
        simp only at hi
        have hdl := dig_len (p := P) (k + 1) N
        refine KW.cnd rfl rfl (fun j2 => ?_) (fun j2 => ?_)
        · have j2 : (((dig P (k + 1) N).take j).length : Int) < ((k + 1 : Nat) : Int) := j2
          have htl : ((dig P (k + 1) N).take j).length = j := by rw [List.length_take]; omega
          have hjk : j < k + 1 := by omega
          have hdj := dig_at (p := P) (k + 1) N j hjk
          have hdq : N / P ^ j ≤ N := Nat.div_le_self _ _
          have htk : (dig P (k + 1) N).take (j + 1) = (dig P (k + 1) N).take j ++ [((N / P ^ j % P : Nat) : Int)] := by
            obtain ⟨hlt, he⟩ := List.getElem?_eq_some_iff.1 hdj
            rw [List.take_succ_eq_append_getElem hlt, he]
          refine KW.rem rfl rfl rfl rfl rfl rfl (Int.natCast_nonneg _) (by omega) ?_
          refine KW.app1 (xs := ((dig P (k + 1) N).take j).map (Value.int .i64)) (v := .int .i64 ((N / P ^ j % P : Nat) : Int)) 3 4 rfl rfl rfl rfl rfl rfl rfl rfl rfl rfl rfl rfl rfl rfl rfl rfl rfl rfl rfl rfl rfl rfl rfl (by simp) (by show (_ + 1) * 8 ≤ _; first | omega | (simp only; omega)) (by first | omega | (simp only; omega)) ?_
          refine KW.quo rfl rfl rfl rfl rfl rfl (⟨Int.natCast_nonneg _, by simp only; omega⟩) (by omega) ?_
          refine KW.nxt rfl rfl (fun H' g => ⟨(j + 1, _), by simp only; omega, by first | omega | (simp only; omega), ⟨rfl, rfl, rfl, rfl, rfl, rfl, by simp only [htk, List.length_append, List.length_singleton]; rfl, congrArg (Value.int .i64) (by show ((N / P ^ j : Nat) : Int) / (P : Int) = ((N / P ^ (j + 1) : Nat) : Int); rw [Nat.pow_succ, ← Nat.div_div_eq_div_mul]; first | done | rfl), trivial⟩, g.eqT (by simp only [htk, List.map_append]; rfl)⟩)
        · have hjk : j = k + 1 := by
            have j2 : ¬ (((dig P (k + 1) N).take j).length : Int) < ((k + 1 : Nat) : Int) := j2
            rw [List.length_take] at j2
            omega
          subst hjk
          rw [List.take_of_length_le (by omega)]
          have hdin := dig_in hP0 (m := k + 1) (n := N)
          have hD0 : (dig P (k + 1) N)[0]? = some ((N % P : Nat) : Int) := by have := dig_at (p := P) (k + 1) N 0 (by omega); simpa using this
          generalize hD : dig P (k + 1) N = D at *
          have hDe : Elems (P : Int) D := fun x hx => by have := hdin x hx; omega
          refine KW.lp rfl rfl (fun s : Nat × Bool => [(2, .slice a4 held.length c4), (3, .pointer (some ⟨H.n, 0, some 0⟩)), (9, .int .i64 P), (10, .pointer (some ⟨HM.n, 0, some 1⟩)), (11, .slice (some ⟨HM.n + 1, 0, some 1⟩) P P), (12, .int .i64 N), (13, .slice (some ⟨oo, 0, some 1⟩) D.length D.length), (15, .bool s.2), (16, .int .i64 s.1)]) (fun s => s.1 ≤ L.length ∧ ((s.2 = true ∧ ∀ j, j < s.1 → ∀ r v, L[j]? = some r → held[j]? = some v → dotS P r D = v) ∨ (s.2 = false ∧ ¬ Fits P L held D))) (fun s => L.length - s.1) ((0, true)) (⟨by simp, .inl ⟨rfl, fun j hj => absurd hj (Nat.not_lt_zero _)⟩⟩) ⟨rfl, rfl, rfl, rfl, rfl, rfl, rfl, rfl, rfl, trivial⟩ (fun s hi bE n => ?_)
          obtain ⟨i3, fb⟩ := s
          obtain ⟨hi3, hfb⟩ := hi
          simp only at hi3 hfb
          refine KW.tst rfl rfl (fun j3 => ?_) (fun j3 => ?_)
          · have j3 : (i3 : Int) < (L.length : Int) := j3
            cases fb with
            | true =>
              obtain ⟨_, hfit⟩ : True ∧ ∀ j, j < i3 → ∀ r v, L[j]? = some r → held[j]? = some v → dotS P r D = v := by
                rcases hfb with ⟨_, h⟩ | ⟨h, _⟩
                · exact ⟨trivial, h⟩
                · cases h
              refine KW.cT rfl rfl (by first | (simp; done) | decide) ?_
              refine KW.getL hM rfl rfl rfl rfl rfl rfl rfl rfl rfl rfl rfl rfl rfl rfl rfl rfl (by omega) (j3) (fun y ay cy hy hsy => ?_)
              have hy : L[i3]? = some y := hy
              have hym := hLr y (List.mem_of_getElem? hy)
              refine KW.callV1 rfl rfl rfl rfl rfl (fun H1 g _ => l03Dot (S := Low H1.n) (H0 := H1) (P : Int) hpr (by omega) (by omega) (fun x hx => by have := hym.2 x hx; omega) hDe hsy.up (g.ints (j := 3) rfl rfl (Nat.le_refl _))) (fun _ _ => ?_)
              refine KW.getI hheld rfl rfl rfl rfl rfl rfl rfl rfl rfl rfl rfl rfl rfl rfl rfl rfl (by omega) (by omega) (fun w hw => ?_)
              have hw : held[i3]? = some w := hw
              by_cases hfw : dotS P y D = w
              · refine KW.nxt rfl rfl (fun H' g => ⟨(i3 + 1, true), ⟨by simp only; omega, .inl ⟨rfl, upto hfit (fun r v hr hv => by rw [hy] at hr; cases hr; rw [hw] at hv; cases hv; exact hfw)⟩⟩, by first | omega | (simp only; omega), ⟨rfl, rfl, rfl, rfl, rfl, rfl, rfl, congrArg Value.bool (by simp [hfw]), congrArg (Value.int .i64) (inc64 (by omega)), trivial⟩, g⟩)
              · refine KW.nxt rfl rfl (fun H' g => ⟨(i3 + 1, false), ⟨by simp only; omega, .inr ⟨rfl, fun hc => hfw (hc i3 y w hy hw)⟩⟩, by first | omega | (simp only; omega), ⟨rfl, rfl, rfl, rfl, rfl, rfl, rfl, congrArg Value.bool (by simp [hfw]), congrArg (Value.int .i64) (inc64 (by omega)), trivial⟩, g⟩)
            | false =>
              have hnf : ¬ Fits (P : Int) L held D := by
                rcases hfb with ⟨h, _⟩ | ⟨_, h⟩
                · cases h
                · exact h
              refine KW.cF rfl rfl (by first | (simp; done) | decide) ?_
              refine KW.cF rfl rfl (by first | (simp; done) | decide) ?_
              refine KW.take 3 ?_
              refine KW.nxt rfl rfl (fun H' g => ⟨(N + 1, cs), ⟨by simp only; omega, hcs.miss (by show ¬ Fits _ _ _ (dig P (k + 1) N); rw [hD]; exact hnf)⟩, by first | omega | (simp only; omega), ⟨rfl, rfl, rfl, rfl, rfl, congrArg (Value.int .i64) (inc64 (by omega)), trivial⟩, g⟩)
          · have hi4 : i3 = L.length := by have j3 : ¬ (i3 : Int) < (L.length : Int) := j3; omega
            subst hi4
            refine KW.cF rfl rfl (by first | (simp; done) | decide) ?_
            cases fb with
            | true =>
              have hft : Fits (P : Int) L held D := by
                rcases hfb with ⟨_, h⟩ | ⟨h, _⟩
                · exact fun j r v hr hv => h j (List.getElem?_eq_some_iff.1 hr).1 r v hr hv
                · cases h
              have hmod := Nat.mod_lt N hP0
              have hcl := hcs.len
              have hca := hcs.at_ (N % P) (by simpa using hmod)
              have hcle := cntN_le (p := (P : Int)) (k := k) (L := L) (held := held) (s := N % P) (n := N)
              refine KW.cT rfl rfl (by first | (simp; done) | decide) ?_
              refine KW.idx0 rfl rfl rfl rfl rfl rfl rfl rfl rfl (by omega) (by omega) ?_
              refine KW.ldT 3 rfl rfl rfl rfl rfl rfl (bload_at (show (D.map (Value.int .i64))[0]? = some (.int .i64 ((N % P : Nat) : Int)) from by rw [List.getElem?_map, hD0]; rfl) rfl rfl) ?_
              refine KW.idx0 rfl rfl rfl rfl rfl rfl rfl rfl rfl (by omega) (by omega) ?_
              refine KW.ldT 2 rfl rfl rfl rfl rfl rfl (bload_at (by rw [Nat.zero_add, Nat.mul_one]; exact hca) rfl rfl) ?_
              refine KW.idx0 rfl rfl rfl rfl rfl rfl rfl rfl rfl (by omega) (by omega) ?_
              refine KW.st1 2 rfl rfl rfl rfl rfl rfl rfl rfl rfl rfl rfl rfl (by simp only; rw [hcl]; simp; omega) ?_
              refine KW.take 3 ?_
              refine KW.nxt rfl rfl (fun H' g => ⟨(N + 1, _), ⟨by simp only; omega, by rw [Nat.zero_add, Nat.mul_one]; exact hcs.hit (s0 := N % P) (by show Fits _ _ _ (dig P (k + 1) N); rw [hD]; exact hft) (by simp) (by simpa using hP0) (congrArg (Value.int .i64) (by rw [wr (by omega) (by omega)]; omega))⟩, by first | omega | (simp only; omega), ⟨rfl, rfl, rfl, rfl, rfl, congrArg (Value.int .i64) (inc64 (by omega)), trivial⟩, g⟩)
            | false =>
              have hnf : ¬ Fits (P : Int) L held D := by
                rcases hfb with ⟨h, _⟩ | ⟨_, h⟩
                · cases h
                · exact h
              refine KW.cF rfl rfl (by first | (simp; done) | decide) ?_
              refine KW.take 3 ?_
              refine KW.nxt rfl rfl (fun H' g => ⟨(N + 1, cs), ⟨by simp only; omega, hcs.miss (by show ¬ Fits _ _ _ (dig P (k + 1) N); rw [hD]; exact hnf)⟩, by first | omega | (simp only; omega), ⟨rfl, rfl, rfl, rfl, rfl, congrArg (Value.int .i64) (inc64 (by omega)), trivial⟩, g⟩)
      · have hNe : N = P ^ (k + 1) := by have j1 : ¬ (N : Int) < r' := j1; omega
        subst hNe
        have hce := hcs.all (fun s hs => hcnt s (by simpa using hs))
        subst hce
        refine KW.retM1 rfl rfl rfl rfl (fun H1 g => ?_)
        have hb := g.blk (j := 2) rfl
        have hll : (csL P k L held (P : Int).toNat).length = P := by rw [csL_len]; simp
        exact ⟨some ⟨HM.n + 1, 0, some 1⟩, P, by rw [hll]; rfl, ml1' (int_ml ⟨g.ge (H1 := H) (j := 2) rfl, hb.2⟩ hb.1 rfl rfl (by rw [hll]; exact Nat.le_refl _))⟩
  · have e1 : r1_CasesBySecret (h', ow, p, c, rows) gg held = codeH (h', ow, p, c, rows) gg held := by unfold r1_CasesBySecret; rw [if_neg hc]
    have e0 : r0_CasesBySecret (h', ow, p, c, rows) gg held = [] := by unfold r0_CasesBySecret; rw [e1, if_neg hc]
    rw [e0, e1]
    refine KW.cT rfl rfl (by simpa using hc) ?_
    refine KW.lit rfl rfl rfl rfl rfl rfl rfl rfl rfl rfl [] rfl rfl (fun v hv => by simp at hv) rfl ?_
    refine KW.retM1 rfl rfl rfl rfl (fun H1 g => MkLC.nil' rfl)
end
end Go.Proofs.Ytmkpfllbmdahkaa.Am
/- The list of cases is short. -/
set_option linter.unusedVariables false
namespace Go.Proofs.Ytmkpfllbmdahkaa.Am
open Go Go.RowKit Go.Proofs Go.Proofs.Ytmkpfllbmdahkaa.Pl
theorem bound_CasesBySecret {x : T_Scheme} {g held : List Int} (hB : B_Scheme x) (hG : B_Int64S g) (hH : B_Int64S held) : B_Int64S (r0_CasesBySecret x g held) := by
  show (r0_CasesBySecret x g held).length ≤ 1048576
  unfold r0_CasesBySecret
  split
  · rename_i h
    rw [csL_len]
    have hc : codeH x g held = 0 := by
      unfold r1_CasesBySecret at h
      by_cases hc : codeH x g held = 0
      · exact hc
      · rw [if_neg hc] at h; exact absurd h hc
    have := (codeH_ok hc).1.mat.pr.2.1
    omega
  · simp
end Go.Proofs.Ytmkpfllbmdahkaa.Am
/- The law FnExactCasesBySecret returns true. No condition beyond the reading of the arguments. -/
set_option linter.unusedVariables false
set_option maxRecDepth 20000
set_option maxHeartbeats 4000000
namespace Go.Proofs.Ytmkpfllbmdahkaa.Am
open Go Go.RowKit Go.Proofs
section
variable {S : Ids} {H0 : AH}
theorem lawCasesBySecret {ar0 : T_Scheme} {ar1 : List Int} {ar2 : List Int} {cs0 : List Value} {p1 : Option Addr} {q1 : Nat} {p2 : Option Addr} {q2 : Nat} (hW0 : W_Scheme ar0) (h0 : K_Scheme.R S H0 ar0 cs0) (hW1 : W_Int64S ar1) (h1 : K_Int64S.R S H0 ar1 [.slice p1 ar1.length q1]) (hW2 : W_Int64S ar2) (h2 : K_Int64S.R S H0 ar2 [.slice p2 ar2.length q2]) : Spec Try.prog S H0 5 [.agg cs0.toArray, .slice p1 ar1.length q1, .slice p2 ar2.length q2] (fun v => v = .bool true) := by
  obtain ⟨p0_0, q0_0, p0_1, q0_1, rfl⟩ := form_Scheme h0
  refine Spec.of1 Try.func5 rfl (by kernel_rfl) rfl (fun H _ => ?_)
  have A0 : Fk K_Scheme (Low H.n) (Low H.n) H ar0 _ := ⟨On.R h0, fun _ p => p⟩
  have A1 : Fk K_Int64S (Low H.n) (Low H.n) H ar1 _ := ⟨On.R h1, fun _ p => p⟩
  have A2 : Fk K_Int64S (Low H.n) (Low H.n) H ar2 _ := ⟨On.R h2, fun _ p => p⟩
  refine KW.cnd rfl rfl (fun h => KW.ret rfl rfl rfl rfl rfl) (fun h => ?_)
  have hB1 : B_Int64S ar1 := by show _ ≤ _; omega
  refine KW.cnd rfl rfl (fun h => KW.ret rfl rfl rfl rfl rfl) (fun h => ?_)
  have hB2 : B_Int64S ar2 := by show _ ≤ _; omega
  refine KW.call rfl rfl rfl rfl rfl (sz_Scheme' (left := 1048576) (by decide) (by decide) hW0 A0.all) (fun v n0 _ hv => ?_)
  obtain ⟨r0, rfl, k0⟩ := hv
  refine KW.cnd rfl rfl (fun h => KW.ret rfl rfl rfl rfl rfl) (fun h => ?_)
  have k0 := k0.resolve_left (by omega)
  have hB0 := k0.2.2
  obtain ⟨q0r, eq0r⟩ : ∃ q, r0_CasesBySecret ar0 ar1 ar2 = q := ⟨_, rfl⟩
  obtain ⟨q1r, eq1r⟩ : ∃ q, r1_CasesBySecret ar0 ar1 ar2 = q := ⟨_, rfl⟩
  have cspec : ∀ {S1 : Ids} {H1 : AH} {ca0 : List Value} {pa1 : Option Addr} {qa1 : Nat} {pa2 : Option Addr} {qa2 : Nat} (_ : K_Scheme.R S1 H1 ar0 ca0) (_ : K_Int64S.R S1 H1 ar1 [.slice pa1 ar1.length qa1]) (_ : K_Int64S.R S1 H1 ar2 [.slice pa2 ar2.length qa2]), SpecM Try.prog S1 H1 29 [.agg ca0.toArray, .slice pa1 ar1.length qa1, .slice pa2 ar2.length qa2] (fun n v H2 => ∃ a c, v = .tuple #[.slice a q0r.length c, .int .i64 q1r] ∧ M_Int64S.R (New n H2.n) H2 q0r [.slice a q0r.length c]) := by
    subst eq0r; subst eq1r
    intros
    exact spec_CasesBySecret hB0 hB1 hB2 (by assumption) (by assumption) (by assumption)
  have cimpl : ∀ {S1 : Ids} {H1 : AH} {ca0 : List Value} {pa1 : Option Addr} {qa1 : Nat} {pa2 : Option Addr} {qa2 : Nat} (_ : K_Scheme.R S1 H1 ar0 ca0) (_ : K_Int64S.R S1 H1 ar1 [.slice pa1 ar1.length qa1]) (_ : K_Int64S.R S1 H1 ar2 [.slice pa2 ar2.length qa2]), SpecM Try.prog S1 H1 31 [.agg ca0.toArray, .slice pa1 ar1.length qa1, .slice pa2 ar2.length qa2] (fun n v H2 => ∃ a c, v = .tuple #[.slice a q0r.length c, .int .i64 q1r] ∧ M_Int64S.R (New n H2.n) H2 q0r [.slice a q0r.length c]) := by
    subst eq0r; subst eq1r
    intros
    exact impl_CasesBySecret hB0 hB1 hB2 (by assumption) (by assumption) (by assumption)
  have hBr : B_Int64S q0r := by subst eq0r; exact bound_CasesBySecret hB0 hB1 hB2
  refine KW.callN1 rfl rfl rfl rfl rfl (to_Scheme hB0 A0.all) (fun v Hb0 Sb0 mb0 _ _ hv => ?_)
  obtain ⟨wb0, rfl, b0⟩ := hv
  obtain ⟨b0_0, b0c_0, b0_1, b0c_1, rfl⟩ := formM_Scheme b0
  refine KW.callN1 rfl rfl rfl rfl rfl (to_Int64S hB1 A1.all) (fun v Hb1 Sb1 mb1 _ _ hv => ?_)
  obtain ⟨b1_0, b1c_0, rfl, b1⟩ := hv
  refine KW.callN1 rfl rfl rfl rfl rfl (to_Int64S hB2 A2.all) (fun v Hb2 Sb2 mb2 _ _ hv => ?_)
  obtain ⟨b2_0, b2c_0, rfl, b2⟩ := hv
  refine KW.callN1 rfl rfl rfl rfl rfl (cspec ((le_Scheme).2 _ _ _ _ (On.R b0)) ((le_Int64S).2 _ _ _ _ (On.R b1)) ((le_Int64S).2 _ _ _ _ (On.R b2))) (fun v Hw Sw mw _ _ hv => ?_)
  obtain ⟨w_0, wc_0, rfl, w⟩ := hv
  refine KW.callN1 rfl rfl rfl rfl rfl (to_Scheme hB0 A0.all) (fun v Hx0 Sx0 mx0 _ _ hv => ?_)
  obtain ⟨wx0, rfl, x0⟩ := hv
  obtain ⟨x0_0, x0c_0, x0_1, x0c_1, rfl⟩ := formM_Scheme x0
  refine KW.callN1 rfl rfl rfl rfl rfl (to_Int64S hB1 A1.all) (fun v Hx1 Sx1 mx1 _ _ hv => ?_)
  obtain ⟨x1_0, x1c_0, rfl, x1⟩ := hv
  refine KW.callN1 rfl rfl rfl rfl rfl (to_Int64S hB2 A2.all) (fun v Hx2 Sx2 mx2 _ _ hv => ?_)
  obtain ⟨x2_0, x2c_0, rfl, x2⟩ := hv
  refine KW.callN1 rfl rfl rfl rfl rfl (cimpl ((le_Scheme).2 _ _ _ _ (On.R x0)) ((le_Int64S).2 _ _ _ _ (On.R x1)) ((le_Int64S).2 _ _ _ _ (On.R x2))) (fun v Hg Sg mg _ _ hv => ?_)
  obtain ⟨g_0, gc_0, rfl, g⟩ := hv
  refine KW.callE rfl rfl rfl rfl rfl (eq_Int64S hBr ((le_Int64S).2 _ _ _ _ (On.R g)) ((le_Int64S).2 _ _ _ _ (On.R w))) (fun _ _ => ?_)
  refine KW.tF rfl rfl (by first | (simp; done) | decide) ?_
  refine KW.cF rfl rfl (by first | (simp; done) | decide) ?_
  refine KW.callN1 rfl rfl rfl rfl rfl (to_Scheme hB0 A0.all) (fun v Hy0 Sy0 my0 _ _ hv => ?_)
  obtain ⟨wy0, rfl, y0⟩ := hv
  obtain ⟨y0_0, y0c_0, y0_1, y0c_1, rfl⟩ := formM_Scheme y0
  refine KW.callE rfl rfl rfl rfl rfl (eq_Scheme hB0 ((le_Scheme).2 _ _ _ _ (On.R x0)) ((le_Scheme).2 _ _ _ _ (On.R y0))) (fun _ _ => ?_)
  refine KW.cF rfl rfl (by first | (simp; done) | decide) ?_
  refine KW.callN1 rfl rfl rfl rfl rfl (to_Int64S hB1 A1.all) (fun v Hy1 Sy1 my1 _ _ hv => ?_)
  obtain ⟨y1_0, y1c_0, rfl, y1⟩ := hv
  refine KW.callE rfl rfl rfl rfl rfl (eq_Int64S hB1 ((le_Int64S).2 _ _ _ _ (On.R x1)) ((le_Int64S).2 _ _ _ _ (On.R y1))) (fun _ _ => ?_)
  refine KW.cF rfl rfl (by first | (simp; done) | decide) ?_
  refine KW.callN1 rfl rfl rfl rfl rfl (to_Int64S hB2 A2.all) (fun v Hy2 Sy2 my2 _ _ hv => ?_)
  obtain ⟨y2_0, y2c_0, rfl, y2⟩ := hv
  refine KW.callE rfl rfl rfl rfl rfl (eq_Int64S hB2 ((le_Int64S).2 _ _ _ _ (On.R x2)) ((le_Int64S).2 _ _ _ _ (On.R y2))) (fun _ _ => ?_)
  refine KW.cF rfl rfl (by first | (simp; done) | decide) ?_
  have A0 : Fk _ _ Sy2 Hy2 _ _ := A0.up
  have A1 : Fk _ _ Sy2 Hy2 _ _ := A1.up
  have A2 : Fk _ _ Sy2 Hy2 _ _ := A2.up
  have X0 : Fk _ _ Sy2 Hy2 _ _ := Fk.on x0
  have X1 : Fk _ _ Sy2 Hy2 _ _ := Fk.on x1
  have X2 : Fk _ _ Sy2 Hy2 _ _ := Fk.on x2
  have W : Fk _ _ Sy2 Hy2 _ _ := Fk.on w
  have G : Fk _ _ Sy2 Hy2 _ _ := Fk.on g
  have T : St (Low H.n) H Sy2 Hy2 := (inferInstance : On (Low H.n) H Sy2 Hy2).st
  refine KW.callW X0.i rfl rfl rfl rfl rfl (mark_Scheme hB0 (k := 1) (by have := size_Scheme hB0;  constructor <;> omega) X0.i X0.r) (fun v Hk0 Sk0 mk0 tk0 _ hv => ?_)
  obtain ⟨rfl, _⟩ := hv
  have A0 := A0.w tk0 (fun id p q => by have : id < H.n := p; have := q.1; have := q.2; omega)
  have A1 := A1.w tk0 (fun id p q => by have : id < H.n := p; have := q.1; have := q.2; omega)
  have A2 := A2.w tk0 (fun id p q => by have : id < H.n := p; have := q.1; have := q.2; omega)
  have X1 := X1.w tk0 (fun id p q => by have := p.1; have := p.2; have := q.1; have := q.2; omega)
  have X2 := X2.w tk0 (fun id p q => by have := p.1; have := p.2; have := q.1; have := q.2; omega)
  have W := W.w tk0 (fun id p q => by have := p.1; have := p.2; have := q.1; have := q.2; omega)
  have G := G.w tk0 (fun id p q => by have := p.1; have := p.2; have := q.1; have := q.2; omega)
  have T := tk0.low T (fun id p q => by have := q.1; omega)
  refine KW.callW X1.i rfl rfl rfl rfl rfl (mark_Int64S hB1 (k := 1 + (sz_Scheme ar0 : Nat)) (by have := size_Int64S hB1; have := size_Scheme hB0; constructor <;> omega) X1.i X1.r) (fun v Hk1 Sk1 mk1 tk1 _ hv => ?_)
  obtain ⟨rfl, _⟩ := hv
  have A0 := A0.w tk1 (fun id p q => by have : id < H.n := p; have := q.1; have := q.2; omega)
  have A1 := A1.w tk1 (fun id p q => by have : id < H.n := p; have := q.1; have := q.2; omega)
  have A2 := A2.w tk1 (fun id p q => by have : id < H.n := p; have := q.1; have := q.2; omega)
  have X2 := X2.w tk1 (fun id p q => by have := p.1; have := p.2; have := q.1; have := q.2; omega)
  have W := W.w tk1 (fun id p q => by have := p.1; have := p.2; have := q.1; have := q.2; omega)
  have G := G.w tk1 (fun id p q => by have := p.1; have := p.2; have := q.1; have := q.2; omega)
  have T := tk1.low T (fun id p q => by have := q.1; omega)
  refine KW.callW X2.i rfl rfl rfl rfl rfl (mark_Int64S hB2 (k := 1 + (sz_Scheme ar0 : Nat) + (sz_Int64S ar1 : Nat)) (by have := size_Int64S hB2; have := size_Scheme hB0; have := size_Int64S hB1; constructor <;> omega) X2.i X2.r) (fun v Hk2 Sk2 mk2 tk2 _ hv => ?_)
  obtain ⟨rfl, _⟩ := hv
  have A0 := A0.w tk2 (fun id p q => by have : id < H.n := p; have := q.1; have := q.2; omega)
  have A1 := A1.w tk2 (fun id p q => by have : id < H.n := p; have := q.1; have := q.2; omega)
  have A2 := A2.w tk2 (fun id p q => by have : id < H.n := p; have := q.1; have := q.2; omega)
  have W := W.w tk2 (fun id p q => by have := p.1; have := p.2; have := q.1; have := q.2; omega)
  have G := G.w tk2 (fun id p q => by have := p.1; have := p.2; have := q.1; have := q.2; omega)
  have T := tk2.low T (fun id p q => by have := q.1; omega)
  refine KW.tno rfl rfl (by omega) ?_
  refine KW.callE rfl rfl rfl rfl rfl (eq_Int64S hBr ((le_Int64S).2 _ _ _ _ G.all) ((le_Int64S).2 _ _ _ _ W.all)) (fun _ _ => ?_)
  refine KW.tF rfl rfl (by first | (simp; done) | decide) ?_
  refine KW.cF rfl rfl (by first | (simp; done) | decide) ?_
  refine KW.callW G.i rfl rfl rfl rfl rfl (mark_Int64S hBr (k := 1) (by have := size_Int64S hBr; constructor <;> omega) G.i G.r) (fun v HM SM mM tM _ hv => ?_)
  obtain ⟨rfl, G1⟩ := hv
  have A0 := A0.w tM (fun id p q => by have : id < H.n := p; have := q.1; have := q.2; omega)
  have A1 := A1.w tM (fun id p q => by have : id < H.n := p; have := q.1; have := q.2; omega)
  have A2 := A2.w tM (fun id p q => by have : id < H.n := p; have := q.1; have := q.2; omega)
  have W := W.w tM (fun id p q => by have := p.1; have := p.2; have := q.1; have := q.2; omega)
  have T := tM.low T (fun id p q => by have := q.1; omega)
  have G1 : Fk _ _ SM HM _ _ := ⟨G1, fun id p => (tM id (G.i id p)).1⟩
  refine KW.callE rfl rfl rfl rfl rfl (held_Int64S' hBr (k := 1) (by have := size_Int64S hBr; constructor <;> omega) ((le_Int64S).2 _ _ _ _ G1.all)) (fun _ _ => ?_)
  refine KW.no rfl rfl (by omega) ?_
  refine KW.cF rfl rfl (by first | (simp; done) | decide) ?_
  refine KW.callN1 rfl rfl rfl rfl rfl (to_Scheme hB0 A0.all) (fun v Hu0 Su0 mu0 _ _ hv => ?_)
  obtain ⟨wu0, rfl, u0⟩ := hv
  obtain ⟨u0_0, u0c_0, u0_1, u0c_1, rfl⟩ := formM_Scheme u0
  refine KW.callN1 rfl rfl rfl rfl rfl (to_Int64S hB1 A1.all) (fun v Hu1 Su1 mu1 _ _ hv => ?_)
  obtain ⟨u1_0, u1c_0, rfl, u1⟩ := hv
  refine KW.callN1 rfl rfl rfl rfl rfl (to_Int64S hB2 A2.all) (fun v Hu2 Su2 mu2 _ _ hv => ?_)
  obtain ⟨u2_0, u2c_0, rfl, u2⟩ := hv
  refine KW.callN1 rfl rfl rfl rfl rfl (cimpl ((le_Scheme).2 _ _ _ _ (On.R u0)) ((le_Int64S).2 _ _ _ _ (On.R u1)) ((le_Int64S).2 _ _ _ _ (On.R u2))) (fun v Hh Sh mh _ _ hv => ?_)
  obtain ⟨h_0, hc_0, rfl, h⟩ := hv
  refine KW.callE rfl rfl rfl rfl rfl (eq_Int64S hBr ((le_Int64S).2 _ _ _ _ (On.R h)) ((le_Int64S).2 _ _ _ _ W.all)) (fun _ _ => ?_)
  refine KW.tF rfl rfl (by first | (simp; done) | decide) ?_
  refine KW.cF rfl rfl (by first | (simp; done) | decide) ?_
  refine KW.callE rfl rfl rfl rfl rfl (held_Int64S' hBr (k := 1) (by have := size_Int64S hBr; constructor <;> omega) ((le_Int64S).2 _ _ _ _ G1.all)) (fun _ _ => ?_)
  refine KW.no rfl rfl (by omega) ?_
  refine KW.cF rfl rfl (by first | (simp; done) | decide) ?_
  exact KW.retM rfl rfl rfl rfl (fun id hid => (T.trans (inferInstance : On SM HM _ _).st) id hid) (fun H1 g => rfl)
end
end Go.Proofs.Ytmkpfllbmdahkaa.Am
/- A row's closed facts, each by itself. No condition beyond them. -/
namespace Go.Proofs.Ytmkpfllbmdahkaa.Am
open Go
theorem joined_of {P : Program} {f : FuncId} {fn : Func} {s : ChangeSpec} {c : OpenClaim}
    (h0 : (c.wf (OpenSpec.ofChange s)) = true)
    (h1 : (laidOutB P) = true)
    (h2 : (mapsRowed P) = true)
    (h3 : (fn.params.all (P.readableRec ·)) = true)
    (h4 : (namedTie P c.named s.vars) = true)
    (h5 : ((c.stops == [])) = true)
    (h6 : ((P.stops == [])) = true)
    (h7 : ((c.knobs == [])) = true)
    (h8 : ((P.stopKnobs == [])) = true)
    (h9 : ((c.inPlace == P.inPlace f)) = true)
    (h10 : ((c.unfollowed == P.unfollowed f)) = true)
    (h11 : ((c.recurses == P.recurses f)) = true)
    (h12 : ((c.named == P.varsNamed f)) = true)
    (h13 : ((c.maps == (fn.params.toList ++ s.plain.varTypes P).any (P.mapsRec ·))) = true)
    (h14 : ((c.ifaces == (fn.params.toList ++ s.plain.varTypes P).any (P.ifacesRec ·))) = true)
    (h15 : ((c.mapsOut == P.mapsAmong fn.resultTypes.toList)) = true)
    (h16 : ((c.loops == (fn.params.toList ++ s.plain.varTypes P).any (P.loopsFrom ·))) = true)
    (h17 : ((c.wideKeys == (fn.params.toList ++ s.plain.varTypes P ++ fn.resultTypes.toList).any (P.wideKeysFrom ·))) = true)
    (h18 : (s.vars.all (P.varReadable ·)) = true)
    (h19 : (fn.resultTypes.all (fun t => P.readableRec t && decide (t < P.types.size))) = true)
    (h20 : ((c.ifacesOut == fn.resultTypes.toList.any (P.ifacesRec ·))) = true)
    (h21 : ((c.loopsOut == fn.resultTypes.toList.any (P.loopsFrom ·))) = true)
    (h22 : ((c.plainKeys == P.plainKeys)) = true)
    (h23 : (c.shortTexts.isNone) = true)
    (h24 : (P.stopsHeard) = true)
    (h25 : (P.mayEnter) = true)
    (h26 : ((c.lifted == P.liftsFinal)) = true)
    (h27 : ((P.make == some c.make)) = true)
    (h28 : ((c.kinds == (if c.domain.isEmpty then [] else fn.params.toList.map fun t => match P.underlying t with | some (.int k) => some k | _ => none))) = true)
    (h29 : ((c.pinned == c.pinnedBy)) = true)
    (h30 : ((c.veiled == (fn.params.toList ++ s.plain.varTypes P ++ fn.resultTypes.toList).any (P.veiledRec ·))) = true)
    (h31 : (c.veiledFits P fn.params.toList (fn.params.toList ++ s.plain.varTypes P ++ fn.resultTypes.toList)) = true)
    : joinedFacts P f fn s c = true := by
  unfold joinedFacts
  simp only [Bool.and_eq_true]
  exact ⟨⟨⟨⟨⟨⟨⟨⟨⟨⟨⟨⟨⟨⟨⟨⟨⟨⟨⟨⟨⟨⟨⟨⟨⟨⟨⟨⟨⟨⟨⟨h0, h1⟩, h2⟩, h3⟩, h4⟩, h5⟩, h6⟩, h7⟩, h8⟩, h9⟩, h10⟩, h11⟩, h12⟩, h13⟩, h14⟩, h15⟩, h16⟩, h17⟩, h18⟩, h19⟩, h20⟩, h21⟩, h22⟩, h23⟩, h24⟩, h25⟩, h26⟩, h27⟩, h28⟩, h29⟩, h30⟩, h31⟩
end Go.Proofs.Ytmkpfllbmdahkaa.Am
