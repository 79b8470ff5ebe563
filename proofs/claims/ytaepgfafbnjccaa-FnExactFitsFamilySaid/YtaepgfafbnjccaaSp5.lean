/- Contracts: families and their validity. Each holds under its own conditions. -/
import Derived.Test.YtaepgfafbnjccaaPm2
set_option linter.unusedVariables false
set_option maxRecDepth 20000
namespace Go.Proofs.Ytaepgfafbnjccaa.Am
open Go Go.RowKit Go.Proofs
section
variable {S : Ids} {H0 : AH}
theorem l01Before {a c a' c'} {xs ys : List Int} (hl : xs.length ≤ 1048576) (hs : (Kn.int .i64).Sl S H0 (.slice a xs.length c) xs) (hs' : (Kn.int .i64).Sl S H0 (.slice a' ys.length c') ys) :
    Spec Try.prog S H0 168 [.slice a xs.length c, .slice a' ys.length c'] (fun v => v = .bool (lexB xs ys)) := by
  refine Spec.of Try.func168 rfl (by kernel_rfl) rfl (fun H hfin hfz => ?_)
  have hs := hs.to hfz
  have hs' := hs'.to hfz
  refine KW.lp rfl rfl (fun i : Nat => [(0, .slice a xs.length c), (1, .slice a' ys.length c'), (5, .int .i64 i)]) (fun i => i ≤ xs.length ∧ i ≤ ys.length ∧ lexB xs ys = lexB (xs.drop i) (ys.drop i)) (fun i => xs.length - i) 0 ⟨by omega, by omega, rfl⟩ ⟨rfl, rfl, rfl, trivial⟩ (fun i hi b n => ?_)
  obtain ⟨hi, hi', hj⟩ := hi
  have fin : (i = xs.length ∨ i = ys.length) → aout [Value.bool (decide ((xs.length : Int) < ys.length))] = .bool (lexB xs ys) := fun h => by
    rw [hj, lexB_end h hi hi']
    show Value.bool _ = _
    congr 1
    simp
  refine KW.tst rfl rfl (fun h => ?_) (fun h => ?_)
  · refine KW.cnd rfl rfl (fun h2 => ?_) (fun h2 => KW.ret rfl rfl rfl rfl (fin (.inr (by omega))))
    refine KW.getI hs rfl rfl rfl rfl rfl rfl rfl rfl rfl rfl rfl rfl rfl rfl rfl rfl (by omega) (by omega) (fun x hx => ?_)
    have hx : xs[i]? = some x := hx
    refine KW.getI hs' rfl rfl rfl rfl rfl rfl rfl rfl rfl rfl rfl rfl rfl rfl rfl rfl (by omega) (by omega) (fun y hy => ?_)
    have hy : ys[i]? = some y := hy
    have e := lexB_self_step hx hy
    refine KW.cndB rfl rfl (fun h3 => ?_) (fun h3 => ?_)
    · refine KW.getI hs rfl rfl rfl rfl rfl rfl rfl rfl rfl rfl rfl rfl rfl rfl rfl rfl (by omega) (by omega) (fun x1 hx1 => ?_)
      obtain rfl : x = x1 := by have : xs[i]? = some x1 := hx1; rw [hx] at this; cases this; rfl
      refine KW.getI hs' rfl rfl rfl rfl rfl rfl rfl rfl rfl rfl rfl rfl rfl rfl rfl rfl (by omega) (by omega) (fun y1 hy1 => ?_)
      obtain rfl : y = y1 := by have : ys[i]? = some y1 := hy1; rw [hy] at this; cases this; rfl
      refine KW.ret rfl rfl rfl rfl ?_
      have h3 : ¬ x = y := by simpa using h3
      show Value.bool (decide (x < y)) = _
      rw [hj, e, if_neg h3]
    · have h3 : x = y := by simpa using h3
      exact KW.nxt rfl rfl (fun H g => ⟨i + 1, ⟨by omega, by omega, by rw [hj, e, if_pos h3]⟩, by omega, ⟨rfl, rfl, congrArg (Value.int .i64) (inc64 (by omega)), trivial⟩, g⟩)
  · exact KW.cndB rfl rfl (fun h => absurd h (by decide)) (fun _ => KW.ret rfl rfl rfl rfl (fin (.inl (by omega))))
theorem isNaN (x : Int) : Spec Try.prog S H0 172 [.int .i64 x] (fun v => v = .bool false) := by
  refine Spec.of Try.func172 rfl (by kernel_rfl) rfl (fun H hfin hfz => ?_)
  refine KW.ret rfl rfl rfl rfl ?_
  show Value.bool (x != x) = _
  simp
theorem cmpCompare (x y : Int) : Spec Try.prog S H0 170 [.int .i64 x, .int .i64 y] (fun v => v = .int .i64 (if x < y then -1 else if x > y then 1 else 0)) := by
  refine Spec.of Try.func170 rfl (by kernel_rfl) rfl (fun H hfin hfz => ?_)
  refine KW.callE rfl rfl rfl rfl rfl (isNaN _) (fun _ _ => ?_)
  refine KW.callE rfl rfl rfl rfl rfl (isNaN _) (fun _ _ => ?_)
  refine KW.cndB rfl rfl (fun h => absurd h (by decide)) (fun _ => ?_)
  refine KW.cndB rfl rfl (fun h => absurd h (by decide)) (fun _ => ?_)
  refine KW.cnd rfl rfl (fun h => KW.ret rfl rfl rfl rfl ?_) (fun h => ?_)
  · rw [if_pos h]; rfl
  refine KW.cnd rfl rfl (fun h2 => KW.ret rfl rfl rfl rfl ?_) (fun h2 => KW.ret rfl rfl rfl rfl ?_)
  · rw [if_neg h, if_pos h2]; rfl
  · rw [if_neg h, if_neg h2]; rfl
theorem slicesCompare {a c a' c'} {xs ys : List Int} (hl : xs.length ≤ 1048576) (hs : (Kn.int .i64).Sl S H0 (.slice a xs.length c) xs) (hs' : (Kn.int .i64).Sl S H0 (.slice a' ys.length c') ys) :
    Spec Try.prog S H0 162 [.slice a xs.length c, .slice a' ys.length c'] (fun v => ∃ r : Int, v = .int .i64 r ∧ (r ≥ 0 ↔ lexB xs ys = false)) := by
  refine Spec.of Try.func162 rfl (by kernel_rfl) rfl (fun H hfin hfz => ?_)
  have hs := hs.to hfz
  have hs' := hs'.to hfz
  refine KW.lp rfl rfl (fun i : Nat => [(0, .slice a xs.length c), (1, .slice a' ys.length c'), (9, .slice a xs.length c), (10, .int .i64 xs.length), (11, .int .i64 i)]) (fun i => i ≤ xs.length ∧ i ≤ ys.length ∧ lexB xs ys = lexB (xs.drop i) (ys.drop i)) (fun i => xs.length - i) 0 ⟨by omega, by omega, rfl⟩ ⟨rfl, rfl, rfl, rfl, rfl, trivial⟩ (fun i hi b n => ?_)
  obtain ⟨hi, hi', hj⟩ := hi
  refine KW.cnd rfl rfl (fun h => ?_) (fun h => ?_)
  · refine KW.getI hs rfl rfl rfl rfl rfl rfl rfl rfl rfl rfl rfl rfl rfl rfl rfl rfl (by omega) (by omega) (fun x hx => ?_)
    have hx : xs[i]? = some x := hx
    refine KW.cnd rfl rfl (fun h2 => KW.ret rfl rfl rfl rfl ⟨1, rfl, ?_⟩) (fun h2 => ?_)
    · rw [hj, lexB_end (.inr (by omega)) hi hi']
      simp
      omega
    refine KW.getI hs' rfl rfl rfl rfl rfl rfl rfl rfl rfl rfl rfl rfl rfl rfl rfl rfl (by omega) (by omega) (fun y hy => ?_)
    have hy : ys[i]? = some y := hy
    have e := lexB_self_step hx hy
    refine KW.callE rfl rfl rfl rfl rfl (cmpCompare _ _) (fun _ _ => ?_)
    refine KW.cndB rfl rfl (fun h3 => KW.ret rfl rfl rfl rfl ⟨_, rfl, ?_⟩) (fun h3 => ?_)
    · rw [hj, e]
      by_cases h4 : x = y
      · subst h4; simp at h3
      · rw [if_neg h4]
        by_cases h5 : x < y
        · rw [if_pos h5]; simp [h5]
        · rw [if_neg h5, if_pos (by omega)]; simp; omega
    · have h3 : x = y := by
        by_cases h5 : x < y
        · rw [if_pos h5] at h3; simp at h3
        · rw [if_neg h5] at h3
          by_cases h6 : x > y
          · rw [if_pos h6] at h3; simp at h3
          · omega
      exact KW.nxt rfl rfl (fun H g => ⟨i + 1, ⟨by omega, by omega, by rw [hj, e, if_pos h3]⟩, by omega, ⟨rfl, rfl, rfl, rfl, congrArg (Value.int .i64) (inc64 (by omega)), trivial⟩, g⟩)
  · have e := lexB_end (a := xs) (b := ys) (i := i) (.inl (by omega)) hi hi'
    refine KW.cnd rfl rfl (fun h2 => KW.ret rfl rfl rfl rfl ⟨-1, rfl, ?_⟩) (fun h2 => KW.ret rfl rfl rfl rfl ⟨0, rfl, ?_⟩)
    · rw [hj, e]; simp; omega
    · rw [hj, e]; simp; omega
theorem l00Rises (lo hi : Int) {a c} {xs : List Int} (hl : xs.length ≤ 1048576) (hs : (Kn.int .i64).Sl S H0 (.slice a xs.length c) xs) : Spec Try.prog S H0 144 [.slice a xs.length c, .int .i64 lo, .int .i64 hi] (fun v => v = .bool (tv (Rises lo hi xs))) := by
  refine Spec.of Try.func144 rfl (by kernel_rfl) rfl (fun H hfin hfz => ?_)
  have hs := hs.to hfz
  refine KW.lp rfl rfl (fun i : Nat => [(0, .slice a xs.length c), (1, .int .i64 lo), (2, .int .i64 hi), (7, .int .i64 i)]) (fun i => i ≤ xs.length ∧ ∀ j, j < i → RiseAt lo hi xs j) (fun i => xs.length - i) 0 ⟨by omega, fun j h => absurd h (by omega)⟩ ⟨rfl, rfl, rfl, rfl, trivial⟩ (fun i hi' b n => ?_)
  obtain ⟨hi', hr⟩ := hi'
  have e1 := inc64 (i := i) (by omega)
  have bad : i < xs.length → ¬ RiseAt lo hi xs i → aout [Value.bool false] = .bool (tv (Rises lo hi xs)) := fun hi hx => by
    rw [tv_false (fun hc => hx (hc i (by omega)))]; rfl
  refine KW.cnd rfl rfl (fun h => ?_) (fun h => KW.ret rfl rfl rfl rfl ?_)
  · refine KW.getI hs rfl rfl rfl rfl rfl rfl rfl rfl rfl rfl rfl rfl rfl rfl rfl rfl (by omega) h (fun y hy => ?_)
    have hy : xs.getD i 0 = y := getD_of hy
    refine KW.callE rfl rfl rfl rfl rfl (l00In _ _ _) (fun n' _ => ?_)
    refine KW.tstB rfl rfl (fun h1 => ?_) (fun h1 => ?_)
    · simp at h1
      refine KW.cndB rfl rfl (fun h => KW.ret rfl rfl rfl rfl (bad (by omega) (fun hx => ?_))) (fun h => absurd h (by decide))
      have := hx.1; omega
    · have h1 : lo ≤ y ∧ y ≤ hi := by simpa using h1
      refine KW.tst rfl rfl (fun h2 => ?_) (fun h2 => ?_)
      · have e2 : IntKind.i64.wrap ((i : Int) - 1) = ((i - 1 : Nat) : Int) := by rw [wr (by omega) (by omega)]; omega
        refine KW.getI hs rfl rfl rfl rfl rfl rfl rfl rfl rfl rfl rfl rfl rfl rfl rfl rfl (by rw [e2]; omega) (by rw [e2]; omega) (fun z hz => ?_)
        rw [e2] at hz
        have hz : xs.getD (i - 1) 0 = z := getD_of hz
        refine KW.getI hs rfl rfl rfl rfl rfl rfl rfl rfl rfl rfl rfl rfl rfl rfl rfl rfl (by omega) (by omega) (fun y1 hy1 => ?_)
        obtain rfl : y = y1 := hy.symm.trans (getD_of hy1)
        refine KW.cnd rfl rfl (fun h3 => KW.ret rfl rfl rfl rfl (bad (by omega) (fun hx => ?_))) (fun h3 => ?_)
        · have := hx.2 (by omega); omega
        · exact KW.nxt rfl rfl (fun H g => ⟨i + 1, ⟨by omega, upto hr ⟨by omega, fun _ => by omega⟩⟩, by omega, ⟨rfl, rfl, rfl, congrArg (Value.int .i64) e1, trivial⟩, g⟩)
      · refine KW.cndB rfl rfl (fun h => absurd h (by decide)) (fun _ => ?_)
        exact KW.nxt rfl rfl (fun H g => ⟨i + 1, ⟨by omega, upto hr ⟨by omega, fun _ => by omega⟩⟩, by omega, ⟨rfl, rfl, rfl, congrArg (Value.int .i64) e1, trivial⟩, g⟩)
  · rw [tv_true (p := Rises lo hi xs) (fun j hj => hr j (by omega))]; rfl
theorem l01Group (m : Int) {a c} {xs : List Int} (hl : xs.length ≤ 1048576) (hm : -9223372036854775807 ≤ m ∧ m ≤ 9223372036854775807) (hs : (Kn.int .i64).Sl S H0 (.slice a xs.length c) xs) : Spec Try.prog S H0 167 [.int .i64 m, .slice a xs.length c] (fun v => v = .bool (tv (Rises 0 (m - 1) xs))) := by
  refine Spec.of Try.func167 rfl (by kernel_rfl) rfl (fun H hfin hfz => ?_)
  have e : IntKind.i64.wrap (m - 1) = m - 1 := wr (by omega) (by omega)
  refine KW.callE rfl rfl rfl rfl rfl (by have := l00Rises 0 (IntKind.i64.wrap (m - 1)) hl (hs.to hfz); rw [e] at this ⊢; exact this) (fun n' _ => ?_)
  exact KW.ret rfl rfl rfl rfl rfl
theorem l01Bits {m : Nat} (hm : m ≤ 8) {a c} {xs : List Int} (hl : xs.length ≤ 1048576) (hx : ∀ x ∈ xs, 0 ≤ x ∧ x < m) (hs : (Kn.int .i64).Sl S H0 (.slice a xs.length c) xs) : Spec Try.prog S H0 171 [.slice a xs.length c] (fun v => v = .int .i64 (bitsOf xs : Nat)) := by
  refine Spec.of Try.func171 rfl (by kernel_rfl) rfl (fun H hfin hfz => ?_)
  have hs := hs.to hfz
  refine KW.lp rfl rfl (fun i : Nat => [(0, .slice a xs.length c), (3, .int .i64 (bitsOf (xs.take i) : Nat)), (4, .int .i64 i)]) (fun i => i ≤ xs.length) (fun i => xs.length - i) 0 (by omega) ⟨rfl, rfl, rfl, trivial⟩ (fun i hi b n => ?_)
  refine KW.cnd rfl rfl (fun h => ?_) (fun h => KW.ret rfl rfl rfl rfl ?_)
  · obtain ⟨r, e, hr, hb, hp⟩ := step_small hm hx i (by omega)
    refine KW.getI hs rfl rfl rfl rfl rfl rfl rfl rfl rfl rfl rfl rfl rfl rfl rfl rfl (by omega) h (fun y hy => ?_)
    obtain rfl : y = (r : Int) := by rw [← e]; exact (getD_of hy).symm
    refine KW.shlI rfl rfl rfl rfl rfl rfl r (wru (by omega) (by omega)) (by omega) ?_
    have e2 : IntKind.i64.wrap ((BitVec.ofInt IntKind.i64.bits ((bitsOf (xs.take i) : Nat) : Int) ||| BitVec.ofInt IntKind.i64.bits ((2 ^ r : Nat) : Int)).toNat : Int) = ((bitsOf (xs.take (i + 1)) : Nat) : Int) := by
      rw [or_i64 (by omega) (by omega), bits_take xs i (by omega), e]; rfl
    exact KW.nxt rfl rfl (fun H g => ⟨i + 1, by omega, by omega, ⟨rfl, congrArg (Value.int .i64) e2, congrArg (Value.int .i64) (inc64 (by omega)), trivial⟩, g⟩)
  · show Value.int .i64 (bitsOf (xs.take i) : Nat) = _
    rw [List.take_of_length_le (by omega)]
theorem l01Within {m : Nat} (hm : m ≤ 7) {a c a' c'} {xs ys : List Int} (hl : xs.length ≤ 1048576) (hl' : ys.length ≤ 1048576) (hx : ∀ x ∈ xs, 0 ≤ x ∧ x < m) (hy : ∀ x ∈ ys, 0 ≤ x ∧ x < m) (hs : (Kn.int .i64).Sl S H0 (.slice a xs.length c) xs) (hs' : (Kn.int .i64).Sl S H0 (.slice a' ys.length c') ys) :
    Spec Try.prog S H0 169 [.slice a xs.length c, .slice a' ys.length c'] (fun v => v = .bool (tv (bitsOf xs &&& bitsOf ys = bitsOf xs))) := by
  refine Spec.of Try.func169 rfl (by kernel_rfl) rfl (fun H hfin hfz => ?_)
  have b1 : bitsOf xs < 2 ^ m := bitsOf_lt (fun x h => by have := hx x h; omega)
  have b2 : bitsOf ys < 2 ^ m := bitsOf_lt (fun x h => by have := hy x h; omega)
  have hp := small_pow (m := m) (by omega)
  refine KW.callE rfl rfl rfl rfl rfl (l01Bits (by omega) hl hx (hs.to hfz)) (fun n' _ => ?_)
  refine KW.callE rfl rfl rfl rfl rfl (l01Bits (by omega) hl' hy (hs'.to hfz)) (fun n' _ => ?_)
  refine KW.ret rfl rfl rfl rfl ?_
  show Value.bool (IntKind.i64.wrap ((BitVec.ofInt IntKind.i64.bits ((bitsOf xs : Nat) : Int) &&& BitVec.ofInt IntKind.i64.bits ((bitsOf ys : Nat) : Int)).toNat : Int) == ((bitsOf xs : Nat) : Int)) = _
  rw [and_i64 (by omega) (by omega)]
  congr 1
  by_cases h : bitsOf xs &&& bitsOf ys = bitsOf xs
  · rw [tv_true h, h]; simp
  · rw [tv_false h]; simp; omega
end
end Go.Proofs.Ytaepgfafbnjccaa.Am
