/- Contracts: small functions and groups. Each holds under its own conditions. -/
import Derived.Test.YtaepgfafbnjccaaProg
import Derived.Test.YtaepgfafbnjccaaPm1
set_option linter.unusedVariables false
set_option maxRecDepth 20000
namespace Go.Proofs.Ytaepgfafbnjccaa.Am
open Go Go.RowKit Go.Proofs
section
variable {S : Ids} {H0 : AH}
theorem within (n lo hi : Int) : Spec Try.prog S H0 68 [.int .i64 n, .int .i64 lo, .int .i64 hi] (fun v => v = .bool (decide (lo ≤ n ∧ n ≤ hi))) := by
  refine Spec.of Try.func68 rfl (by kernel_rfl) rfl (fun H hfin hfz => ?_)
  refine KW.tst rfl rfl (fun h => KW.ret rfl rfl rfl rfl ?_) (fun h => KW.ret rfl rfl rfl rfl ?_)
  · show Value.bool (decide (n ≤ hi)) = _
    have h : lo ≤ n := h
    simp [h]
  · show Value.bool false = _
    have h : ¬ lo ≤ n := h
    simp [h]
theorem l00In (n lo hi : Int) : Spec Try.prog S H0 127 [.int .i64 n, .int .i64 lo, .int .i64 hi] (fun v => v = .bool (decide (lo ≤ n ∧ n ≤ hi))) := by
  refine Spec.of Try.func127 rfl (by kernel_rfl) rfl (fun H hfin hfz => ?_)
  refine KW.tst rfl rfl (fun h => KW.ret rfl rfl rfl rfl ?_) (fun h => KW.ret rfl rfl rfl rfl ?_)
  · show Value.bool (decide (n ≤ hi)) = _
    have h : lo ≤ n := h
    simp [h]
  · show Value.bool false = _
    have h : ¬ lo ≤ n := h
    simp [h]
theorem isGroup (m : Int) {a c} {xs : List Int} (hl : xs.length ≤ 4611686018427387904) (hm : -9223372036854775807 ≤ m ∧ m ≤ 9223372036854775807) (hs : (Kn.int .i64).Sl S H0 (.slice a xs.length c) xs) : Spec Try.prog S H0 149 [.int .i64 m, .slice a xs.length c] (fun v => v = .bool (tv (Rises 0 (m - 1) xs))) := by
  refine Spec.of Try.func149 rfl (by kernel_rfl) rfl (fun H hfin hfz => ?_)
  have hs := hs.to hfz
  refine KW.lp rfl rfl (fun i : Nat => [(0, .int .i64 m), (1, .slice a xs.length c), (7, .slice a xs.length c), (8, .int .i64 xs.length), (9, .int .i64 i)]) (fun i => i ≤ xs.length ∧ ∀ j, j < i → RiseAt 0 (m - 1) xs j) (fun i => xs.length - i) 0 ⟨by omega, fun j h => absurd h (by omega)⟩ ⟨rfl, rfl, rfl, rfl, rfl, trivial⟩ (fun i hi b n => ?_)
  obtain ⟨hi, hr⟩ := hi
  refine KW.cnd rfl rfl (fun h => ?_) (fun h => KW.ret rfl rfl rfl rfl ?_)
  · refine KW.getI hs rfl rfl rfl rfl rfl rfl rfl rfl rfl rfl rfl rfl rfl rfl rfl rfl (by omega) h (fun y hy => ?_)
    have hy : xs.getD i 0 = y := getD_of hy
    refine KW.callE rfl rfl rfl rfl rfl (within _ _ _) (fun n' _ => ?_)
    rw [wr (by omega) (by omega)]
    have e1 : IntKind.i64.wrap ((i : Int) + 1) = ((i + 1 : Nat) : Int) := by rw [wr (by omega) (by omega)]; rfl
    have next : RiseAt 0 (m - 1) xs i → (i + 1 ≤ xs.length ∧ ∀ j, j < i + 1 → RiseAt 0 (m - 1) xs j) := fun hx => ⟨by omega, fun j hj => by
      rcases Nat.lt_or_ge j i with h | h
      · exact hr j h
      · obtain rfl : j = i := by omega
        exact hx⟩
    have bad : ¬ RiseAt 0 (m - 1) xs i → aout [Value.bool false] = .bool (tv (Rises 0 (m - 1) xs)) := fun hx => by
      rw [tv_false (fun hc => hx (hc i (by omega)))]; rfl
    refine KW.tstB rfl rfl (fun h1 => ?_) (fun h1 => ?_)
    · simp at h1
      refine KW.cndB rfl rfl (fun h => ?_) (fun h => absurd h (by decide))
      refine KW.ret rfl rfl rfl rfl (bad (fun hx => ?_))
      have := hx.1; omega
    · have h1 : 0 ≤ y ∧ y ≤ m - 1 := by simpa using h1
      refine KW.tst rfl rfl (fun h2 => ?_) (fun h2 => ?_)
      · have e2 : IntKind.i64.wrap ((i : Int) - 1) = ((i - 1 : Nat) : Int) := by rw [wr (by omega) (by omega)]; omega
        refine KW.getI hs rfl rfl rfl rfl rfl rfl rfl rfl rfl rfl rfl rfl rfl rfl rfl rfl (by rw [e2]; omega) (by rw [e2]; omega) (fun z hz => ?_)
        rw [e2] at hz
        have hz : xs.getD (i - 1) 0 = z := getD_of hz
        refine KW.cnd rfl rfl (fun h3 => ?_) (fun h3 => ?_)
        · refine KW.ret rfl rfl rfl rfl (bad (fun hx => ?_))
          have := hx.2 (by omega); omega
        · refine KW.nxt rfl rfl (fun H g => ⟨i + 1, next ⟨by omega, fun _ => by omega⟩, by omega, ⟨rfl, rfl, rfl, rfl, congrArg (Value.int .i64) e1, trivial⟩, g⟩)
      · refine KW.cndB rfl rfl (fun h => absurd h (by decide)) (fun _ => ?_)
        refine KW.nxt rfl rfl (fun H g => ⟨i + 1, next ⟨by omega, fun _ => by omega⟩, by omega, ⟨rfl, rfl, rfl, rfl, congrArg (Value.int .i64) e1, trivial⟩, g⟩)
  · rw [tv_true (p := Rises 0 (m - 1) xs) (fun j hj => hr j (by omega))]; rfl
theorem crowdOf {m : Nat} (hm : m ≤ 8) {a c} {xs : List Int} (hl : xs.length ≤ 4611686018427387904) (hx : ∀ x ∈ xs, 0 ≤ x ∧ x < m) (hs : (Kn.int .i64).Sl S H0 (.slice a xs.length c) xs) : Spec Try.prog S H0 102 [.slice a xs.length c] (fun v => v = .int .u64 (bitsOf xs : Nat)) := by
  refine Spec.of Try.func102 rfl (by kernel_rfl) rfl (fun H hfin hfz => ?_)
  have hs := hs.to hfz
  refine KW.lp rfl rfl (fun i : Nat => [(3, .int .u64 (bitsOf (xs.take i) : Nat)), (6, .slice a xs.length c), (7, .int .i64 xs.length), (8, .int .i64 i)]) (fun i => i ≤ xs.length) (fun i => xs.length - i) 0 (by omega) ⟨rfl, rfl, rfl, rfl, trivial⟩ (fun i hi b n => ?_)
  refine KW.cnd rfl rfl (fun h => ?_) (fun h => KW.ret rfl rfl rfl rfl ?_)
  · obtain ⟨r, e, hr, hb, hp⟩ := step_small hm hx i (by omega)
    refine KW.getI hs rfl rfl rfl rfl rfl rfl rfl rfl rfl rfl rfl rfl rfl rfl rfl rfl (by omega) h (fun y hy => ?_)
    obtain rfl : y = (r : Int) := by rw [← e]; exact (getD_of hy).symm
    refine KW.shlU rfl rfl rfl rfl rfl rfl r rfl (by omega) ?_
    have e1 : IntKind.i64.wrap ((i : Int) + 1) = ((i + 1 : Nat) : Int) := by rw [wr (by omega) (by omega)]; rfl
    have e2 : IntKind.u64.wrap ((BitVec.ofInt IntKind.u64.bits ((bitsOf (xs.take i) : Nat) : Int) ||| BitVec.ofInt IntKind.u64.bits ((2 ^ r : Nat) : Int)).toNat : Int) = ((bitsOf (xs.take (i + 1)) : Nat) : Int) := by
      rw [or_u64 (by omega) (by omega), bits_take xs i (by omega), e]; rfl
    exact KW.nxt rfl rfl (fun H g => ⟨i + 1, by omega, by omega, ⟨congrArg (Value.int .u64) e2, rfl, rfl, congrArg (Value.int .i64) e1, trivial⟩, g⟩)
  · show Value.int .u64 (bitsOf (xs.take i) : Nat) = _
    rw [List.take_of_length_le (by omega)]
theorem l07Bits {m : Nat} (hm : m ≤ 8) {a c} {xs : List Int} (hl : xs.length ≤ 4611686018427387904) (hx : ∀ x ∈ xs, 0 ≤ x ∧ x < m) (hs : (Kn.int .i64).Sl S H0 (.slice a xs.length c) xs) : Spec Try.prog S H0 95 [.slice a xs.length c] (fun v => v = .int .i64 (bitsOf xs : Nat)) := by
  refine Spec.of Try.func95 rfl (by kernel_rfl) rfl (fun H hfin hfz => ?_)
  have hs := hs.to hfz
  refine KW.lp rfl rfl (fun i : Nat => [(0, .slice a xs.length c), (3, .int .i64 (bitsOf (xs.take i) : Nat)), (4, .int .i64 i)]) (fun i => i ≤ xs.length) (fun i => xs.length - i) 0 (by omega) ⟨rfl, rfl, rfl, trivial⟩ (fun i hi b n => ?_)
  refine KW.cnd rfl rfl (fun h => ?_) (fun h => KW.ret rfl rfl rfl rfl ?_)
  · obtain ⟨r, e, hr, hb, hp⟩ := step_small hm hx i (by omega)
    refine KW.getI hs rfl rfl rfl rfl rfl rfl rfl rfl rfl rfl rfl rfl rfl rfl rfl rfl (by omega) h (fun y hy => ?_)
    obtain rfl : y = (r : Int) := by rw [← e]; exact (getD_of hy).symm
    have e3 : IntKind.u64.wrap (r : Int) = r := wru (by omega) (by omega)
    refine KW.shlI rfl rfl rfl rfl rfl rfl r e3 (by omega) ?_
    have e1 : IntKind.i64.wrap ((i : Int) + 1) = ((i + 1 : Nat) : Int) := by rw [wr (by omega) (by omega)]; rfl
    have e2 : IntKind.i64.wrap ((BitVec.ofInt IntKind.i64.bits ((bitsOf (xs.take i) : Nat) : Int) ||| BitVec.ofInt IntKind.i64.bits ((2 ^ r : Nat) : Int)).toNat : Int) = ((bitsOf (xs.take (i + 1)) : Nat) : Int) := by
      rw [or_i64 (by omega) (by omega), bits_take xs i (by omega), e]; rfl
    exact KW.nxt rfl rfl (fun H g => ⟨i + 1, by omega, by omega, ⟨rfl, congrArg (Value.int .i64) e2, congrArg (Value.int .i64) e1, trivial⟩, g⟩)
  · show Value.int .i64 (bitsOf (xs.take i) : Nat) = _
    rw [List.take_of_length_le (by omega)]
theorem contains {x y : Nat} (hx : x < 4611686018427387904) (hy : y < 4611686018427387904) : Spec Try.prog S H0 137 [.int .u64 x, .int .u64 y] (fun v => v = .bool (tv (x &&& y = y))) := by
  refine Spec.of Try.func137 rfl (by kernel_rfl) rfl (fun H hfin hfz => ?_)
  refine KW.ret rfl rfl rfl rfl ?_
  show Value.bool (IntKind.u64.wrap ((BitVec.ofInt IntKind.u64.bits (x : Int) &&& BitVec.ofInt IntKind.u64.bits (y : Int)).toNat : Int) == (y : Int)) = _
  rw [and_u64 hx hy]
  congr 1
  by_cases h : x &&& y = y
  · rw [tv_true h, h]; simp
  · rw [tv_false h]; simp; omega
theorem everybody {m : Nat} (hm : m ≤ 40) : Spec Try.prog S H0 108 [.int .i64 m] (fun v => v = .int .u64 ((2 ^ m - 1 : Nat) : Int)) := by
  refine Spec.of Try.func108 rfl (by kernel_rfl) rfl (fun H hfin hfz => ?_)
  refine KW.shlU rfl rfl rfl rfl rfl rfl m rfl hm ?_
  refine KW.ret rfl rfl rfl rfl ?_
  show Value.int .u64 (IntKind.u64.wrap (((2 ^ m : Nat) : Int) - 1)) = _
  obtain ⟨q, h1, h2, h3⟩ := pow_small hm
  have := Nat.two_pow_pos m
  rw [h1] at this ⊢
  rw [wru (by omega) (by omega)]
  congr 1
  omega
end
end Go.Proofs.Ytaepgfafbnjccaa.Am
