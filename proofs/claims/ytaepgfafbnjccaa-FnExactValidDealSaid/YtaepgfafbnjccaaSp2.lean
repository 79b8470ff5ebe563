/- Contracts: ranks and their validity. Each holds under its own conditions. -/
import Derived.Test.YtaepgfafbnjccaaSp1
set_option linter.unusedVariables false
set_option maxRecDepth 20000
namespace Go.Proofs.Ytaepgfafbnjccaa.Am
open Go Go.RowKit Go.Proofs
section
variable {S : Ids} {H0 : AH}
abbrev ranksV (m u : Int) (s : Value) : Value := .agg #[.int .i64 m, .int .i64 u, s]
theorem rank (m u : Int) {a c} {xs : List Int} (j : Nat) (hj : j < xs.length) (hs : (Kn.int .i64).Sl S H0 (.slice a xs.length c) xs) : Spec Try.prog S H0 109 [ranksV m u (.slice a xs.length c), .int .u64 j] (fun v => v = .int .i64 (xs.getD j 0)) := by
  refine Spec.of Try.func109 rfl (by kernel_rfl) rfl (fun H hfin hfz => ?_)
  have hs := hs.to hfz
  refine KW.getI hs rfl rfl rfl rfl rfl rfl rfl rfl rfl rfl rfl rfl rfl rfl rfl rfl (by omega) (by omega) (fun y hy => ?_)
  refine KW.ret rfl rfl rfl rfl ?_
  have hy : xs.getD j 0 = y := getD_of hy
  show Value.int .i64 y = _
  rw [hy]
def Bad (l : List Int) (a b : Nat) : Prop := (a &&& b = a ∧ l.getD a 0 > l.getD b 0) ∨ l.getD a 0 + l.getD b 0 < l.getD (a ||| b) 0 + l.getD (a &&& b) 0
def Within (l : List Int) : Prop := ∀ i, i < l.length → 0 ≤ l.getD i 0 ∧ l.getD i 0 ≤ 100000
def Meets (l : List Int) : Prop := ∀ a, a < l.length → ∀ b, b < l.length → ¬ Bad l a b
theorem inc64 {i : Nat} (h : i < 4611686018427387904) : IntKind.i64.wrap ((i : Int) + 1) = ((i + 1 : Nat) : Int) := by rw [wr (by omega) (by omega)]; rfl
theorem incu64 {i : Nat} (h : i < 4611686018427387904) : IntKind.u64.wrap ((i : Int) + 1) = ((i + 1 : Nat) : Int) := by rw [wru (by omega) (by omega)]; rfl
theorem upto {p : Nat → Prop} {i : Nat} (h : ∀ j, j < i → p j) (hi : p i) : ∀ j, j < i + 1 → p j := fun j hj => by
  rcases Nat.lt_or_ge j i with h1 | h1
  · exact h j h1
  · obtain rfl : j = i := by omega
    exact hi
section
variable {m : Nat} {l : List Int} (hm : m ≤ 8) (hl : l.length = 2 ^ m)
include hm hl
theorem len_le : l.length ≤ 256 := by rw [hl]; exact small_pow hm
omit hm in
theorem and_in {a b : Nat} (hb : b < l.length) : a &&& b < l.length := by rw [hl] at *; exact Nat.and_lt_two_pow _ hb
omit hm in
theorem or_in {a b : Nat} (ha : a < l.length) (hb : b < l.length) : a ||| b < l.length := by rw [hl] at *; exact Nat.or_lt_two_pow ha hb
end
theorem l07Meets {m : Nat} (hm : m ≤ 8) {s c} {l : List Int} (hl : l.length = 2 ^ m) (hw : Within l) (hs : (Kn.int .i64).Sl S H0 (.slice s l.length c) l) : Spec Try.prog S H0 151 [.slice s l.length c] (fun v => v = .bool (tv (Meets l))) := by
  refine Spec.of Try.func151 rfl (by kernel_rfl) rfl (fun H hfin hfz => ?_)
  have hs := hs.to hfz
  have h256 := len_le hm hl
  refine KW.lp rfl rfl (fun a : Nat => [(0, .slice s l.length c), (3, .int .i64 a)]) (fun a => a ≤ l.length ∧ ∀ a', a' < a → ∀ b, b < l.length → ¬ Bad l a' b) (fun a => l.length - a) 0 ⟨by omega, fun j h => absurd h (by omega)⟩ ⟨rfl, rfl, trivial⟩ (fun a ha e n => ?_)
  obtain ⟨ha0, ha⟩ := ha
  refine KW.cnd rfl rfl (fun h => ?_) (fun h => KW.ret rfl rfl rfl rfl ?_)
  · have hal : a < l.length := by omega
    refine KW.lp rfl rfl (fun b : Nat => [(0, .slice s l.length c), (3, .int .i64 a), (4, .int .i64 b)]) (fun b => b ≤ l.length ∧ ∀ b', b' < b → ¬ Bad l a b') (fun b => l.length - b) 0 ⟨by omega, fun j h => absurd h (by omega)⟩ ⟨rfl, rfl, rfl, trivial⟩ (fun b hb e n => ?_)
    obtain ⟨hb0, hb⟩ := hb
    refine KW.cnd rfl rfl (fun h => ?_) (fun h => ?_)
    · have hbl : b < l.length := by omega
      have eo := or_i64 (a := a) (b := b) (by omega) (by omega)
      have ea := and_i64 (a := a) (b := b) (by omega) (by omega)
      have ho := or_in hl hal hbl
      have hn := and_in (a := a) hl hbl
      have w1 := hw a hal
      have w2 := hw b hbl
      have w3 := hw _ ho
      have w4 := hw _ hn
      have bad : Bad l a b → aout [Value.bool false] = .bool (tv (Meets l)) := fun hx => by rw [tv_false (fun hc => hc a hal b hbl hx)]; rfl
      refine KW.tstB rfl rfl (fun h1 => ?g1) (fun h1 => ?g2)
      case' g1 =>
        have h1 : a &&& b = a := by rw [ea] at h1; simp at h1; omega
        refine KW.getI hs rfl rfl rfl rfl rfl rfl rfl rfl rfl rfl rfl rfl rfl rfl rfl rfl (by omega) (by omega) (fun x hx => ?_)
        have hx : l.getD a 0 = x := getD_of hx
        refine KW.getI hs rfl rfl rfl rfl rfl rfl rfl rfl rfl rfl rfl rfl rfl rfl rfl rfl (by omega) (by omega) (fun y hy => ?_)
        have hy : l.getD b 0 = y := getD_of hy
        refine KW.tst rfl rfl (fun h2 => KW.cndB rfl rfl (fun _ => KW.ret rfl rfl rfl rfl (bad (.inl ⟨h1, by rw [hx, hy]; exact h2⟩))) (fun h => absurd h (by decide))) (fun h2 => ?_)
        have h0 : ¬ (a &&& b = a ∧ l.getD a 0 > l.getD b 0) := fun hc => h2 (by rw [hx, hy] at hc; exact hc.2)
        clear h1 h2 hx hy
      case' g2 =>
        have h0 : ¬ (a &&& b = a ∧ l.getD a 0 > l.getD b 0) := fun hc => by rw [ea, hc.1] at h1; simp at h1
        refine KW.tstB rfl rfl (fun h => absurd h (by decide)) (fun _ => ?_)
      all_goals
        refine KW.getI hs rfl rfl rfl rfl rfl rfl rfl rfl rfl rfl rfl rfl rfl rfl rfl rfl (by omega) (by omega) (fun x hx => ?_)
        have hx : l.getD a 0 = x := getD_of hx
        refine KW.getI hs rfl rfl rfl rfl rfl rfl rfl rfl rfl rfl rfl rfl rfl rfl rfl rfl (by omega) (by omega) (fun y hy => ?_)
        have hy : l.getD b 0 = y := getD_of hy
        refine KW.getI hs rfl rfl rfl rfl rfl rfl rfl rfl rfl rfl rfl rfl rfl rfl rfl rfl (by rw [eo]; omega) (by rw [eo]; omega) (fun z hz => ?_)
        rw [eo] at hz
        have hz : l.getD (a ||| b) 0 = z := getD_of hz
        refine KW.getI hs rfl rfl rfl rfl rfl rfl rfl rfl rfl rfl rfl rfl rfl rfl rfl rfl (by rw [ea]; omega) (by rw [ea]; omega) (fun w hw' => ?_)
        rw [ea] at hw'
        have hw' : l.getD (a &&& b) 0 = w := getD_of hw'
        rw [hx] at w1; rw [hy] at w2; rw [hz] at w3; rw [hw'] at w4
        have e5 : IntKind.i64.wrap (x + y) = x + y := wr (by omega) (by omega)
        have e6 : IntKind.i64.wrap (z + w) = z + w := wr (by omega) (by omega)
        refine KW.cnd rfl rfl (fun h2 => KW.ret rfl rfl rfl rfl (bad (.inr ?_))) (fun h2 => ?_)
        · rw [hx, hy, hz, hw', ← e5, ← e6]; exact h2
        · rw [e5, e6] at h2
          refine KW.nxt rfl rfl (fun H g => ⟨b + 1, ⟨by omega, upto hb (fun hc => ?_)⟩, by omega, ⟨rfl, rfl, congrArg (Value.int .i64) (inc64 (by omega)), trivial⟩, g⟩)
          rcases hc with hc | hc
          · exact h0 hc
          · rw [hx, hy, hz, hw'] at hc; exact h2 hc
    · refine KW.nxt rfl rfl (fun H g => ⟨a + 1, ⟨by omega, upto ha (fun b' hb' => hb b' (by omega))⟩, by omega, ⟨rfl, congrArg (Value.int .i64) (inc64 (by omega)), trivial⟩, g⟩)
  · rw [tv_true (p := Meets l) (fun a' ha' => ha a' (by omega))]; rfl
def OkR (h u : Int) (l : List Int) : Prop := (1 ≤ h ∧ h ≤ 5) ∧ (1 ≤ u ∧ u ≤ 100000) ∧ l.length = 2 ^ h.toNat ∧ l.getD 0 0 = 0 ∧ Within l ∧ Meets l
theorem l07Ok (h u : Int) {id : Nat} {ty : TypeId} {rw : Bool} {s c} {l : List Int} (hlen : l.length ≤ 1048576) (hS : S id) (hm : H0.m id = some ⟨ty, rw, [.int .i64 h, .int .i64 u, .slice s l.length c]⟩) (hs : (Kn.int .i64).Sl S H0 (.slice s l.length c) l) :
    Spec Try.prog S H0 107 [.pointer (some ⟨id, 0, none⟩)] (fun v => v = .bool (tv (OkR h u l))) := by
  refine Spec.of Try.func107 rfl (by kernel_rfl) rfl (fun H hfin hfz => ?_)
  have hs := hs.to hfz
  have hm := ((hfz id hS).2).trans hm
  have hS : Low H.n id := (hfz id hS).1
  have bad : ¬ OkR h u l → aout [Value.bool false] = .bool (tv (OkR h u l)) := fun hx => by rw [tv_false hx]; rfl
  refine KW.ldP hS hm rfl rfl rfl rfl rfl rfl ?_
  refine KW.callE rfl rfl rfl rfl rfl (l00In _ _ _) (fun _ _ => ?_)
  refine KW.tstB rfl rfl (fun h1 => ?_) (fun h1 => ?_)
  · refine KW.tstB rfl rfl (fun _ => ?_) (fun h => absurd h (by decide))
    refine KW.tstB rfl rfl (fun _ => ?_) (fun h => absurd h (by decide))
    refine KW.cndB rfl rfl (fun _ => KW.ret rfl rfl rfl rfl (bad (fun hc => ?_))) (fun h => absurd h (by decide))
    have := hc.1; simp at h1; omega
  have h1 : 1 ≤ h ∧ h ≤ 5 := by simpa using h1
  refine KW.ldP hS hm rfl rfl rfl rfl rfl rfl ?_
  refine KW.callE rfl rfl rfl rfl rfl (l00In _ _ _) (fun _ _ => ?_)
  refine KW.tstB rfl rfl (fun h2 => ?_) (fun h2 => ?_)
  · refine KW.tstB rfl rfl (fun _ => ?_) (fun h => absurd h (by decide))
    refine KW.cndB rfl rfl (fun _ => KW.ret rfl rfl rfl rfl (bad (fun hc => ?_))) (fun h => absurd h (by decide))
    have := hc.2.1; simp at h2; omega
  have h2 : 1 ≤ u ∧ u ≤ 100000 := by simpa using h2
  obtain ⟨m, rfl⟩ : ∃ m : Nat, h = m := ⟨h.toNat, by omega⟩
  refine KW.ldP hS hm rfl rfl rfl rfl rfl rfl ?_
  refine KW.ldP hS hm rfl rfl rfl rfl rfl rfl ?_
  refine KW.shlI rfl rfl rfl rfl rfl rfl m (wru (by omega) (by omega)) (by omega) ?_
  obtain ⟨q, hq, hq1, hq2⟩ := pow_small (h := m) (by omega)
  refine KW.tstB rfl rfl (fun h3 => ?_) (fun h3 => ?_)
  · refine KW.cndB rfl rfl (fun _ => KW.ret rfl rfl rfl rfl (bad (fun hc => ?_))) (fun h => absurd h (by decide))
    have := hc.2.2.1
    simp at this
    rw [this] at h3
    simp at h3
  have h3 : l.length = 2 ^ m := by rw [hq] at h3 ⊢; simp at h3; omega
  have h256 := len_le (m := m) (by omega) h3
  have hpos := Nat.two_pow_pos m
  refine KW.ldP hS hm rfl rfl rfl rfl rfl rfl ?_
  refine KW.getI hs rfl rfl rfl rfl rfl rfl rfl rfl rfl rfl rfl rfl rfl rfl rfl rfl (by omega) (by omega) (fun z hz => ?_)
  have hz : l.getD 0 0 = z := getD_of hz
  refine KW.cndB rfl rfl (fun h4 => KW.ret rfl rfl rfl rfl (bad (fun hc => ?_))) (fun h4 => ?_)
  · have := hc.2.2.2.1
    rw [hz] at this; subst this; simp at h4
  have h4 : z = 0 := by simpa using h4
  refine KW.lp rfl rfl (fun i : Nat => [(0, .pointer (some ⟨id, 0, none⟩)), (3, .int .i64 i)]) (fun i => i ≤ l.length ∧ ∀ j, j < i → 0 ≤ l.getD j 0 ∧ l.getD j 0 ≤ 100000) (fun i => l.length - i) 0 ⟨by omega, fun j h => absurd h (by omega)⟩ ⟨rfl, rfl, trivial⟩ (fun i hi b n => ?_)
  obtain ⟨hi0, hi⟩ := hi
  refine KW.ldP hS hm rfl rfl rfl rfl rfl rfl ?_
  refine KW.cnd rfl rfl (fun h5 => ?_) (fun h5 => ?_)
  · refine KW.ldP hS hm rfl rfl rfl rfl rfl rfl ?_
    refine KW.getI hs rfl rfl rfl rfl rfl rfl rfl rfl rfl rfl rfl rfl rfl rfl rfl rfl (by omega) h5 (fun y hy => ?_)
    have hy : l.getD i 0 = y := getD_of hy
    refine KW.callE rfl rfl rfl rfl rfl (l00In _ _ _) (fun _ _ => ?_)
    refine KW.cndB rfl rfl (fun h6 => KW.ret rfl rfl rfl rfl (bad (fun hc => ?_))) (fun h6 => ?_)
    · have := hc.2.2.2.2.1 i (by omega)
      rw [hy] at this; simp at h6; omega
    · have h6 : 0 ≤ y ∧ y ≤ 100000 := by simpa using h6
      exact KW.nxt rfl rfl (fun H g => ⟨i + 1, ⟨by omega, upto hi (by rw [hy]; exact h6)⟩, by omega, ⟨rfl, congrArg (Value.int .i64) (inc64 (by omega)), trivial⟩, g⟩)
  · have hw : Within l := fun j hj => hi j (by omega)
    refine KW.ldP hS hm rfl rfl rfl rfl rfl rfl ?_
    refine KW.callE rfl rfl rfl rfl rfl (l07Meets (m := m) (by omega) h3 hw hs) (fun _ _ => ?_)
    refine KW.ret rfl rfl rfl rfl ?_
    show Value.bool (tv (Meets l)) = _
    congr 1
    refine tv_congr ⟨fun hM => ⟨h1, h2, by simpa using h3, by rw [hz]; exact h4, hw, hM⟩, fun hO => hO.2.2.2.2.2⟩
theorem validRanks (h u : Int) {s c} {l : List Int} (hlen : l.length ≤ 1048576) (hs : (Kn.int .i64).Sl S H0 (.slice s l.length c) l) :
    Spec Try.prog S H0 136 [ranksV h u (.slice s l.length c)] (fun v => v = .bool (tv (OkR h u l))) := by
  refine Spec.of Try.func136 rfl (by kernel_rfl) rfl (fun H hfin hfz => ?_)
  have hs := hs.to hfz
  have bad : ¬ OkR h u l → aout [Value.bool false] = .bool (tv (OkR h u l)) := fun hx => by rw [tv_false hx]; rfl
  refine KW.callE rfl rfl rfl rfl rfl (within _ _ _) (fun _ _ => ?_)
  refine KW.tstB rfl rfl (fun h1 => ?_) (fun h1 => ?_)
  · refine KW.tstB rfl rfl (fun _ => ?_) (fun h => absurd h (by decide))
    refine KW.tstB rfl rfl (fun _ => ?_) (fun h => absurd h (by decide))
    refine KW.cndB rfl rfl (fun _ => KW.ret rfl rfl rfl rfl (bad (fun hc => ?_))) (fun h => absurd h (by decide))
    have := hc.1; simp at h1; omega
  have h1 : 1 ≤ h ∧ h ≤ 5 := by simpa using h1
  refine KW.callE rfl rfl rfl rfl rfl (within _ _ _) (fun _ _ => ?_)
  refine KW.tstB rfl rfl (fun h2 => ?_) (fun h2 => ?_)
  · refine KW.tstB rfl rfl (fun _ => ?_) (fun h => absurd h (by decide))
    refine KW.cndB rfl rfl (fun _ => KW.ret rfl rfl rfl rfl (bad (fun hc => ?_))) (fun h => absurd h (by decide))
    have := hc.2.1; simp at h2; omega
  have h2 : 1 ≤ u ∧ u ≤ 100000 := by simpa using h2
  obtain ⟨m, rfl⟩ : ∃ m : Nat, h = m := ⟨h.toNat, by omega⟩
  refine KW.shlI rfl rfl rfl rfl rfl rfl m rfl (by omega) ?_
  obtain ⟨q, hq, hq1, hq2⟩ := pow_small (h := m) (by omega)
  refine KW.tstB rfl rfl (fun h3 => ?_) (fun h3 => ?_)
  · refine KW.cndB rfl rfl (fun _ => KW.ret rfl rfl rfl rfl (bad (fun hc => ?_))) (fun h => absurd h (by decide))
    have := hc.2.2.1
    simp at this
    rw [this] at h3
    simp at h3
  have h3 : l.length = 2 ^ m := by rw [hq] at h3 ⊢; simp at h3; omega
  have hm8 : m ≤ 8 := by omega
  have h256 := len_le hm8 h3
  have hpos := Nat.two_pow_pos m
  refine KW.getI hs rfl rfl rfl rfl rfl rfl rfl rfl rfl rfl rfl rfl rfl rfl rfl rfl (by omega) (by omega) (fun z hz => ?_)
  have hz : l.getD 0 0 = z := getD_of hz
  refine KW.cndB rfl rfl (fun h4 => KW.ret rfl rfl rfl rfl (bad (fun hc => ?_))) (fun h4 => ?_)
  · have := hc.2.2.2.1
    rw [hz] at this; subst this; simp at h4
  have h4 : z = 0 := by simpa using h4
  refine KW.lp rfl rfl (fun i : Nat => [(1, .pointer (some ⟨H.n, 0, some 0⟩)), (34, .slice s l.length c), (35, .int .i64 l.length), (36, .int .i64 i)]) (fun i => i ≤ l.length ∧ ∀ j, j < i → 0 ≤ l.getD j 0 ∧ l.getD j 0 ≤ 100000) (fun i => l.length - i) 0 ⟨by omega, fun j h => absurd h (by omega)⟩ ⟨rfl, rfl, rfl, rfl, trivial⟩ (fun i hi b n => ?_)
  obtain ⟨hi0, hi⟩ := hi
  refine KW.cnd rfl rfl (fun h5 => ?_) (fun h5 => ?_)
  · refine KW.getI hs rfl rfl rfl rfl rfl rfl rfl rfl rfl rfl rfl rfl rfl rfl rfl rfl (by omega) h5 (fun y hy => ?_)
    have hy : l.getD i 0 = y := getD_of hy
    refine KW.callE rfl rfl rfl rfl rfl (within _ _ _) (fun _ _ => ?_)
    refine KW.cndB rfl rfl (fun h6 => KW.ret rfl rfl rfl rfl (bad (fun hc => ?_))) (fun h6 => ?_)
    · have := hc.2.2.2.2.1 i (by omega)
      rw [hy] at this; simp at h6; omega
    · have h6 : 0 ≤ y ∧ y ≤ 100000 := by simpa using h6
      exact KW.nxt rfl rfl (fun H g => ⟨i + 1, ⟨by omega, upto hi (by rw [hy]; exact h6)⟩, by omega, ⟨rfl, rfl, rfl, congrArg (Value.int .i64) (inc64 (by omega)), trivial⟩, g⟩)
  have hw : Within l := fun j hj => hi j (by omega)
  refine KW.lp rfl rfl (fun a : Nat => [(1, .pointer (some ⟨H.n, 0, some 0⟩)), (5, .int .u64 a)]) (fun a => a ≤ l.length ∧ ∀ a', a' < a → ∀ b, b < l.length → ¬ Bad l a' b) (fun a => l.length - a) 0 ⟨by omega, fun j h => absurd h (by omega)⟩ ⟨rfl, rfl, trivial⟩ (fun a ha e n => ?_)
  obtain ⟨ha0, ha⟩ := ha
  refine KW.callE rfl rfl rfl rfl rfl (everybody (m := m) (by omega)) (fun _ _ => ?_)
  refine KW.cnd rfl rfl (fun h => ?_) (fun h => KW.ret rfl rfl rfl rfl ?_)
  · have hal : a < l.length := by rw [h3]; omega
    refine KW.lp rfl rfl (fun b : Nat => [(1, .pointer (some ⟨H.n, 0, some 0⟩)), (5, .int .u64 a), (6, .int .u64 b)]) (fun b => b ≤ l.length ∧ ∀ b', b' < b → ¬ Bad l a b') (fun b => l.length - b) 0 ⟨by omega, fun j h => absurd h (by omega)⟩ ⟨rfl, rfl, rfl, trivial⟩ (fun b hb e n => ?_)
    obtain ⟨hb0, hb⟩ := hb
    refine KW.callE rfl rfl rfl rfl rfl (everybody (m := m) (by omega)) (fun _ _ => ?_)
    refine KW.cnd rfl rfl (fun h => ?_) (fun h => ?_)
    · have hbl : b < l.length := by rw [h3]; omega
      have eo := or_u64 (a := a) (b := b) (by omega) (by omega)
      have ea := and_u64 (a := a) (b := b) (by omega) (by omega)
      have ho := or_in h3 hal hbl
      have hn := and_in (a := a) h3 hbl
      have w1 := hw a hal
      have w2 := hw b hbl
      have w3 := hw _ ho
      have w4 := hw _ hn
      have bad' : Bad l a b → aout [Value.bool false] = .bool (tv (OkR m u l)) := fun hx => bad (fun hc => hc.2.2.2.2.2 a hal b hbl hx)
      refine KW.callE rfl rfl rfl rfl rfl (contains (x := b) (y := a) (by omega) (by omega)) (fun _ _ => ?_)
      refine KW.tstB rfl rfl (fun h1 => ?g1) (fun h1 => ?g2)
      case' g1 =>
        have h1 : a &&& b = a := by rw [Nat.and_comm]; exact tv_iff.1 h1
        refine KW.callE rfl rfl rfl rfl rfl (rank _ _ b hbl hs) (fun _ _ => ?_)
        refine KW.callE rfl rfl rfl rfl rfl (rank _ _ a hal hs) (fun _ _ => ?_)
        refine KW.tst rfl rfl (fun h2 => KW.cndB rfl rfl (fun _ => KW.ret rfl rfl rfl rfl (bad' (.inl ⟨h1, h2⟩))) (fun h => absurd h (by decide))) (fun h2 => ?_)
        have h0 : ¬ (a &&& b = a ∧ l.getD a 0 > l.getD b 0) := fun hc => h2 hc.2
        clear h1 h2
      case' g2 =>
        have h0 : ¬ (a &&& b = a ∧ l.getD a 0 > l.getD b 0) := fun hc => by rw [tv_true (show b &&& a = a by rw [Nat.and_comm]; exact hc.1)] at h1; cases h1
        refine KW.tstB rfl rfl (fun h => absurd h (by decide)) (fun _ => ?_)
      all_goals
        refine KW.callE rfl rfl rfl rfl rfl (rank _ _ a hal hs) (fun _ _ => ?_)
        refine KW.callE rfl rfl rfl rfl rfl (rank _ _ b hbl hs) (fun _ _ => ?_)
        refine KW.callE rfl rfl rfl rfl rfl (by show Spec _ _ _ _ [ranksV m u (.slice s l.length c), .int .u64 (IntKind.u64.wrap _)] _; rw [eo]; exact rank _ _ _ ho hs) (fun _ _ => ?_)
        refine KW.callE rfl rfl rfl rfl rfl (by show Spec _ _ _ _ [ranksV m u (.slice s l.length c), .int .u64 (IntKind.u64.wrap _)] _; rw [ea]; exact rank _ _ _ hn hs) (fun _ _ => ?_)
        have e5 : IntKind.i64.wrap (l.getD a 0 + l.getD b 0) = l.getD a 0 + l.getD b 0 := wr (by omega) (by omega)
        have e6 : IntKind.i64.wrap (l.getD (a ||| b) 0 + l.getD (a &&& b) 0) = l.getD (a ||| b) 0 + l.getD (a &&& b) 0 := wr (by omega) (by omega)
        refine KW.cnd rfl rfl (fun h2 => KW.ret rfl rfl rfl rfl (bad' (.inr ?_))) (fun h2 => ?_)
        · rw [← e5, ← e6]; exact h2
        · rw [e5, e6] at h2
          refine KW.nxt rfl rfl (fun H g => ⟨b + 1, ⟨by omega, upto hb (fun hc => ?_)⟩, by omega, ⟨rfl, rfl, congrArg (Value.int .u64) (incu64 (by omega)), trivial⟩, g⟩)
          rcases hc with hc | hc
          · exact h0 hc
          · exact h2 hc
    · refine KW.nxt rfl rfl (fun H g => ⟨a + 1, ⟨by omega, upto ha (fun b' hb' => hb b' (by rw [h3] at hb'; omega))⟩, by omega, ⟨rfl, congrArg (Value.int .u64) (incu64 (by omega)), trivial⟩, g⟩)
  · have hM : Meets l := fun a' ha' => ha a' (by rw [h3] at ha'; omega)
    rw [tv_true (p := OkR m u l) ⟨h1, h2, by simpa using h3, by rw [hz]; exact h4, hw, hM⟩]; rfl
end
end Go.Proofs.Ytaepgfafbnjccaa.Am
