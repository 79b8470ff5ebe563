/- Groups, plain: rising lists and their bits; numbers. No condition beyond each lemma's own. -/
import Derived.Test.YtaepgfafbnjccaaAm20
namespace Go.Proofs.Ytaepgfafbnjccaa.Am
open Go Go.RowKit
/-- What is asked of the element i. -/
def RiseAt (lo hi : Int) (g : List Int) (i : Nat) : Prop := (lo ≤ g.getD i 0 ∧ g.getD i 0 ≤ hi) ∧ (0 < i → g.getD (i - 1) 0 < g.getD i 0)
def Rises (lo hi : Int) (g : List Int) : Prop := ∀ i, i < g.length → RiseAt lo hi g i
/-- A proposition as a truth value. -/
noncomputable def tv (p : Prop) : Bool := @decide p (Classical.propDecidable _)
theorem tv_iff {p : Prop} : tv p = true ↔ p := by unfold tv; exact @decide_eq_true_iff _ (Classical.propDecidable _)
theorem tv_true {p : Prop} (h : p) : tv p = true := tv_iff.2 h
theorem tv_false {p : Prop} (h : ¬ p) : tv p = false := by cases e : tv p with | false => rfl | true => exact absurd (tv_iff.1 e) h
theorem tv_congr {p q : Prop} (h : p ↔ q) : tv p = tv q := by
  by_cases hp : p
  · rw [tv_true hp, tv_true (h.1 hp)]
  · rw [tv_false hp, tv_false (fun hq => hp (h.2 hq))]
theorem tv_dec {p : Prop} [Decidable p] : decide p = tv p := by
  by_cases h : p
  · rw [tv_true h]; simp [h]
  · rw [tv_false h]; simp [h]
theorem getD_of {g : List Int} {i : Nat} {y : Int} (h : g[i]? = some y) : g.getD i 0 = y := by rw [List.getD_eq_getElem?_getD, h]; rfl
theorem pow_small {h : Nat} (hh : h ≤ 40) : ∃ m : Nat, 2 ^ h = m ∧ m ≤ 1099511627776 ∧ (2 : Int) ^ h = (m : Int) :=
  ⟨2 ^ h, rfl, by
    have h1 : (2 : Nat) ^ h ≤ 2 ^ 40 := Nat.pow_le_pow_right (by decide) hh
    have h2 : (2 : Nat) ^ 40 = 1099511627776 := by decide
    omega, (Int.natCast_pow 2 h).symm⟩
theorem bv_nat {a : Nat} (ha : a < 4611686018427387904) : BitVec.ofInt 64 (a : Int) = BitVec.ofNat 64 a := by
  apply BitVec.eq_of_toNat_eq
  simp only [BitVec.toNat_ofInt, BitVec.toNat_ofNat]
  omega
theorem bv_toNat {a : Nat} (ha : a < 4611686018427387904) : (BitVec.ofInt 64 (a : Int)).toNat = a := by
  rw [bv_nat ha, BitVec.toNat_ofNat]
  exact Nat.mod_eq_of_lt (by omega)
theorem or_lt {a b : Nat} (ha : a < 4611686018427387904) (hb : b < 4611686018427387904) : a ||| b < 4611686018427387904 :=
  Nat.or_lt_two_pow (n := 62) ha hb
theorem or_i64 {a b : Nat} (ha : a < 4611686018427387904) (hb : b < 4611686018427387904) : IntKind.i64.wrap ((BitVec.ofInt IntKind.i64.bits (a : Int) ||| BitVec.ofInt IntKind.i64.bits (b : Int)).toNat : Int) = ((a ||| b : Nat) : Int) := by
  show IntKind.i64.wrap ((BitVec.ofInt 64 (a : Int) ||| BitVec.ofInt 64 (b : Int)).toNat : Int) = _
  rw [BitVec.toNat_or, bv_toNat ha, bv_toNat hb]
  have := or_lt ha hb
  exact wr (by omega) (by omega)
theorem or_u64 {a b : Nat} (ha : a < 4611686018427387904) (hb : b < 4611686018427387904) : IntKind.u64.wrap ((BitVec.ofInt IntKind.u64.bits (a : Int) ||| BitVec.ofInt IntKind.u64.bits (b : Int)).toNat : Int) = ((a ||| b : Nat) : Int) := by
  show IntKind.u64.wrap ((BitVec.ofInt 64 (a : Int) ||| BitVec.ofInt 64 (b : Int)).toNat : Int) = _
  rw [BitVec.toNat_or, bv_toNat ha, bv_toNat hb]
  have := or_lt ha hb
  exact wru (by omega) (by omega)
theorem and_i64 {a b : Nat} (ha : a < 4611686018427387904) (hb : b < 4611686018427387904) : IntKind.i64.wrap ((BitVec.ofInt IntKind.i64.bits (a : Int) &&& BitVec.ofInt IntKind.i64.bits (b : Int)).toNat : Int) = ((a &&& b : Nat) : Int) := by
  show IntKind.i64.wrap ((BitVec.ofInt 64 (a : Int) &&& BitVec.ofInt 64 (b : Int)).toNat : Int) = _
  rw [BitVec.toNat_and, bv_toNat ha, bv_toNat hb]
  have : a &&& b ≤ a := Nat.and_le_left
  exact wr (by omega) (by omega)
theorem and_u64 {a b : Nat} (ha : a < 4611686018427387904) (hb : b < 4611686018427387904) : IntKind.u64.wrap ((BitVec.ofInt IntKind.u64.bits (a : Int) &&& BitVec.ofInt IntKind.u64.bits (b : Int)).toNat : Int) = ((a &&& b : Nat) : Int) := by
  show IntKind.u64.wrap ((BitVec.ofInt 64 (a : Int) &&& BitVec.ofInt 64 (b : Int)).toNat : Int) = _
  rw [BitVec.toNat_and, bv_toNat ha, bv_toNat hb]
  have : a &&& b ≤ a := Nat.and_le_left
  exact wru (by omega) (by omega)
/-- 1 << h -/
theorem shl_i64 {P : Program} {t : TypeId} {k : IntKind} {h : Nat} (hh : h ≤ 40) : abin P .shl t (.int .i64 1) (.int k (h : Int)) = some (.int .i64 ((2 ^ h : Nat) : Int)) := by
  obtain ⟨m, h1, h2, h3⟩ := pow_small hh
  have e : min (h : Int).toNat IntKind.i64.bits = h := by
    show min (h : Int).toNat 64 = h
    omega
  simp only [abin, ashift]
  rw [if_neg (by omega), e, Int.one_mul, h3, h1, wr (by omega) (by omega)]
theorem shl_u64 {P : Program} {t : TypeId} {k : IntKind} {h : Nat} (hh : h ≤ 40) : abin P .shl t (.int .u64 1) (.int k (h : Int)) = some (.int .u64 ((2 ^ h : Nat) : Int)) := by
  obtain ⟨m, h1, h2, h3⟩ := pow_small hh
  have e : min (h : Int).toNat IntKind.u64.bits = h := by
    show min (h : Int).toNat 64 = h
    omega
  simp only [abin, ashift]
  rw [if_neg (by omega), e, Int.one_mul, h3, h1, wru (by omega) (by omega)]
section
variable {P : Program} {S : Ids} {H0 : AH} {Q : PostC} {k k1 : List It} {e e1 : Env} {T T1 : List Var} {n n1 : Nat} {l1 r1 : List Nat} {d1 : Tmp}
theorem KW.shlU {o : Oper} {dr : Bool} {t u : TypeId} {x y : Operand} {kk : IntKind} {j : Int} (h : Go1 P k e T n (.op o dr) k1 e1 T1 n1 l1 r1) (hlr : l1 = r1) (ho : o.op = .binOp .shl t x y u) (hd : o.dst = some d1) (hx : ev e1 x = .int .u64 1) (hy : ev e1 y = .int kk j) (m : Nat) (hj : j = m) (hm : m ≤ 40)
    (hk : KW P S H0 Q n1 T1 k1 (put1 e1 d1 (.int .u64 ((2 ^ m : Nat) : Int)))) : KW P S H0 Q n T k e :=
  KW.pure h hlr ho hd rfl _ (by subst hj; simp only [pop, hx, hy]; exact shl_u64 hm) hk
theorem KW.shlI {o : Oper} {dr : Bool} {t u : TypeId} {x y : Operand} {kk : IntKind} {j : Int} (h : Go1 P k e T n (.op o dr) k1 e1 T1 n1 l1 r1) (hlr : l1 = r1) (ho : o.op = .binOp .shl t x y u) (hd : o.dst = some d1) (hx : ev e1 x = .int .i64 1) (hy : ev e1 y = .int kk j) (m : Nat) (hj : j = m) (hm : m ≤ 40)
    (hk : KW P S H0 Q n1 T1 k1 (put1 e1 d1 (.int .i64 ((2 ^ m : Nat) : Int)))) : KW P S H0 Q n T k e :=
  KW.pure h hlr ho hd rfl _ (by subst hj; simp only [pop, hx, hy]; exact shl_i64 hm) hk
end
def bitsOf (g : List Int) : Nat := g.foldl (fun a x => a ||| 2 ^ x.toNat) 0
theorem bits_lt {m : Nat} : ∀ (g : List Int) (a : Nat), a < 2 ^ m → (∀ x ∈ g, x.toNat < m) → g.foldl (fun a x => a ||| 2 ^ x.toNat) a < 2 ^ m
  | [], a, ha, _ => ha
  | x :: g, a, ha, hg => by
    refine bits_lt g _ (Nat.or_lt_two_pow ha ?_) (fun y hy => hg y (List.mem_cons_of_mem _ hy))
    exact Nat.pow_lt_pow_right (by decide) (hg x List.mem_cons_self)
theorem bitsOf_lt {m : Nat} {g : List Int} (hg : ∀ x ∈ g, x.toNat < m) : bitsOf g < 2 ^ m := bits_lt g 0 (Nat.two_pow_pos m) hg
theorem rises_mem {lo hi : Int} {g : List Int} (h : Rises lo hi g) : ∀ x ∈ g, lo ≤ x ∧ x ≤ hi := fun x hx => by
  obtain ⟨i, hi', rfl⟩ := List.getElem_of_mem hx
  have := (h i hi').1
  simpa [List.getD_eq_getElem?_getD, List.getElem?_eq_getElem hi'] using this
theorem bits_take (g : List Int) (i : Nat) (h : i < g.length) : bitsOf (g.take (i + 1)) = bitsOf (g.take i) ||| 2 ^ (g.getD i 0).toNat := by
  unfold bitsOf
  rw [List.take_succ_eq_append_getElem h, List.foldl_append]
  simp [List.getD_eq_getElem?_getD, List.getElem?_eq_getElem h]
theorem small_pow {m : Nat} (hm : m ≤ 8) : 2 ^ m ≤ 256 := by
  have h1 : (2 : Nat) ^ m ≤ 2 ^ 8 := Nat.pow_le_pow_right (by decide) hm
  have h2 : (2 : Nat) ^ 8 = 256 := by decide
  omega
theorem step_small {g : List Int} {m : Nat} (hm : m ≤ 8) (hg : ∀ x ∈ g, 0 ≤ x ∧ x < m) (i : Nat) (hi : i < g.length) : ∃ n : Nat, g.getD i 0 = (n : Int) ∧ n < m ∧ bitsOf (g.take i) < 256 ∧ 2 ^ n < 256 := by
  have h1 : g.getD i 0 ∈ g := by
    rw [List.getD_eq_getElem?_getD, List.getElem?_eq_getElem hi]
    exact List.getElem_mem hi
  obtain ⟨h2, h3⟩ := hg _ h1
  refine ⟨(g.getD i 0).toNat, by omega, by omega, ?_, ?_⟩
  · have : bitsOf (g.take i) < 2 ^ m := bitsOf_lt (fun x hx => by have := hg x (List.mem_of_mem_take hx); omega)
    have := small_pow hm
    omega
  · have : 2 ^ (g.getD i 0).toNat < 2 ^ m := Nat.pow_lt_pow_right (by decide) (by omega)
    have := small_pow hm
    omega
end Go.Proofs.Ytaepgfafbnjccaa.Am
