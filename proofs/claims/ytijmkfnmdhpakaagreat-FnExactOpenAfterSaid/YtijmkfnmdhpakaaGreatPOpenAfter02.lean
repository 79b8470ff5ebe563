/- Contracts and laws on abstract memory, merged. Each holds under its own conditions. -/
import Derived.Test.YtijmkfnmdhpakaaGreatPOpenAfter01
/- Contracts: primes, elements, valid matrices, of the program and of the reference. Each holds under its own conditions. -/
set_option linter.unusedVariables false
set_option maxRecDepth 20000
namespace Go.Proofs.YtijmkfnmdhpakaaGreat.Am
open Go Go.RowKit Go.Proofs
section
variable {P : Program} {S : Ids} {H0 : AH} {Q : PostC} {k k1 : List It} {e e1 : Env} {T T1 : List Var} {n n1 : Nat} {l1 r1 : List Nat} {d1 : Tmp}
theorem KW.rem {o : Oper} {dr : Bool} {t u : TypeId} {x y : Operand} {ik : IntKind} {a b : Int} (h : Go1 P k e T n (.op o dr) k1 e1 T1 n1 l1 r1) (hlr : l1 = r1) (ho : o.op = .binOp .rem t x y u) (hd : o.dst = some d1) (hx : ev e1 x = .int ik a) (hy : ev e1 y = .int ik b) (ha : 0 ≤ a) (hb : b ≠ 0)
    (hk : KW P S H0 Q n1 T1 k1 (put1 e1 d1 (.int ik (a % b)))) : KW P S H0 Q n T k e := by
  refine KW.pure h hlr ho hd rfl _ ?_ hk
  simp only [pop, hx, hy, abin, aint, if_true]
  rw [if_neg hb, Int.tmod_eq_emod_of_nonneg ha]
theorem KW.quo {o : Oper} {dr : Bool} {t u : TypeId} {x y : Operand} {a b : Int} (h : Go1 P k e T n (.op o dr) k1 e1 T1 n1 l1 r1) (hlr : l1 = r1) (ho : o.op = .binOp .quo t x y u) (hd : o.dst = some d1) (hx : ev e1 x = .int .i64 a) (hy : ev e1 y = .int .i64 b) (ha : 0 ≤ a ∧ a ≤ 9223372036854775807) (hb : 0 < b)
    (hk : KW P S H0 Q n1 T1 k1 (put1 e1 d1 (.int .i64 (a / b)))) : KW P S H0 Q n T k e := by
  refine KW.pure h hlr ho hd rfl _ ?_ hk
  simp only [pop, hx, hy, abin, aint, if_true]
  rw [if_neg (by omega), Int.tdiv_eq_ediv_of_nonneg ha.1]
  have h1 : 0 ≤ a / b := Int.ediv_nonneg ha.1 (by omega)
  have h2 : a / b ≤ a := Int.ediv_le_self _ ha.1
  rw [wr (by omega) (by omega)]
end
/-- A prime up to 31. -/
def PrimeP (p : Int) : Prop := 2 ≤ p ∧ p ≤ 31 ∧ ∀ d : Nat, 2 ≤ d → (d : Int) < p → ¬ p % d = 0
theorem prime_of {p : Int} {d : Nat} (h2 : 2 ≤ p) (h31 : p ≤ 31) (hd : 2 ≤ d) (hdd : ¬ (d : Int) * d ≤ p) (h : ∀ j : Nat, 2 ≤ j → j < d → ¬ p % j = 0) : PrimeP p := by
  refine ⟨h2, h31, fun q hq hqp hm => ?_⟩
  rcases Nat.lt_or_ge q d with hlt | hge
  · exact h q hq hlt hm
  · obtain ⟨r, hr⟩ := Int.dvd_of_emod_eq_zero hm
    have hr1 : 1 < r := by
      rcases Int.lt_or_le 1 r with h | h
      · exact h
      · have : (q : Int) * r ≤ q * 1 := Int.mul_le_mul_of_nonneg_left h (by omega)
        omega
    obtain ⟨s, rfl⟩ : ∃ s : Nat, r = s := ⟨r.toNat, by omega⟩
    have hs : (s : Int) < d := by
      rcases Int.lt_or_le (s : Int) d with h | h
      · exact h
      · have h1 : (d : Int) * d ≤ q * s := Int.mul_le_mul (by omega) h (by omega) (by omega)
        omega
    refine h s (by omega) (by omega) ?_
    rw [hr, Int.mul_emod_left]
theorem upto2 {d : Nat} {Q : Nat → Prop} (h : ∀ j, 2 ≤ j → j < d → Q j) (hd : Q d) : ∀ j, 2 ≤ j → j < d + 1 → Q j := fun j h2 hj => by
  rcases Nat.lt_or_ge j d with hl | hg
  · exact h j h2 hl
  · obtain rfl : j = d := by omega
    exact hd
section
variable {S : Ids} {H0 : AH}
theorem isPrime (p : Int) : Spec Tryz.prog S H0 141 [.int .i64 p] (fun v => v = .bool (tv (PrimeP p))) := by
  refine Spec.of1 Tryz.func141 rfl (by kernel_rfl) rfl (fun H _ => ?_)
  refine KW.lp rfl rfl (fun d : Nat => [(0, .int .i64 p), (3, .int .i64 d)]) (fun d => (2 ≤ d ∧ d ≤ 6) ∧ ∀ j : Nat, 2 ≤ j → j < d → ¬ p % j = 0) (fun d => 6 - d) (2) (⟨by omega, fun j h h' => by omega⟩) ⟨rfl, rfl, trivial⟩ (fun d hi bE n => ?_)
  obtain ⟨hd, hi⟩ := hi
  have hdd : (d : Int) * d ≤ 36 := by
    have : (d : Int) * d ≤ 6 * 6 := Int.mul_le_mul (by omega) (by omega) (by omega) (by omega)
    omega
  have hdd' : 0 ≤ (d : Int) * d := Int.mul_nonneg (by omega) (by omega)
  have ew : IntKind.i64.wrap ((d : Int) * d) = d * d := wr (by omega) (by omega)
  have fin : ¬ (d : Int) * d ≤ p ∨ ¬ p ≤ 31 → (decide (2 ≤ p ∧ p ≤ 31) : Bool) = tv (PrimeP p) := fun hx => by
    rw [tv_dec]
    refine tv_congr ⟨fun h => ?_, fun h => ⟨h.1, h.2.1⟩⟩
    exact prime_of h.1 h.2 hd.1 (hx.resolve_right (fun hc => hc h.2)) hi
  refine KW.tst rfl rfl (fun h => ?_) (fun h => ?_)
  · rw [ew] at h
    refine KW.cnd rfl rfl (fun h1 => ?_) (fun h1 => ?_)
    · refine KW.rem rfl rfl rfl rfl rfl rfl (by omega) (by omega) ?_
      refine KW.cndB rfl rfl (fun h2 => ?_) (fun h2 => ?_)
      · have hdp : (d : Int) < p := by
          have : (d : Int) * 2 ≤ d * d := Int.mul_le_mul_of_nonneg_left (by omega) (by omega)
          omega
        exact KW.ret rfl rfl rfl rfl (by rw [tv_false (fun hp => hp.2.2 d hd.1 hdp (by simpa using h2))]; rfl)
      · have h2 : ¬ p % (d : Int) = 0 := by simpa using h2
        have hd5 : d ≤ 5 := by
          rcases Nat.lt_or_ge d 6 with h | h
          · omega
          · have : (6 : Int) * 6 ≤ d * d := Int.mul_le_mul (by omega) (by omega) (by omega) (by omega)
            omega
        refine KW.nxt rfl rfl (fun H' g => ⟨d + 1, ⟨by omega, upto2 hi h2⟩, by first | omega | (simp only; omega), ⟨rfl, congrArg (Value.int .i64) (inc64 (by omega)), trivial⟩, g⟩)
    · refine KW.callE rfl rfl rfl rfl rfl (within _ _ _) (fun _ _ => ?_)
      exact KW.ret rfl rfl rfl rfl (congrArg Value.bool (fin (.inr h1)))
  · rw [ew] at h
    refine KW.cF rfl rfl (by first | (simp; done) | decide) ?_
    refine KW.callE rfl rfl rfl rfl rfl (within _ _ _) (fun _ _ => ?_)
    exact KW.ret rfl rfl rfl rfl (congrArg Value.bool (fin (.inl h)))
theorem specIsPrime (p : Int) : Spec Tryz.prog S H0 157 [.int .i64 p] (fun v => v = .bool (tv (PrimeP p))) := by
  refine Spec.of1 Tryz.func157 rfl (by kernel_rfl) rfl (fun H _ => ?_)
  refine KW.callE rfl rfl rfl rfl rfl (l00In _ _ _) (fun _ _ => ?_)
  refine KW.cndB rfl rfl (fun h => ?_) (fun h => ?_)
  · exact KW.ret rfl rfl rfl rfl (by rw [tv_false (fun hp => by have := hp.1; have := hp.2.1; simp at h; omega)]; rfl)
  have h : 2 ≤ p ∧ p ≤ 31 := by simpa using h
  refine KW.lp rfl rfl (fun d : Nat => [(0, .int .i64 p), (3, .int .i64 d)]) (fun d => (2 ≤ d ∧ (d : Int) ≤ p) ∧ ∀ j : Nat, 2 ≤ j → j < d → ¬ p % j = 0) (fun d => 32 - d) (2) (⟨by omega, fun j h h' => by omega⟩) ⟨rfl, rfl, trivial⟩ (fun d hi bE n => ?_)
  obtain ⟨hd, hi⟩ := hi
  refine KW.cnd rfl rfl (fun h1 => ?_) (fun h1 => ?_)
  · refine KW.rem rfl rfl rfl rfl rfl rfl (by omega) (by omega) ?_
    refine KW.cndB rfl rfl (fun h2 => ?_) (fun h2 => ?_)
    · exact KW.ret rfl rfl rfl rfl (by rw [tv_false (fun hp => hp.2.2 d hd.1 h1 (by simpa using h2))]; rfl)
    · refine KW.nxt rfl rfl (fun H' g => ⟨d + 1, ⟨by omega, upto2 hi (by simpa using h2)⟩, by first | omega | (simp only; omega), ⟨rfl, congrArg (Value.int .i64) (inc64 (by omega)), trivial⟩, g⟩)
  · exact KW.ret rfl rfl rfl rfl (by rw [tv_true (p := PrimeP p) ⟨h.1, h.2, fun j h2 hj => hi j h2 (by omega)⟩]; rfl)
/-- All are elements of the field. -/
def Elems (p : Int) (xs : List Int) : Prop := ∀ x ∈ xs, 0 ≤ x ∧ x ≤ p - 1
theorem areElements1 (p y : Int) (hp : I64 p) (hy : p ≠ -9223372036854775808) {id : Nat} {b : Blk} (hb : b.cells = [.int .i64 p]) (hv : S id ∧ H0.m id = some b) : Spec Tryz.prog S H0 142 [.int .i64 y, .pointer (some ⟨id, 0, none⟩)] (fun v => v = .bool (!decide (0 ≤ y ∧ y ≤ p - 1))) := by
  refine Spec.of1 Tryz.func142 rfl (by kernel_rfl) rfl (fun H _ => ?_)
  obtain ⟨hS1, hm1⟩ := On.blk (S' := Low H.n) (H' := H) hv.1 hv.2
  obtain ⟨ty, rw, cs⟩ := b
  subst hb
  refine KW.ldP hS1 hm1 rfl rfl rfl rfl rfl rfl ?_
  refine KW.callE rfl rfl rfl rfl rfl (within _ _ _) (fun _ _ => ?_)
  have e : IntKind.i64.wrap (p - 1) = p - 1 := wr (by have := hp.1; omega) (by have := hp.2; omega)
  refine KW.ret rfl rfl rfl rfl ?_
  rw [e]; rfl
theorem areElements (p : Int) (hp : I64 p) {a c} {xs : List Int} (hl : xs.length ≤ 4611686018427387904) (hs : KI.Sl S H0 (.slice a xs.length c) xs) : Spec Tryz.prog S H0 109 [.int .i64 p, .slice a xs.length c] (fun v => v = .bool (tv (PrimeP p ∧ Elems p xs))) := by
  refine Spec.of1 Tryz.func109 rfl (by kernel_rfl) rfl (fun H _ => ?_)
  refine KW.callE rfl rfl rfl rfl rfl (isPrime p) (fun _ _ => ?_)
  refine KW.tstB rfl rfl (fun h => ?_) (fun h => ?_)
  · have h := tv_iff.1 h
    refine KW.callV1 rfl rfl rfl rfl rfl (fun H1 g _ => containsFuncI (p := fun y => !decide (0 ≤ y ∧ y ≤ p - 1)) hl hs.up (fun S' H' o y _ => areElements1 p y hp (by have := h.1; omega) rfl (g.var (j := 0) rfl))) (fun _ _ => ?_)
    refine KW.ret rfl rfl rfl rfl ?_
    show Value.bool (!tv (∃ x ∈ xs, (!decide (0 ≤ x ∧ x ≤ p - 1)) = true)) = _
    by_cases hx : Elems p xs
    · rw [tv_true (p := PrimeP p ∧ Elems p xs) ⟨h, hx⟩, tv_false (fun ⟨x, h1, h2⟩ => by have := hx x h1; simp at h2; omega)]; rfl
    · rw [tv_false (p := PrimeP p ∧ Elems p xs) (fun hc => hx hc.2), tv_true ?_]; · rfl
      refine Classical.byContradiction fun hc => hx fun x h1 => ?_
      refine Classical.byContradiction fun h2 => hc ⟨x, h1, by simp; omega⟩
  · exact KW.ret rfl rfl rfl rfl (by rw [tv_false (p := PrimeP p ∧ Elems p xs) (fun hc => by rw [tv_true hc.1] at h; cases h)]; rfl)
end
/-- A matrix that is valid. -/
structure OkMat (p c : Int) (rows : List (List Int)) : Prop where
  pr : PrimeP p
  c0 : 0 ≤ c
  c1 : c ≤ 12
  len : rows.length ≤ 20
  row : ∀ r ∈ rows, (r.length : Int) = c ∧ Elems p r
section
variable {S : Ids} {H0 : AH}
theorem validMatrix1 (p c : Int) (hp : I64 p) {y : List Int} (hl : y.length ≤ 1048576) {a m} (hs : KI.Sl S H0 (.slice a y.length m) y) {id : Nat} {b : Blk} {v : Value} (hb : b.cells = [.int .i64 p, .int .i64 c, v]) (hv : S id ∧ H0.m id = some b) :
    Spec Tryz.prog S H0 161 [.slice a y.length m, .pointer (some ⟨id, 0, none⟩)] (fun v => v = .bool (!tv ((y.length : Int) = c ∧ (PrimeP p ∧ Elems p y)))) := by
  refine Spec.of1 Tryz.func161 rfl (by kernel_rfl) rfl (fun H _ => ?_)
  obtain ⟨hS1, hm1⟩ := On.blk (S' := Low H.n) (H' := H) hv.1 hv.2
  obtain ⟨ty, rw, cs⟩ := b
  subst hb
  refine KW.ldP hS1 hm1 rfl rfl rfl rfl rfl rfl ?_
  refine KW.tstB rfl rfl (fun h => ?_) (fun h => ?_)
  · exact KW.ret rfl rfl rfl rfl (by rw [tv_false (p := (y.length : Int) = c ∧ (PrimeP p ∧ Elems p y)) (fun hc => by rw [hc.1] at h; simp at h)]; rfl)
  · have h : (y.length : Int) = c := by simpa using h
    refine KW.ldP hS1 hm1 rfl rfl rfl rfl rfl rfl ?_
    refine KW.callE rfl rfl rfl rfl rfl (areElements p hp (by omega) hs.up) (fun _ _ => ?_)
    refine KW.ret rfl rfl rfl rfl ?_
    rw [tv_congr (q := (y.length : Int) = c ∧ (PrimeP p ∧ Elems p y)) ⟨fun hx => ⟨h, hx⟩, fun hx => hx.2⟩]; rfl
theorem validMatrix (p c : Int) (hp : I64 p) {a m} {rows : List (List Int)} (hB : B_Int64SS rows) (hs : KI.sl.Sl S H0 (.slice a rows.length m) rows) :
    Spec Tryz.prog S H0 138 [.agg #[.int .i64 p, .int .i64 c, .slice a rows.length m]] (fun v => v = .bool (tv (OkMat p c rows))) := by
  refine Spec.of1 Tryz.func138 rfl (by kernel_rfl) rfl (fun H _ => ?_)
  refine KW.callE rfl rfl rfl rfl rfl (isPrime p) (fun _ _ => ?_)
  refine KW.tstB rfl rfl (fun h1 => ?_) (fun h1 => ?_)
  · have k1 := tv_iff.1 h1
    refine KW.callE rfl rfl rfl rfl rfl (within _ _ _) (fun _ _ => ?_)
    refine KW.tstB rfl rfl (fun h2 => ?_) (fun h2 => ?_)
    · have k2 : 0 ≤ c ∧ c ≤ 12 := by simpa using h2
      refine KW.tst rfl rfl (fun h3 => ?_) (fun h3 => ?_)
      · have h3 : (rows.length : Int) ≤ 20 := h3
        refine KW.callV1 rfl rfl rfl rfl rfl (fun H1 g _ => containsFuncL (p := fun y => !tv ((y.length : Int) = c ∧ (PrimeP p ∧ Elems p y))) (by omega) hs.up (fun S' H' o y hy a c hsy => validMatrix1 p _ hp (hB.each y hy) hsy rfl (g.var (j := 0) rfl))) (fun _ _ => ?_)
        refine KW.ret rfl rfl rfl rfl ?_
        show Value.bool (!tv (∃ x ∈ rows, (!tv ((x.length : Int) = c ∧ (PrimeP p ∧ Elems p x))) = true)) = _
        by_cases hx : OkMat p c rows
        · rw [tv_true hx, tv_false (fun ⟨x, h1, h2⟩ => by rw [tv_true ⟨(hx.row x h1).1, k1, (hx.row x h1).2⟩] at h2; cases h2)]; rfl
        · rw [tv_false hx, tv_true ?_]; · rfl
          refine Classical.byContradiction fun hc => hx ⟨k1, k2.1, k2.2, by omega, fun x h1 => ?_⟩
          refine Classical.byContradiction fun h2 => hc ⟨x, h1, by rw [tv_false (fun h => h2 ⟨h.1, h.2.2⟩)]; rfl⟩
      · have h3 : ¬ (rows.length : Int) ≤ 20 := h3
        exact KW.ret rfl rfl rfl rfl (by rw [tv_false (p := OkMat p c rows) (fun hc => by have := hc.len; omega)]; rfl)
    · have k2 : ¬ (0 ≤ c ∧ c ≤ 12) := by simpa using h2
      repeat first | refine KW.tT rfl rfl rfl ?_ | refine KW.tF rfl rfl rfl ?_
      exact KW.ret rfl rfl rfl rfl (by rw [tv_false (p := OkMat p c rows) (fun hc => k2 ⟨hc.c0, hc.c1⟩)]; rfl)
  · repeat first | refine KW.tT rfl rfl rfl ?_ | refine KW.tF rfl rfl rfl ?_
    exact KW.ret rfl rfl rfl rfl (by rw [tv_false (p := OkMat p c rows) (fun hc => by rw [tv_true hc.pr] at h1; cases h1)]; rfl)
theorem l03Row (p c : Int) (hp : I64 (p - 1)) {a m} {xs : List Int} (hl : xs.length ≤ 1048576) (hs : KI.Sl S H0 (.slice a xs.length m) xs) :
    Spec Tryz.prog S H0 97 [.int .i64 p, .int .i64 c, .slice a xs.length m] (fun v => v = .bool (tv ((xs.length : Int) = c ∧ Elems p xs))) := by
  refine Spec.of1 Tryz.func97 rfl (by kernel_rfl) rfl (fun H _ => ?_)
  have ep : IntKind.i64.wrap (p - 1) = p - 1 := wr (by have := hp.1; omega) (by have := hp.2; omega)
  refine KW.lp rfl rfl (fun i : Nat => [(0, .int .i64 p), (1, .int .i64 c), (2, .slice a xs.length m), (7, .int .i64 i)]) (fun i => i ≤ xs.length ∧ ∀ j, j < i → ∀ x, xs[j]? = some x → 0 ≤ x ∧ x ≤ p - 1) (fun i => xs.length - i) (0) (⟨by omega, fun j h => absurd h (by omega)⟩) ⟨rfl, rfl, rfl, rfl, trivial⟩ (fun i hi bE n => ?_)
  obtain ⟨hi, hj⟩ := hi
  refine KW.cnd rfl rfl (fun h => ?_) (fun h => ?_)
  · refine KW.getI hs.up rfl rfl rfl rfl rfl rfl rfl rfl rfl rfl rfl rfl rfl rfl rfl rfl (by omega) (h) (fun y hy => ?_)
    have hy : xs[i]? = some y := hy
    refine KW.callE rfl rfl rfl rfl rfl (l00In _ _ _) (fun _ _ => ?_)
    rw [ep]
    refine KW.cndB rfl rfl (fun h2 => ?_) (fun h2 => ?_)
    · have h2 : ¬ (0 ≤ y ∧ y ≤ p - 1) := by simp at h2; omega
      exact KW.ret rfl rfl rfl rfl (by rw [tv_false (p := (xs.length : Int) = c ∧ Elems p xs) (fun hc => h2 (hc.2 y (List.mem_of_getElem? hy)))]; rfl)
    · refine KW.nxt rfl rfl (fun H' g => ⟨i + 1, ⟨by omega, upto hj (fun z hz => by rw [hy] at hz; cases hz; simpa using h2)⟩, by first | omega | (simp only; omega), ⟨rfl, rfl, rfl, congrArg (Value.int .i64) (inc64 (by omega)), trivial⟩, g⟩)
  · refine KW.ret rfl rfl rfl rfl ?_
    show Value.bool (((xs.length : Nat) : Int) == c) = _
    congr 1
    have hE : Elems p xs := fun x hx => by
      obtain ⟨j, hjx⟩ := List.getElem?_of_mem hx
      exact hj j (by have := (List.getElem?_eq_some_iff.1 hjx).1; omega) x hjx
    by_cases hc : ((xs.length : Nat) : Int) = c
    · rw [tv_true ⟨hc, hE⟩, hc]; simp
    · rw [tv_false (fun h => hc h.1)]; simpa using hc
end
/-- A block that has so and so standing from a place on. -/
def Has3 (S : Ids) (H : AH) (id k : Nat) (vs : List Value) : Prop := S id ∧ ∃ b, H.m id = some b ∧ ∀ i v, vs[i]? = some v → b.cells[k + i]? = some v
theorem Has3.up {S S' : Ids} {H H' : AH} {id k : Nat} {vs : List Value} [o : On S H S' H'] (h : Has3 S H id k vs) : Has3 S' H' id k vs := by
  obtain ⟨h1, b, h2, h3⟩ := h
  obtain ⟨h4, h5⟩ := On.blk (S' := S') (H' := H') h1 h2
  exact ⟨h4, b, h5, h3⟩
section
variable {P : Program} {S : Ids} {H0 : AH} {Q : PostC} {k k1 : List It} {e e1 : Env} {T T1 : List Var} {n n1 : Nat} {l1 r1 : List Nat} {d1 : Tmp}
/-- A field is read by a pointer. -/
theorem KW.ldF {o : Oper} {dr : Bool} {t : TypeId} {x : Operand} {id kk k0 : Nat} {vs : List Value} {sp : Option Nat} {v : Value} {td : TypeDesc} (i : Nat) (hv : Has3 S H0 id k0 vs) (h : Go1 P k e T n (.op o dr) k1 e1 T1 n1 l1 r1) (hlr : l1 = r1) (ho : o.op = .load t x) (hd : o.dst = some d1) (hx : ev e1 x = .pointer (some ⟨id, kk, sp⟩)) (hk0 : kk = k0 + i) (hi : vs[i]? = some v)
    (hu : P.underlying t = some td) (hnot : (match td with | .struct _ => false | .array _ _ => false | _ => true) = true) (hk : KW P S H0 Q n1 T1 k1 (put1 e1 d1 v)) : KW P S H0 Q n T k e := by
  obtain ⟨hS, b, hm, hc⟩ := hv
  exact KW.ldP hS hm h hlr ho hd hx (bload_at (by rw [hk0]; exact hc i v hi) hu hnot) hk
end
section
variable {S : Ids} {H0 : AH}
theorem l03Ok (p c : Int) (hp : I64 p) {id k : Nat} {a m} {rows : List (List Int)} (hB : B_Int64SS rows) (hv : Has3 S H0 id k [.int .i64 p, .int .i64 c, .slice a rows.length m]) (hs : KI.sl.Sl S H0 (.slice a rows.length m) rows) :
    Spec Tryz.prog S H0 134 [.pointer (some ⟨id, k, none⟩)] (fun v => v = .bool (tv (OkMat p c rows))) := by
  refine Spec.of1 Tryz.func134 rfl (by kernel_rfl) rfl (fun H _ => ?_)
  have hv := hv.up (S' := Low H.n) (H' := H)
  have hs := hs.up (S' := Low H.n) (H' := H)
  refine KW.ldF 0 hv rfl rfl rfl rfl rfl rfl rfl rfl rfl ?_
  refine KW.callE rfl rfl rfl rfl rfl (specIsPrime p) (fun _ _ => ?_)
  refine KW.tstB rfl rfl (fun h1 => ?_) (fun h1 => ?_)
  · repeat first | refine KW.tT rfl rfl rfl ?_ | refine KW.tF rfl rfl rfl ?_
    refine KW.cT rfl rfl (by first | (simp; done) | decide) ?_
    exact KW.ret rfl rfl rfl rfl (by rw [tv_false (p := OkMat p c rows) (fun hc => by rw [tv_true hc.pr] at h1; cases h1)]; rfl)
  have k1 : PrimeP p := tv_iff.1 (by simpa using h1)
  refine KW.ldF 1 hv rfl rfl rfl rfl rfl rfl rfl rfl rfl ?_
  refine KW.callE rfl rfl rfl rfl rfl (l00In _ _ _) (fun _ _ => ?_)
  refine KW.tstB rfl rfl (fun h2 => ?_) (fun h2 => ?_)
  · have k2 : ¬ (0 ≤ c ∧ c ≤ 12) := by simp at h2; omega
    repeat first | refine KW.tT rfl rfl rfl ?_ | refine KW.tF rfl rfl rfl ?_
    refine KW.cT rfl rfl (by first | (simp; done) | decide) ?_
    exact KW.ret rfl rfl rfl rfl (by rw [tv_false (p := OkMat p c rows) (fun hc => k2 ⟨hc.c0, hc.c1⟩)]; rfl)
  have k2 : 0 ≤ c ∧ c ≤ 12 := by simpa using h2
  refine KW.ldF 2 hv rfl rfl rfl rfl rfl rfl rfl rfl rfl ?_
  refine KW.cnd rfl rfl (fun h3 => ?_) (fun h3 => ?_)
  · have h3 : (rows.length : Int) > 20 := h3
    exact KW.ret rfl rfl rfl rfl (by rw [tv_false (p := OkMat p c rows) (fun hc => by have := hc.len; omega)]; rfl)
  have h3 : ¬ (rows.length : Int) > 20 := h3
  refine KW.lp rfl rfl (fun i : Nat => [(0, .pointer (some ⟨id, k, none⟩)), (3, .int .i64 i)]) (fun i => i ≤ rows.length ∧ ∀ j, j < i → ∀ x, rows[j]? = some x → (x.length : Int) = c ∧ Elems p x) (fun i => rows.length - i) (0) (⟨by omega, fun j h => absurd h (by omega)⟩) ⟨rfl, rfl, trivial⟩ (fun i hi bE n => ?_)
  obtain ⟨hi, hj⟩ := hi
  refine KW.ldF 2 hv rfl rfl rfl rfl rfl rfl rfl rfl rfl ?_
  refine KW.cnd rfl rfl (fun h => ?_) (fun h => ?_)
  · refine KW.ldF 0 hv rfl rfl rfl rfl rfl rfl rfl rfl rfl ?_
    refine KW.ldF 1 hv rfl rfl rfl rfl rfl rfl rfl rfl rfl ?_
    refine KW.ldF 2 hv rfl rfl rfl rfl rfl rfl rfl rfl rfl ?_
    refine KW.getL hs.up rfl rfl rfl rfl rfl rfl rfl rfl rfl rfl rfl rfl rfl rfl rfl rfl (by omega) (h) (fun y a' m' hy hsy => ?_)
    have hy : rows[i]? = some y := hy
    refine KW.callE rfl rfl rfl rfl rfl (l03Row p c (by unfold I64 at *; have := k1.1; omega) (hB.each y (List.mem_of_getElem? hy)) hsy) (fun _ _ => ?_)
    refine KW.cndB rfl rfl (fun h4 => ?_) (fun h4 => ?_)
    · exact KW.ret rfl rfl rfl rfl (by rw [tv_false (p := OkMat p c rows) (fun hc => by rw [tv_true (hc.row y (List.mem_of_getElem? hy))] at h4; cases h4)]; rfl)
    · have h4 := tv_iff.1 (by simpa using h4)
      refine KW.nxt rfl rfl (fun H' g => ⟨i + 1, ⟨by omega, upto hj (fun z hz => by rw [hy] at hz; cases hz; exact h4)⟩, by first | omega | (simp only; omega), ⟨rfl, congrArg (Value.int .i64) (inc64 (by omega)), trivial⟩, g⟩)
  · have hE : ∀ x ∈ rows, (x.length : Int) = c ∧ Elems p x := fun x hx => by
      obtain ⟨j, hjx⟩ := List.getElem?_of_mem hx
      exact hj j (by have := (List.getElem?_eq_some_iff.1 hjx).1; omega) x hjx
    exact KW.ret rfl rfl rfl rfl (by rw [tv_true (p := OkMat p c rows) ⟨k1, k2.1, k2.2, by omega, hE⟩]; rfl)
end
end Go.Proofs.YtijmkfnmdhpakaaGreat.Am
/- What the laws' own functions do at Matrix: sizes, copies, equality, marks. Each holds under its own conditions. -/
set_option linter.unusedVariables false
set_option maxRecDepth 20000
namespace Go.Proofs.YtijmkfnmdhpakaaGreat.Am
open Go Go.RowKit Go.Proofs
abbrev T_Matrix : Type := (Int) × (Int) × (List (List Int))
abbrev K_Matrix : Kn T_Matrix := Kn.pair (KI) (Kn.pair (KI) (K_Int64SS))
abbrev M_Matrix : Kn T_Matrix := Kn.mp (KI) (Kn.mp (KI) (M_Int64SS))
theorem le_Matrix : KLe M_Matrix K_Matrix := KLe.pair ((KLe.refl KI)) (KLe.pair ((KLe.refl KI)) (le_Int64SS))
abbrev B_Matrix (x : T_Matrix) : Prop := I64 x.1 ∧ I64 x.2.1 ∧ B_Int64SS x.2.2
abbrev W_Matrix (x : T_Matrix) : Prop := I64 x.1 ∧ I64 x.2.1 ∧ W_Int64SS x.2.2
section
variable {S : Ids} {H0 : AH} {W : Ids} {left k : Int}
theorem form_Matrix {x : T_Matrix} {cs : List Value} (h : K_Matrix.R S H0 x cs) : ∃ a1 c1, cs = [.int .i64 x.1, .int .i64 x.2.1, .slice a1 x.2.2.length c1] := by
  obtain ⟨e0, d0, rfl, h0, h0_⟩ := h
  obtain ⟨e1, d1, rfl, h1, h1_⟩ := h0_
  have h2 := h1_
  obtain rfl := KI_of h0
  obtain rfl := KI_of h1
  obtain ⟨a1, c1, rfl⟩ := slform h2
  exact ⟨a1, c1, rfl⟩
theorem formM_Matrix {x : T_Matrix} {cs : List Value} (h : M_Matrix.R S H0 x cs) : ∃ a1 c1, cs = [.int .i64 x.1, .int .i64 x.2.1, .slice a1 x.2.2.length c1] := form_Matrix (le_Matrix.2 _ _ _ _ h)
theorem split_Matrix {x : T_Matrix} {cs : List Value} (h : K_Matrix.R S H0 x cs) : ∃ a1 c1, cs = [.int .i64 x.1, .int .i64 x.2.1, .slice a1 x.2.2.length c1] ∧ K_Int64SS.R S H0 x.2.2 [.slice a1 x.2.2.length c1] := by
  obtain ⟨e0, d0, rfl, h0, h0_⟩ := h
  obtain ⟨e1, d1, rfl, h1, h1_⟩ := h0_
  have h2 := h1_
  obtain rfl := KI_of h0
  obtain rfl := KI_of h1
  obtain ⟨a1, c1, rfl⟩ := slform h2
  exact ⟨a1, c1, rfl, h2⟩
theorem to_Matrix {x : T_Matrix} {cs : List Value} (hB : B_Matrix x) (h : K_Matrix.R S H0 x cs) : SpecM Tryz.prog S H0 71 [.agg cs.toArray] (fun n v H1 => ∃ cs, v = .agg cs.toArray ∧ M_Matrix.R (New n H1.n) H1 x cs) := by
  obtain ⟨a1, c1, rfl, h2⟩ := split_Matrix h
  refine SpecM.of1 Tryz.func71 rfl (by kernel_rfl) rfl (fun H _ => ?_)
  refine KW.callN1 rfl rfl rfl rfl rfl (to_Int64SS hB.2.2 (On.R h2)) (fun v G2 S2 m2 _ _ hv => ?_)
  obtain ⟨b2, d2, rfl, g2⟩ := hv
  refine KW.retM1 rfl rfl rfl rfl (fun H1 g => ?_)
  refine ⟨_, rfl, ?_⟩
  have k2 : M_Int64SS.R (New H.n H1.n) H1 x.2.2 [.slice b2 x.2.2.length d2] := (M_Int64SS).more (g.inn (H := G2) (fun _ p => by have := p.1; omega)) (g.keep g2)
  have k1 : (Kn.mp (KI) (M_Int64SS)).R (New H.n H1.n) H1 (x.2) [.int .i64 x.2.1, .slice b2 x.2.2.length d2] := mpR (X := None_) (show KI.R None_ H1 _ [.int .i64 x.2.1] from rfl) k2 (fun _ p => p.elim) (fun _ p => p) (fun _ p _ => p.elim)
  have k0 : (Kn.mp (KI) (Kn.mp (KI) (M_Int64SS))).R (New H.n H1.n) H1 (x) [.int .i64 x.1, .int .i64 x.2.1, .slice b2 x.2.2.length d2] := mpR (X := None_) (show KI.R None_ H1 _ [.int .i64 x.1] from rfl) k1 (fun _ p => p.elim) (fun _ p => p) (fun _ p _ => p.elim)
  exact k0
theorem eq_Matrix {x : T_Matrix} {cs cs' : List Value} (hB : B_Matrix x) (h : K_Matrix.R S H0 x cs) (h' : K_Matrix.R S H0 x cs') : Spec Tryz.prog S H0 78 [.agg cs.toArray, .agg cs'.toArray] (fun v => v = .bool true) := by
  obtain ⟨a1, c1, rfl, h2⟩ := split_Matrix h
  obtain ⟨b1, d1, rfl, k2⟩ := split_Matrix h'
  refine Spec.of1 Tryz.func78 rfl (by kernel_rfl) rfl (fun H _ => ?_)
  refine KW.cF rfl rfl (by first | (simp; done) | decide) ?_
  refine KW.cF rfl rfl (by first | (simp; done) | decide) ?_
  refine KW.callE rfl rfl rfl rfl rfl (eq_Int64SS hB.2.2 (On.R h2) (On.R k2)) (fun _ _ => ?_)
  refine KW.cF rfl rfl (by first | (simp; done) | decide) ?_
  exact KW.ret rfl rfl rfl rfl (rfl)
theorem sz_Matrix' {x : T_Matrix} {cs : List Value} (l0 : 0 ≤ left) (l1 : left ≤ 1048576) (hW : W_Matrix x) (h : K_Matrix.R S H0 x cs) : Spec Tryz.prog S H0 66 [.agg cs.toArray, .int .i64 left] (SzPost left (B_Matrix x)) := by
  obtain ⟨a1, c1, rfl, h2⟩ := split_Matrix h
  refine Spec.of1 Tryz.func66 rfl (by kernel_rfl) rfl (fun H _ => ?_)
  refine KW.call rfl rfl rfl rfl rfl (sz_Int64SS' l0 l1 hW.2.2 (On.R h2)) (fun v _ _ hv => ?_)
  obtain ⟨r2, rfl, k2⟩ := hv
  refine KW.cnd rfl rfl (fun h => KW.ret rfl rfl rfl rfl ⟨-1, rfl, .inl rfl⟩) (fun h => ?_)
  have k2 := k2.resolve_left (by omega)
  exact KW.ret rfl rfl rfl rfl (⟨_, rfl, .inr ⟨k2.1, by have := k2.2.1; omega, hW.1, hW.2.1, k2.2.2⟩⟩)
end
end Go.Proofs.YtijmkfnmdhpakaaGreat.Am
/- What the laws' own functions do at Scheme: sizes, copies, equality, marks. Each holds under its own conditions. -/
set_option linter.unusedVariables false
set_option maxRecDepth 20000
namespace Go.Proofs.YtijmkfnmdhpakaaGreat.Am
open Go Go.RowKit Go.Proofs
abbrev T_Scheme : Type := (Int) × (List Int) × (T_Matrix)
abbrev K_Scheme : Kn T_Scheme := Kn.pair (KI) (Kn.pair (K_Int64S) (K_Matrix))
abbrev M_Scheme : Kn T_Scheme := Kn.mp (KI) (Kn.mp (M_Int64S) (M_Matrix))
theorem le_Scheme : KLe M_Scheme K_Scheme := KLe.pair ((KLe.refl KI)) (KLe.pair (le_Int64S) (le_Matrix))
abbrev B_Scheme (x : T_Scheme) : Prop := I64 x.1 ∧ B_Int64S x.2.1 ∧ B_Matrix x.2.2
abbrev W_Scheme (x : T_Scheme) : Prop := I64 x.1 ∧ W_Int64S x.2.1 ∧ W_Matrix x.2.2
section
variable {S : Ids} {H0 : AH} {W : Ids} {left k : Int}
theorem form_Scheme {x : T_Scheme} {cs : List Value} (h : K_Scheme.R S H0 x cs) : ∃ a1 c1 a2 c2, cs = [.int .i64 x.1, .slice a1 x.2.1.length c1, .int .i64 x.2.2.1, .int .i64 x.2.2.2.1, .slice a2 x.2.2.2.2.length c2] := by
  obtain ⟨e0, d0, rfl, h0, h0_⟩ := h
  obtain ⟨e1, d1, rfl, h1, h1_⟩ := h0_
  have h2 := h1_
  obtain rfl := KI_of h0
  obtain ⟨a1, c1, rfl⟩ := slform h1
  obtain ⟨a2, c2, rfl⟩ := form_Matrix h2
  exact ⟨a1, c1, a2, c2, rfl⟩
theorem formM_Scheme {x : T_Scheme} {cs : List Value} (h : M_Scheme.R S H0 x cs) : ∃ a1 c1 a2 c2, cs = [.int .i64 x.1, .slice a1 x.2.1.length c1, .int .i64 x.2.2.1, .int .i64 x.2.2.2.1, .slice a2 x.2.2.2.2.length c2] := form_Scheme (le_Scheme.2 _ _ _ _ h)
theorem split_Scheme {x : T_Scheme} {cs : List Value} (h : K_Scheme.R S H0 x cs) : ∃ a1 c1 a2 c2, cs = [.int .i64 x.1, .slice a1 x.2.1.length c1, .int .i64 x.2.2.1, .int .i64 x.2.2.2.1, .slice a2 x.2.2.2.2.length c2] ∧ K_Int64S.R S H0 x.2.1 [.slice a1 x.2.1.length c1] ∧ K_Matrix.R S H0 x.2.2 [.int .i64 x.2.2.1, .int .i64 x.2.2.2.1, .slice a2 x.2.2.2.2.length c2] := by
  obtain ⟨e0, d0, rfl, h0, h0_⟩ := h
  obtain ⟨e1, d1, rfl, h1, h1_⟩ := h0_
  have h2 := h1_
  obtain rfl := KI_of h0
  obtain ⟨a1, c1, rfl⟩ := slform h1
  obtain ⟨a2, c2, rfl⟩ := form_Matrix h2
  exact ⟨a1, c1, a2, c2, rfl, h1, h2⟩
theorem to_Scheme {x : T_Scheme} {cs : List Value} (hB : B_Scheme x) (h : K_Scheme.R S H0 x cs) : SpecM Tryz.prog S H0 37 [.agg cs.toArray] (fun n v H1 => ∃ cs, v = .agg cs.toArray ∧ M_Scheme.R (New n H1.n) H1 x cs) := by
  obtain ⟨a1, c1, a2, c2, rfl, h1, h2⟩ := split_Scheme h
  refine SpecM.of1 Tryz.func37 rfl (by kernel_rfl) rfl (fun H _ => ?_)
  refine KW.callN1 rfl rfl rfl rfl rfl (to_Int64S hB.2.1 (On.R h1)) (fun v G1 S1 m1 _ _ hv => ?_)
  obtain ⟨b1, d1, rfl, g1⟩ := hv
  refine KW.callN1 rfl rfl rfl rfl rfl (to_Matrix hB.2.2 (On.R h2)) (fun v G2 S2 m2 _ _ hv => ?_)
  obtain ⟨w2, rfl, g2⟩ := hv
  obtain ⟨b2_0, d2_0, rfl⟩ := formM_Matrix g2
  refine KW.retM1 rfl rfl rfl rfl (fun H1 g => ?_)
  refine ⟨_, rfl, ?_⟩
  have k2 : M_Matrix.R (New G1.n H1.n) H1 x.2.2 [.int .i64 x.2.2.1, .int .i64 x.2.2.2.1, .slice b2_0 x.2.2.2.2.length d2_0] := (M_Matrix).more (g.inn (H := G2) (fun _ p => by have := p.1; omega)) (g.keep g2)
  have k1 : (Kn.mp (M_Int64S) (M_Matrix)).R (New H.n H1.n) H1 (x.2) [.slice b1 x.2.1.length d1, .int .i64 x.2.2.1, .int .i64 x.2.2.2.1, .slice b2_0 x.2.2.2.2.length d2_0] := mpR (g.keep g1) k2 (g.inn (H := G1) (fun _ p => by have := p.1; omega)) (fun _ p => ⟨by have := p.1; have := m1; omega, p.2⟩) (fun _ o p => by have := o.2; have := p.1; omega)
  have k0 : (Kn.mp (KI) (Kn.mp (M_Int64S) (M_Matrix))).R (New H.n H1.n) H1 (x) [.int .i64 x.1, .slice b1 x.2.1.length d1, .int .i64 x.2.2.1, .int .i64 x.2.2.2.1, .slice b2_0 x.2.2.2.2.length d2_0] := mpR (X := None_) (show KI.R None_ H1 _ [.int .i64 x.1] from rfl) k1 (fun _ p => p.elim) (fun _ p => p) (fun _ p _ => p.elim)
  exact k0
theorem eq_Scheme {x : T_Scheme} {cs cs' : List Value} (hB : B_Scheme x) (h : K_Scheme.R S H0 x cs) (h' : K_Scheme.R S H0 x cs') : Spec Tryz.prog S H0 44 [.agg cs.toArray, .agg cs'.toArray] (fun v => v = .bool true) := by
  obtain ⟨a1, c1, a2, c2, rfl, h1, h2⟩ := split_Scheme h
  obtain ⟨b1, d1, b2, d2, rfl, k1, k2⟩ := split_Scheme h'
  refine Spec.of1 Tryz.func44 rfl (by kernel_rfl) rfl (fun H _ => ?_)
  refine KW.cF rfl rfl (by first | (simp; done) | decide) ?_
  refine KW.callE rfl rfl rfl rfl rfl (eq_Int64S hB.2.1 (On.R h1) (On.R k1)) (fun _ _ => ?_)
  refine KW.cF rfl rfl (by first | (simp; done) | decide) ?_
  refine KW.callE rfl rfl rfl rfl rfl (eq_Matrix hB.2.2 (On.R h2) (On.R k2)) (fun _ _ => ?_)
  refine KW.cF rfl rfl (by first | (simp; done) | decide) ?_
  exact KW.ret rfl rfl rfl rfl (rfl)
theorem sz_Scheme' {x : T_Scheme} {cs : List Value} (l0 : 0 ≤ left) (l1 : left ≤ 1048576) (hW : W_Scheme x) (h : K_Scheme.R S H0 x cs) : Spec Tryz.prog S H0 31 [.agg cs.toArray, .int .i64 left] (SzPost left (B_Scheme x)) := by
  obtain ⟨a1, c1, a2, c2, rfl, h1, h2⟩ := split_Scheme h
  refine Spec.of1 Tryz.func31 rfl (by kernel_rfl) rfl (fun H _ => ?_)
  refine KW.call rfl rfl rfl rfl rfl (sz_Int64S' l0 l1 hW.2.1 (On.R h1)) (fun v _ _ hv => ?_)
  obtain ⟨r1, rfl, k1⟩ := hv
  refine KW.cnd rfl rfl (fun h => KW.ret rfl rfl rfl rfl ⟨-1, rfl, .inl rfl⟩) (fun h => ?_)
  have k1 := k1.resolve_left (by omega)
  refine KW.call rfl rfl rfl rfl rfl (sz_Matrix' k1.1 (by have := k1.2.1; omega) hW.2.2 (On.R h2)) (fun v _ _ hv => ?_)
  obtain ⟨r2, rfl, k2⟩ := hv
  refine KW.cnd rfl rfl (fun h => KW.ret rfl rfl rfl rfl ⟨-1, rfl, .inl rfl⟩) (fun h => ?_)
  have k2 := k2.resolve_left (by omega)
  exact KW.ret rfl rfl rfl rfl (⟨_, rfl, .inr ⟨k2.1, by have := k1.2.1; have := k2.2.1; omega, hW.1, k1.2.2, k2.2.2⟩⟩)
end
end Go.Proofs.YtijmkfnmdhpakaaGreat.Am
/- What the laws' own functions do at rows of rows of rows of numbers. Each holds under its own conditions. -/
set_option linter.unusedVariables false
set_option maxRecDepth 20000
namespace Go.Proofs.YtijmkfnmdhpakaaGreat.Am
open Go Go.RowKit Go.Proofs
/-- All cells. -/
abbrev ts_Int64SS (x : List (List Int)) : Nat := x.length + sum (lens x)
theorem sum_le2 {α : Type} {f g : α → Nat} (l : List α) (h : ∀ x, f x ≤ g x) : sum (l.map f) ≤ sum (l.map g) := by
  induction l with
  | nil => exact Nat.le_refl _
  | cons x l ih => have := h x; simp only [List.map_cons, sum]; omega
abbrev K_Int64SSS : Kn (List (List (List Int))) := KI.sl.sl.sl
abbrev M_Int64SSS : Kn (List (List (List Int))) := KI.ml.ml.ml
theorem le_Int64SSS : KLe M_Int64SSS K_Int64SSS := KLe.row le_Int64SS
structure B_Int64SSS (x : List (List (List Int))) : Prop where
  len : x.length ≤ 1048576
  each : ∀ y ∈ x, B_Int64SS y
  tot : sum (x.map sz_Int64SS) ≤ 1048576
abbrev W_Int64SSS (x : List (List (List Int))) : Prop := x.length ≤ 9223372036854775807 ∧ ∀ y ∈ x, W_Int64SS y
section
variable {S : Ids} {H0 : AH} {W : Ids} {a a' : Option Addr} {c c' : Nat} {left k : Int}
/-- .. with the very number. -/
theorem szx_Int64SS {x : List (List Int)} (l0 : 0 ≤ left) (l1 : left ≤ 1048576) (hW : W_Int64SS x) (hs : K_Int64SS.R S H0 x [.slice a x.length c]) : Spec Tryz.prog S H0 32 [.slice a x.length c, .int .i64 left] (fun v => ∃ r : Int, v = .int .i64 r ∧ (r = -1 ∨ (0 ≤ r ∧ r = left - ts_Int64SS x ∧ B_Int64SS x))) := by
  have hs := sl1 hs
  have hx := hW.1
  refine Spec.of1 Tryz.func32 rfl (by kernel_rfl) rfl (fun H _ => ?_)
  have e : IntKind.i64.wrap (left - (x.length : Int)) = left - (x.length : Int) := wr (by omega) (by omega)
  refine KW.cnd rfl rfl (fun h => KW.ret rfl rfl rfl rfl ⟨-1, rfl, .inl rfl⟩) (fun h => ?_)
  rw [e] at h
  refine KW.lp rfl rfl (fun s : Nat × Int => [(0, .slice a x.length c), (1, .int .i64 s.2), (5, .int .i64 s.1)]) (fun s => s.1 ≤ x.length ∧ 0 ≤ s.2 ∧ s.2 = left - x.length - (sum ((lens x).take s.1) : Nat)) (fun s => x.length - s.1) ((0, left - x.length)) (⟨by omega, by simp only; omega, by simp [sum]⟩) ⟨rfl, congrArg (Value.int .i64) e, rfl, trivial⟩ (fun s hi bE n => ?_)
  obtain ⟨i, r⟩ := s
  obtain ⟨hi, hr0, hr1⟩ := hi
  simp only at hi hr0 hr1
  refine KW.cnd rfl rfl (fun h2 => ?_) (fun h2 => KW.ret rfl rfl rfl rfl ⟨_, rfl, .inr ⟨hr0, ?_, ?_⟩⟩)
  · refine KW.getL hs.up rfl rfl rfl rfl rfl rfl rfl rfl rfl rfl rfl rfl rfl rfl rfl rfl (by omega) (h2) (fun y a' m hy hsy => ?_)
    have hy : x[i]? = some y := hy
    have hyl : (lens x)[i]? = some y.length := by simp [hy]
    have hsum := sum_take hyl
    refine KW.call rfl rfl rfl rfl rfl (szInt64S' hr0 (by omega) (hW.2 y (List.mem_of_getElem? hy))) (fun v _ _ hv => ?_)
    obtain ⟨q, rfl, hq⟩ := hv
    refine KW.cnd rfl rfl (fun h3 => KW.ret rfl rfl rfl rfl ⟨-1, rfl, .inl rfl⟩) (fun h3 => ?_)
    exact KW.nxt rfl rfl (fun H g => ⟨(i + 1, q), ⟨by simp only; omega, by simp only; omega, by simp only [hsum]; omega⟩, by simp only; omega, ⟨rfl, rfl, congrArg (Value.int .i64) (inc64 (by omega)), trivial⟩, g⟩)
  · have : i = x.length := by omega
    subst this
    rw [List.take_of_length_le (by simp)] at hr1
    simp only [ts_Int64SS]; omega
  · have : i = x.length := by omega
    subst this
    rw [List.take_of_length_le (by simp)] at hr1
    exact ⟨by omega, by omega⟩
theorem sz_Int64SSS' {x : List (List (List Int))} (l0 : 0 ≤ left) (l1 : left ≤ 1048576) (hW : W_Int64SSS x) (hs : K_Int64SSS.R S H0 x [.slice a x.length c]) : Spec Tryz.prog S H0 33 [.slice a x.length c, .int .i64 left] (SzPost left (B_Int64SSS x)) := by
  have hs := sl1 hs
  have hx := hW.1
  refine Spec.of1 Tryz.func33 rfl (by kernel_rfl) rfl (fun H _ => ?_)
  have e : IntKind.i64.wrap (left - (x.length : Int)) = left - (x.length : Int) := wr (by omega) (by omega)
  refine KW.cnd rfl rfl (fun h => KW.ret rfl rfl rfl rfl ⟨-1, rfl, .inl rfl⟩) (fun h => ?_)
  rw [e] at h
  refine KW.lp rfl rfl (fun s : Nat × Int => [(0, .slice a x.length c), (1, .int .i64 s.2), (5, .int .i64 s.1)]) (fun s => s.1 ≤ x.length ∧ 0 ≤ s.2 ∧ s.2 = left - x.length - (sum ((x.map ts_Int64SS).take s.1) : Nat) ∧ ∀ j y, j < s.1 → x[j]? = some y → B_Int64SS y) (fun s => x.length - s.1) ((0, left - x.length)) (⟨by omega, by simp only; omega, by simp [sum], fun j y h => absurd h (by simp)⟩) ⟨rfl, congrArg (Value.int .i64) e, rfl, trivial⟩ (fun s hi bE n => ?_)
  obtain ⟨i, r⟩ := s
  obtain ⟨hi, hr0, hr1, hb⟩ := hi
  simp only at hi hr0 hr1 hb
  refine KW.cnd rfl rfl (fun h2 => ?_) (fun h2 => KW.ret rfl rfl rfl rfl ⟨_, rfl, .inr ⟨hr0, by simp only; omega, ⟨by omega, ?_, ?_⟩⟩⟩)
  · refine KW.getL hs.up rfl rfl rfl rfl rfl rfl rfl rfl rfl rfl rfl rfl rfl rfl rfl rfl (by omega) (h2) (fun y a' m hy hsy => ?_)
    have hy : x[i]? = some y := hy
    have hyl : (x.map ts_Int64SS)[i]? = some (ts_Int64SS y) := by simp [hy]
    have hsum := sum_take hyl
    refine KW.call rfl rfl rfl rfl rfl (szx_Int64SS hr0 (by omega) (hW.2 y (List.mem_of_getElem? hy)) (sl1' hsy)) (fun v _ _ hv => ?_)
    obtain ⟨q, rfl, hq⟩ := hv
    refine KW.cnd rfl rfl (fun h3 => KW.ret rfl rfl rfl rfl ⟨-1, rfl, .inl rfl⟩) (fun h3 => ?_)
    have hq := hq.resolve_left (by omega)
    exact KW.nxt rfl rfl (fun H g => ⟨(i + 1, q), ⟨by simp only; omega, hq.1, by simp only [hsum]; have := hq.2.1; simp only [ts_Int64SS] at *; omega, fun j z hj hz => by
      rcases Nat.lt_or_ge j i with h | h
      · exact hb j z h hz
      · obtain rfl : j = i := by simp only at hj; omega
        rw [hy] at hz
        cases hz
        exact hq.2.2⟩, by simp only; omega, ⟨rfl, rfl, congrArg (Value.int .i64) (inc64 (by omega)), trivial⟩, g⟩)
  · intro y hy
    obtain ⟨j, hj⟩ := List.getElem?_of_mem hy
    have := (List.getElem?_eq_some_iff.1 hj).1
    exact hb j y (by omega) hj
  · have : i = x.length := by omega
    subst this
    rw [List.take_of_length_le (by simp)] at hr1
    have := sum_le2 (f := sz_Int64SS) (g := ts_Int64SS) x (fun y => by simp only [sz_Int64SS, ts_Int64SS]; omega)
    omega
theorem to_Int64SSS {x : List (List (List Int))} (hB : B_Int64SSS x) (hs : K_Int64SSS.R S H0 x [.slice a x.length c]) : SpecM Tryz.prog S H0 39 [.slice a x.length c] (fun n v H1 => ∃ a c, v = .slice a x.length c ∧ M_Int64SSS.R (New n H1.n) H1 x [.slice a x.length c]) := by
  have hs := sl1 hs
  have hl := hB.len
  refine SpecM.of1 Tryz.func39 rfl (by kernel_rfl) rfl (fun H _ => ?_)
  refine KW.mk1 rfl rfl rfl rfl rfl rfl rfl rfl rfl rfl rfl rfl (x.length) rfl rfl (by omega) (by show 24 * _ ≤ _; omega) ?_
  refine KW.lpM rfl rfl (fun s : MkS => [(0, .slice a x.length c), (3, .slice (some ⟨H.n, 0, some 1⟩) x.length x.length), (4, .int .i64 s.i)]) (fun s => s.S) (fun s => s.A) (fun s => [(H.n, ⟨_, true, s.cs⟩)]) (fun s => MkI M_Int64SS x H s) (fun s => x.length - s.i) ⟨0, Low H.n, H, fun _ _ => False, List.replicate x.length (.slice none 0 0)⟩
    (MkI.start (by simp)) ⟨rfl, rfl, rfl, trivial⟩ rfl rfl rfl (fun s hi b n => ?_)
  have hle := hi.le
  refine KW.fact (p := H.n < n ∧ ∀ id, s.S id → id < n) (fun _ g => ⟨(g.vars 0 _ rfl).2.1, fun id hid => (g.froz id hid).1⟩) (fun hHn => ?_)
  haveI : Stp (Low H.n) H s.S s.A := ⟨hi.old⟩
  refine KW.cnd rfl rfl (fun h => ?_) (fun h => ?_)
  · refine KW.getL hs.up rfl rfl rfl rfl rfl rfl rfl rfl rfl rfl rfl rfl rfl rfl rfl rfl (by omega) (h) (fun y a' m hy hsy => ?_)
    have hy : x[s.i]? = some y := hy
    refine KW.callN rfl rfl rfl rfl rfl (to_Int64SS (hB.each y (List.mem_of_getElem? hy)) (sl1' hsy)) (fun v H1 S' hn st hw hv => ?_)
    obtain ⟨a2, c2, rfl, hv⟩ := hv
    refine KW.idx0 rfl rfl rfl rfl rfl rfl rfl rfl rfl (by omega) (by omega) ?_
    refine KW.st1 0 rfl rfl rfl rfl rfl rfl rfl rfl rfl rfl rfl rfl (by have := hi.len; simp only; omega) ?_
    exact KW.nxt rfl rfl (fun H' g => ⟨_, hi.next hHn.1 hHn.2 st hw hy hv, by simp only; omega, ⟨rfl, rfl, congrArg (Value.int .i64) (inc64 (by omega)), trivial⟩, g⟩)
  · have he : s.i = x.length := by omega
    refine KW.retM rfl rfl rfl rfl hi.old (fun H1 g => ?_)
    exact ⟨_, _, rfl, ml1' (hi.ml he rfl rfl g)⟩
theorem eq_Int64SSS {x : List (List (List Int))} (hB : B_Int64SSS x) (hs : K_Int64SSS.R S H0 x [.slice a x.length c]) (hs' : K_Int64SSS.R S H0 x [.slice a' x.length c']) : Spec Tryz.prog S H0 46 [.slice a x.length c, .slice a' x.length c'] (fun v => v = .bool true) := by
  have hs := sl1 hs
  have hs' := sl1 hs'
  have hl := hB.len
  refine Spec.of1 Tryz.func46 rfl (by kernel_rfl) rfl (fun H _ => ?_)
  refine KW.cF rfl rfl (by first | (simp; done) | decide) ?_
  refine KW.lp rfl rfl (fun i : Nat => [(0, .slice a x.length c), (1, .slice a' x.length c'), (5, .int .i64 i)]) (fun i => i ≤ x.length) (fun i => x.length - i) (0) (by omega) ⟨rfl, rfl, rfl, trivial⟩ (fun i hi bE n => ?_)
  refine KW.cnd rfl rfl (fun h => ?_) (fun h => ?_)
  · refine KW.getL hs.up rfl rfl rfl rfl rfl rfl rfl rfl rfl rfl rfl rfl rfl rfl rfl rfl (by omega) (h) (fun y a1 m1 hy hsy => ?_)
    refine KW.getL hs'.up rfl rfl rfl rfl rfl rfl rfl rfl rfl rfl rfl rfl rfl rfl rfl rfl (by omega) (h) (fun z a2 m2 hz hsz => ?_)
    have hy : x[i]? = some y := hy
    have hz : x[i]? = some z := hz
    rw [hy] at hz
    cases hz
    refine KW.callE rfl rfl rfl rfl rfl (eq_Int64SS (hB.each y (List.mem_of_getElem? hy)) (sl1' hsy) (sl1' hsz)) (fun _ _ => ?_)
    refine KW.cF rfl rfl (by first | (simp; done) | decide) ?_
    refine KW.nxt rfl rfl (fun H' g => ⟨i + 1, by omega, by first | omega | (simp only; omega), ⟨rfl, rfl, congrArg (Value.int .i64) (inc64 (by omega)), trivial⟩, g⟩)
  · exact KW.ret rfl rfl rfl rfl (rfl)
end
end Go.Proofs.YtijmkfnmdhpakaaGreat.Am
/- What the laws' own functions do at Deal: sizes, copies, equality, marks. Each holds under its own conditions. -/
set_option linter.unusedVariables false
set_option maxRecDepth 20000
namespace Go.Proofs.YtijmkfnmdhpakaaGreat.Am
open Go Go.RowKit Go.Proofs
abbrev T_Deal : Type := (T_Scheme) × (Int) × (List (List Int)) × (List (List (List Int)))
abbrev K_Deal : Kn T_Deal := Kn.pair (K_Scheme) (Kn.pair (KI) (Kn.pair (K_Int64SS) (K_Int64SSS)))
abbrev M_Deal : Kn T_Deal := Kn.mp (M_Scheme) (Kn.mp (KI) (Kn.mp (M_Int64SS) (M_Int64SSS)))
theorem le_Deal : KLe M_Deal K_Deal := KLe.pair (le_Scheme) (KLe.pair ((KLe.refl KI)) (KLe.pair (le_Int64SS) (le_Int64SSS)))
abbrev B_Deal (x : T_Deal) : Prop := B_Scheme x.1 ∧ I64 x.2.1 ∧ B_Int64SS x.2.2.1 ∧ B_Int64SSS x.2.2.2
abbrev W_Deal (x : T_Deal) : Prop := W_Scheme x.1 ∧ I64 x.2.1 ∧ W_Int64SS x.2.2.1 ∧ W_Int64SSS x.2.2.2
section
variable {S : Ids} {H0 : AH} {W : Ids} {left k : Int}
theorem form_Deal {x : T_Deal} {cs : List Value} (h : K_Deal.R S H0 x cs) : ∃ a1 c1 a2 c2 a3 c3 a4 c4, cs = [.int .i64 x.1.1, .slice a1 x.1.2.1.length c1, .int .i64 x.1.2.2.1, .int .i64 x.1.2.2.2.1, .slice a2 x.1.2.2.2.2.length c2, .int .i64 x.2.1, .slice a3 x.2.2.1.length c3, .slice a4 x.2.2.2.length c4] := by
  obtain ⟨e0, d0, rfl, h0, h0_⟩ := h
  obtain ⟨e1, d1, rfl, h1, h1_⟩ := h0_
  obtain ⟨e2, d2, rfl, h2, h2_⟩ := h1_
  have h3 := h2_
  obtain ⟨a1, c1, a2, c2, rfl⟩ := form_Scheme h0
  obtain rfl := KI_of h1
  obtain ⟨a3, c3, rfl⟩ := slform h2
  obtain ⟨a4, c4, rfl⟩ := slform h3
  exact ⟨a1, c1, a2, c2, a3, c3, a4, c4, rfl⟩
theorem formM_Deal {x : T_Deal} {cs : List Value} (h : M_Deal.R S H0 x cs) : ∃ a1 c1 a2 c2 a3 c3 a4 c4, cs = [.int .i64 x.1.1, .slice a1 x.1.2.1.length c1, .int .i64 x.1.2.2.1, .int .i64 x.1.2.2.2.1, .slice a2 x.1.2.2.2.2.length c2, .int .i64 x.2.1, .slice a3 x.2.2.1.length c3, .slice a4 x.2.2.2.length c4] := form_Deal (le_Deal.2 _ _ _ _ h)
theorem split_Deal {x : T_Deal} {cs : List Value} (h : K_Deal.R S H0 x cs) : ∃ a1 c1 a2 c2 a3 c3 a4 c4, cs = [.int .i64 x.1.1, .slice a1 x.1.2.1.length c1, .int .i64 x.1.2.2.1, .int .i64 x.1.2.2.2.1, .slice a2 x.1.2.2.2.2.length c2, .int .i64 x.2.1, .slice a3 x.2.2.1.length c3, .slice a4 x.2.2.2.length c4] ∧ K_Scheme.R S H0 x.1 [.int .i64 x.1.1, .slice a1 x.1.2.1.length c1, .int .i64 x.1.2.2.1, .int .i64 x.1.2.2.2.1, .slice a2 x.1.2.2.2.2.length c2] ∧ K_Int64SS.R S H0 x.2.2.1 [.slice a3 x.2.2.1.length c3] ∧ K_Int64SSS.R S H0 x.2.2.2 [.slice a4 x.2.2.2.length c4] := by
  obtain ⟨e0, d0, rfl, h0, h0_⟩ := h
  obtain ⟨e1, d1, rfl, h1, h1_⟩ := h0_
  obtain ⟨e2, d2, rfl, h2, h2_⟩ := h1_
  have h3 := h2_
  obtain ⟨a1, c1, a2, c2, rfl⟩ := form_Scheme h0
  obtain rfl := KI_of h1
  obtain ⟨a3, c3, rfl⟩ := slform h2
  obtain ⟨a4, c4, rfl⟩ := slform h3
  exact ⟨a1, c1, a2, c2, a3, c3, a4, c4, rfl, h0, h2, h3⟩
theorem to_Deal {x : T_Deal} {cs : List Value} (hB : B_Deal x) (h : K_Deal.R S H0 x cs) : SpecM Tryz.prog S H0 10 [.agg cs.toArray] (fun n v H1 => ∃ cs, v = .agg cs.toArray ∧ M_Deal.R (New n H1.n) H1 x cs) := by
  obtain ⟨a1, c1, a2, c2, a3, c3, a4, c4, rfl, h0, h2, h3⟩ := split_Deal h
  refine SpecM.of1 Tryz.func10 rfl (by kernel_rfl) rfl (fun H _ => ?_)
  refine KW.callN1 rfl rfl rfl rfl rfl (to_Scheme hB.1 (On.R h0)) (fun v G0 S0 m0 _ _ hv => ?_)
  obtain ⟨w0, rfl, g0⟩ := hv
  obtain ⟨b0_0, d0_0, b0_1, d0_1, rfl⟩ := formM_Scheme g0
  refine KW.callN1 rfl rfl rfl rfl rfl (to_Int64SS hB.2.2.1 (On.R h2)) (fun v G2 S2 m2 _ _ hv => ?_)
  obtain ⟨b2, d2, rfl, g2⟩ := hv
  refine KW.callN1 rfl rfl rfl rfl rfl (to_Int64SSS hB.2.2.2 (On.R h3)) (fun v G3 S3 m3 _ _ hv => ?_)
  obtain ⟨b3, d3, rfl, g3⟩ := hv
  refine KW.retM1 rfl rfl rfl rfl (fun H1 g => ?_)
  refine ⟨_, rfl, ?_⟩
  have k3 : M_Int64SSS.R (New G2.n H1.n) H1 x.2.2.2 [.slice b3 x.2.2.2.length d3] := (M_Int64SSS).more (g.inn (H := G3) (fun _ p => by have := p.1; omega)) (g.keep g3)
  have k2 : (Kn.mp (M_Int64SS) (M_Int64SSS)).R (New G0.n H1.n) H1 (x.2.2) [.slice b2 x.2.2.1.length d2, .slice b3 x.2.2.2.length d3] := mpR (g.keep g2) k3 (g.inn (H := G2) (fun _ p => by have := p.1; omega)) (fun _ p => ⟨by have := p.1; have := m2; omega, p.2⟩) (fun _ o p => by have := o.2; have := p.1; omega)
  have k1 : (Kn.mp (KI) (Kn.mp (M_Int64SS) (M_Int64SSS))).R (New G0.n H1.n) H1 (x.2) [.int .i64 x.2.1, .slice b2 x.2.2.1.length d2, .slice b3 x.2.2.2.length d3] := mpR (X := None_) (show KI.R None_ H1 _ [.int .i64 x.2.1] from rfl) k2 (fun _ p => p.elim) (fun _ p => p) (fun _ p _ => p.elim)
  have k0 : (Kn.mp (M_Scheme) (Kn.mp (KI) (Kn.mp (M_Int64SS) (M_Int64SSS)))).R (New H.n H1.n) H1 (x) [.int .i64 x.1.1, .slice b0_0 x.1.2.1.length d0_0, .int .i64 x.1.2.2.1, .int .i64 x.1.2.2.2.1, .slice b0_1 x.1.2.2.2.2.length d0_1, .int .i64 x.2.1, .slice b2 x.2.2.1.length d2, .slice b3 x.2.2.2.length d3] := mpR (g.keep g0) k1 (g.inn (H := G0) (fun _ p => by have := p.1; omega)) (fun _ p => ⟨by have := p.1; have := m0; omega, p.2⟩) (fun _ o p => by have := o.2; have := p.1; omega)
  exact k0
theorem eq_Deal {x : T_Deal} {cs cs' : List Value} (hB : B_Deal x) (h : K_Deal.R S H0 x cs) (h' : K_Deal.R S H0 x cs') : Spec Tryz.prog S H0 14 [.agg cs.toArray, .agg cs'.toArray] (fun v => v = .bool true) := by
  obtain ⟨a1, c1, a2, c2, a3, c3, a4, c4, rfl, h0, h2, h3⟩ := split_Deal h
  obtain ⟨b1, d1, b2, d2, b3, d3, b4, d4, rfl, k0, k2, k3⟩ := split_Deal h'
  refine Spec.of1 Tryz.func14 rfl (by kernel_rfl) rfl (fun H _ => ?_)
  refine KW.callE rfl rfl rfl rfl rfl (eq_Scheme hB.1 (On.R h0) (On.R k0)) (fun _ _ => ?_)
  refine KW.cF rfl rfl (by first | (simp; done) | decide) ?_
  refine KW.cF rfl rfl (by first | (simp; done) | decide) ?_
  refine KW.callE rfl rfl rfl rfl rfl (eq_Int64SS hB.2.2.1 (On.R h2) (On.R k2)) (fun _ _ => ?_)
  refine KW.cF rfl rfl (by first | (simp; done) | decide) ?_
  refine KW.callE rfl rfl rfl rfl rfl (eq_Int64SSS hB.2.2.2 (On.R h3) (On.R k3)) (fun _ _ => ?_)
  refine KW.cF rfl rfl (by first | (simp; done) | decide) ?_
  exact KW.ret rfl rfl rfl rfl (rfl)
theorem sz_Deal' {x : T_Deal} {cs : List Value} (l0 : 0 ≤ left) (l1 : left ≤ 1048576) (hW : W_Deal x) (h : K_Deal.R S H0 x cs) : Spec Tryz.prog S H0 7 [.agg cs.toArray, .int .i64 left] (SzPost left (B_Deal x)) := by
  obtain ⟨a1, c1, a2, c2, a3, c3, a4, c4, rfl, h0, h2, h3⟩ := split_Deal h
  refine Spec.of1 Tryz.func7 rfl (by kernel_rfl) rfl (fun H _ => ?_)
  refine KW.call rfl rfl rfl rfl rfl (sz_Scheme' l0 l1 hW.1 (On.R h0)) (fun v _ _ hv => ?_)
  obtain ⟨r0, rfl, k0⟩ := hv
  refine KW.cnd rfl rfl (fun h => KW.ret rfl rfl rfl rfl ⟨-1, rfl, .inl rfl⟩) (fun h => ?_)
  have k0 := k0.resolve_left (by omega)
  refine KW.call rfl rfl rfl rfl rfl (sz_Int64SS' k0.1 (by have := k0.2.1; omega) hW.2.2.1 (On.R h2)) (fun v _ _ hv => ?_)
  obtain ⟨r2, rfl, k2⟩ := hv
  refine KW.cnd rfl rfl (fun h => KW.ret rfl rfl rfl rfl ⟨-1, rfl, .inl rfl⟩) (fun h => ?_)
  have k2 := k2.resolve_left (by omega)
  refine KW.call rfl rfl rfl rfl rfl (sz_Int64SSS' k2.1 (by have := k2.2.1; omega) hW.2.2.2 (On.R h3)) (fun v _ _ hv => ?_)
  obtain ⟨r3, rfl, k3⟩ := hv
  refine KW.cnd rfl rfl (fun h => KW.ret rfl rfl rfl rfl ⟨-1, rfl, .inl rfl⟩) (fun h => ?_)
  have k3 := k3.resolve_left (by omega)
  exact KW.ret rfl rfl rfl rfl (⟨_, rfl, .inr ⟨k3.1, by have := k0.2.1; have := k2.2.1; have := k3.2.1; omega, k0.2.2, hW.2.1, k2.2.2, k3.2.2⟩⟩)
end
end Go.Proofs.YtijmkfnmdhpakaaGreat.Am
/- Contracts: valid schemes and deals, of the program and of the reference. Each holds under its own conditions. -/
set_option linter.unusedVariables false
set_option maxRecDepth 20000
namespace Go.Proofs.YtijmkfnmdhpakaaGreat.Am
open Go Go.RowKit Go.Proofs
structure OkSch (h : Int) (ow : List Int) (p c : Int) (rows : List (List Int)) : Prop where
  h1 : 1 ≤ h
  h7 : h ≤ 7
  mat : OkMat p c rows
  c1 : 1 ≤ c
  len : ow.length = rows.length
  own : ∀ x ∈ ow, 0 ≤ x ∧ x ≤ h - 1
section
variable {S : Ids} {H0 : AH}
theorem validScheme1 (h y : Int) (hh : 1 ≤ h ∧ h ≤ 7) {id : Nat} {b : Blk} {vs : List Value} (hb : b.cells = .int .i64 h :: vs) (hv : S id ∧ H0.m id = some b) : Spec Tryz.prog S H0 140 [.int .i64 y, .pointer (some ⟨id, 0, none⟩)] (fun v => v = .bool (!decide (0 ≤ y ∧ y ≤ h - 1))) := by
  refine Spec.of1 Tryz.func140 rfl (by kernel_rfl) rfl (fun H _ => ?_)
  obtain ⟨hS1, hm1⟩ := On.blk (S' := Low H.n) (H' := H) hv.1 hv.2
  obtain ⟨ty, rw, cs⟩ := b
  subst hb
  refine KW.ldP hS1 hm1 rfl rfl rfl rfl rfl rfl ?_
  refine KW.callE rfl rfl rfl rfl rfl (within _ _ _) (fun _ _ => ?_)
  have e : IntKind.i64.wrap (h - 1) = h - 1 := wr (by omega) (by omega)
  refine KW.ret rfl rfl rfl rfl ?_
  rw [e]; rfl
theorem validScheme (h p c : Int) (hp : I64 p) {a1 c1 a2 c2} {ow : List Int} {rows : List (List Int)} (hO : B_Int64S ow) (hB : B_Int64SS rows) (ho : KI.Sl S H0 (.slice a1 ow.length c1) ow) (hs : KI.sl.Sl S H0 (.slice a2 rows.length c2) rows) :
    Spec Tryz.prog S H0 108 [.agg #[.int .i64 h, .slice a1 ow.length c1, .int .i64 p, .int .i64 c, .slice a2 rows.length c2]] (fun v => v = .bool (tv (OkSch h ow p c rows))) := by
  refine Spec.of1 Tryz.func108 rfl (by kernel_rfl) rfl (fun H _ => ?_)
  refine KW.callE rfl rfl rfl rfl rfl (within _ _ _) (fun _ _ => ?_)
  refine KW.tstB rfl rfl (fun k1 => ?_) (fun k1 => ?_)
  · have k1 : 1 ≤ h ∧ h ≤ 7 := by simpa using k1
    refine KW.callE rfl rfl rfl rfl rfl (validMatrix p c hp hB hs.up) (fun _ _ => ?_)
    refine KW.tstB rfl rfl (fun k2 => ?_) (fun k2 => ?_)
    · have k2 := tv_iff.1 k2
      refine KW.tst rfl rfl (fun k3 => ?_) (fun k3 => ?_)
      · have k3 : 1 ≤ c := k3
        refine KW.tstB rfl rfl (fun k4 => ?_) (fun k4 => ?_)
        · have k4 : ow.length = rows.length := by simp at k4; omega
          have hO' : ow.length ≤ 1048576 := hO
          refine KW.callV1 rfl rfl rfl rfl rfl (fun H1 g _ => containsFuncI (p := fun y => !decide (0 ≤ y ∧ y ≤ h - 1)) (by omega) ho.up (fun S' H' o y _ => validScheme1 h y k1 rfl (g.var (j := 0) rfl))) (fun _ _ => ?_)
          refine KW.ret rfl rfl rfl rfl ?_
          show Value.bool (!tv (∃ x ∈ ow, (!decide (0 ≤ x ∧ x ≤ h - 1)) = true)) = _
          by_cases hx : OkSch h ow p c rows
          · rw [tv_true hx, tv_false (fun ⟨x, h1, h2⟩ => by have := hx.own x h1; simp at h2; omega)]; rfl
          · rw [tv_false hx, tv_true ?_]; · rfl
            refine Classical.byContradiction fun hc => hx ⟨k1.1, k1.2, k2, k3, k4, fun x h1 => ?_⟩
            refine Classical.byContradiction fun h2 => hc ⟨x, h1, by simp; omega⟩
        · have k4 : ow.length ≠ rows.length := by simp at k4; omega
          repeat first | refine KW.tT rfl rfl rfl ?_ | refine KW.tF rfl rfl rfl ?_
          exact KW.ret rfl rfl rfl rfl (by rw [tv_false (p := OkSch h ow p c rows) (fun hc => k4 hc.len)]; rfl)
      · have k3 : ¬ 1 ≤ c := k3
        repeat first | refine KW.tT rfl rfl rfl ?_ | refine KW.tF rfl rfl rfl ?_
        exact KW.ret rfl rfl rfl rfl (by rw [tv_false (p := OkSch h ow p c rows) (fun hc => k3 hc.c1)]; rfl)
    · repeat first | refine KW.tT rfl rfl rfl ?_ | refine KW.tF rfl rfl rfl ?_
      exact KW.ret rfl rfl rfl rfl (by rw [tv_false (p := OkSch h ow p c rows) (fun hc => by rw [tv_true hc.mat] at k2; cases k2)]; rfl)
  · have k1 : ¬ (1 ≤ h ∧ h ≤ 7) := by simp at k1; omega
    repeat first | refine KW.tT rfl rfl rfl ?_ | refine KW.tF rfl rfl rfl ?_
    exact KW.ret rfl rfl rfl rfl (by rw [tv_false (p := OkSch h ow p c rows) (fun hc => k1 ⟨hc.h1, hc.h7⟩)]; rfl)
theorem Has3.drop {S : Ids} {H : AH} {id k : Nat} {vs ws : List Value} (h : Has3 S H id k (vs ++ ws)) : Has3 S H id (k + vs.length) ws := by
  obtain ⟨h1, b, h2, h3⟩ := h
  exact ⟨h1, b, h2, fun i v hi => by rw [Nat.add_assoc]; exact h3 _ v (by rw [List.getElem?_append_right (by omega)]; simpa using hi)⟩
theorem Has3.take {S : Ids} {H : AH} {id k : Nat} {vs ws : List Value} (h : Has3 S H id k (vs ++ ws)) : Has3 S H id k vs := by
  obtain ⟨h1, b, h2, h3⟩ := h
  exact ⟨h1, b, h2, fun i v hi => h3 i v (by rw [List.getElem?_append_left (List.getElem?_eq_some_iff.1 hi).1]; exact hi)⟩
theorem Good.has {S0 : Ids} {H0 H1 : AH} {T : List Var} {n j id : Nat} {b : Blk} {vs : List Value} (g : Good S0 H0 T n H1) (hj : T[j]? = some (id, b)) (hb : b.cells = vs) : Has3 (Low H1.n) H1 id 0 vs := ⟨(g.blk hj).2, b, (g.blk hj).1, fun i v hi => by rw [hb, Nat.zero_add]; exact hi⟩
theorem l04Ok (h p c : Int) (hp : I64 p) {id k : Nat} {a1 c1 a2 c2} {ow : List Int} {rows : List (List Int)} (hO : B_Int64S ow) (hB : B_Int64SS rows) (hv : Has3 S H0 id k [.int .i64 h, .slice a1 ow.length c1, .int .i64 p, .int .i64 c, .slice a2 rows.length c2]) (ho : KI.Sl S H0 (.slice a1 ow.length c1) ow) (hs : KI.sl.Sl S H0 (.slice a2 rows.length c2) rows) :
    Spec Tryz.prog S H0 95 [.pointer (some ⟨id, k, none⟩)] (fun v => v = .bool (tv (OkSch h ow p c rows))) := by
  refine Spec.of1 Tryz.func95 rfl (by kernel_rfl) rfl (fun H _ => ?_)
  have hO' : ow.length ≤ 1048576 := hO
  have hv := hv.up (S' := Low H.n) (H' := H)
  have ho := ho.up (S' := Low H.n) (H' := H)
  have hs := hs.up (S' := Low H.n) (H' := H)
  refine KW.ldF 0 hv rfl rfl rfl rfl rfl rfl rfl rfl rfl ?_
  refine KW.callE rfl rfl rfl rfl rfl (l00In _ _ _) (fun _ _ => ?_)
  refine KW.tstB rfl rfl (fun k1 => ?_) (fun k1 => ?_)
  · have k1 : ¬ (1 ≤ h ∧ h ≤ 7) := by simp at k1; omega
    repeat first | refine KW.tT rfl rfl rfl ?_ | refine KW.tF rfl rfl rfl ?_
    first | refine KW.cT rfl rfl rfl ?_ | refine KW.cF rfl rfl rfl ?_
    exact KW.ret rfl rfl rfl rfl (by rw [tv_false (p := OkSch h ow p c rows) (fun hc => k1 ⟨hc.h1, hc.h7⟩)]; rfl)
  have k1 : 1 ≤ h ∧ h ≤ 7 := by simpa using k1
  refine KW.callE rfl rfl rfl rfl rfl (l03Ok p c hp hB (hv.drop (vs := [_, _])) hs) (fun _ _ => ?_)
  refine KW.tstB rfl rfl (fun k2 => ?_) (fun k2 => ?_)
  · repeat first | refine KW.tT rfl rfl rfl ?_ | refine KW.tF rfl rfl rfl ?_
    first | refine KW.cT rfl rfl rfl ?_ | refine KW.cF rfl rfl rfl ?_
    exact KW.ret rfl rfl rfl rfl (by rw [tv_false (p := OkSch h ow p c rows) (fun hc => by rw [tv_true hc.mat] at k2; cases k2)]; rfl)
  have k2 : OkMat p c rows := tv_iff.1 (by simpa using k2)
  refine KW.ldF 3 hv rfl rfl rfl rfl rfl rfl rfl rfl rfl ?_
  refine KW.tst rfl rfl (fun k3 => ?_) (fun k3 => ?_)
  · have k3 : c < 1 := k3
    repeat first | refine KW.tT rfl rfl rfl ?_ | refine KW.tF rfl rfl rfl ?_
    first | refine KW.cT rfl rfl rfl ?_ | refine KW.cF rfl rfl rfl ?_
    exact KW.ret rfl rfl rfl rfl (by rw [tv_false (p := OkSch h ow p c rows) (fun hc => by have := hc.c1; omega)]; rfl)
  have k3 : ¬ c < 1 := k3
  refine KW.ldF 1 hv rfl rfl rfl rfl rfl rfl rfl rfl rfl ?_
  refine KW.ldF 4 hv rfl rfl rfl rfl rfl rfl rfl rfl rfl ?_
  refine KW.cndB rfl rfl (fun k4 => ?_) (fun k4 => ?_)
  · have k4 : ow.length ≠ rows.length := by simp at k4; omega
    exact KW.ret rfl rfl rfl rfl (by rw [tv_false (p := OkSch h ow p c rows) (fun hc => k4 hc.len)]; rfl)
  have k4 : ow.length = rows.length := by simp at k4; omega
  refine KW.lp rfl rfl (fun i : Nat => [(0, .pointer (some ⟨id, k, none⟩)), (3, .int .i64 i)]) (fun i => i ≤ ow.length ∧ ∀ j, j < i → ∀ x, ow[j]? = some x → 0 ≤ x ∧ x ≤ h - 1) (fun i => ow.length - i) (0) (⟨by omega, fun j h => absurd h (by omega)⟩) ⟨rfl, rfl, trivial⟩ (fun i hi bE n => ?_)
  obtain ⟨hi, hj⟩ := hi
  refine KW.ldF 1 hv rfl rfl rfl rfl rfl rfl rfl rfl rfl ?_
  refine KW.cnd rfl rfl (fun k5 => ?_) (fun k5 => ?_)
  · refine KW.ldF 1 hv rfl rfl rfl rfl rfl rfl rfl rfl rfl ?_
    refine KW.getI ho rfl rfl rfl rfl rfl rfl rfl rfl rfl rfl rfl rfl rfl rfl rfl rfl (by omega) (k5) (fun y hy => ?_)
    have hy : ow[i]? = some y := hy
    refine KW.ldF 0 hv rfl rfl rfl rfl rfl rfl rfl rfl rfl ?_
    refine KW.callE rfl rfl rfl rfl rfl (l00In _ _ _) (fun _ _ => ?_)
    have e : IntKind.i64.wrap (h - 1) = h - 1 := wr (by omega) (by omega)
    rw [e]
    refine KW.cndB rfl rfl (fun k6 => ?_) (fun k6 => ?_)
    · exact KW.ret rfl rfl rfl rfl (by rw [tv_false (p := OkSch h ow p c rows) (fun hc => by have := hc.own y (List.mem_of_getElem? hy); simp at k6; omega)]; rfl)
    · refine KW.nxt rfl rfl (fun H' g => ⟨i + 1, ⟨by omega, upto hj (fun z hz => by rw [hy] at hz; cases hz; simpa using k6)⟩, by first | omega | (simp only; omega), ⟨rfl, congrArg (Value.int .i64) (inc64 (by omega)), trivial⟩, g⟩)
  · exact KW.ret rfl rfl rfl rfl (by rw [tv_true (p := OkSch h ow p c rows) ⟨k1.1, k1.2, k2, by omega, k4, all_of (fun j hjl => hj j (by omega))⟩]; rfl)
end
/-- Keys of an epoch. -/
def KeysOk (p : Int) (n : Nat) (kk : List (List Int)) : Prop := kk.length = n ∧ ∀ y ∈ kk, y.length = 2 ∧ Elems p y
structure OkDeal (h : Int) (ow : List Int) (p c : Int) (rows : List (List Int)) (s : Int) (bs : List (List Int)) (ks : List (List (List Int))) : Prop where
  sch : OkSch h ow p c rows
  sec : 0 ≤ s ∧ s ≤ p - 1
  bl : 1 ≤ bs.length ∧ bs.length ≤ 4
  kl : ks.length = bs.length
  bk : ∀ (e : Nat) b kk, bs[e]? = some b → ks[e]? = some kk → ((b.length : Int) = c - 1 ∧ Elems p b) ∧ KeysOk p rows.length kk
section
variable {S : Ids} {H0 : AH}
theorem validDeal (h p c s : Int) (hp : I64 p) {a1 c1 a2 c2 a3 c3 a4 c4} {ow : List Int} {rows bs : List (List Int)} {ks : List (List (List Int))} (hO : B_Int64S ow) (hB : B_Int64SS rows) (hBb : B_Int64SS bs) (hBk : B_Int64SSS ks)
    (ho : KI.Sl S H0 (.slice a1 ow.length c1) ow) (hs : KI.sl.Sl S H0 (.slice a2 rows.length c2) rows) (hb : KI.sl.Sl S H0 (.slice a3 bs.length c3) bs) (hk : KI.sl.sl.Sl S H0 (.slice a4 ks.length c4) ks) :
    Spec Tryz.prog S H0 72 [.agg #[.int .i64 h, .slice a1 ow.length c1, .int .i64 p, .int .i64 c, .slice a2 rows.length c2, .int .i64 s, .slice a3 bs.length c3, .slice a4 ks.length c4]] (fun v => v = .bool (tv (OkDeal h ow p c rows s bs ks))) := by
  refine Spec.of1 Tryz.func72 rfl (by kernel_rfl) rfl (fun H _ => ?_)
  have bl := hBb.len
  have kl := hBk.len
  refine KW.callE rfl rfl rfl rfl rfl (validScheme h p c hp hO hB ho.up hs.up) (fun _ _ => ?_)
  refine KW.tstB rfl rfl (fun k1 => ?_) (fun k1 => ?_)
  · repeat first | refine KW.tT rfl rfl rfl ?_ | refine KW.tF rfl rfl rfl ?_
    first | refine KW.cT rfl rfl rfl ?_ | refine KW.cF rfl rfl rfl ?_
    exact KW.ret rfl rfl rfl rfl (by rw [tv_false (p := OkDeal h ow p c rows s bs ks) (fun hc => by rw [tv_true hc.sch] at k1; cases k1)]; rfl)
  have k1 : OkSch h ow p c rows := tv_iff.1 (by simpa using k1)
  have hc12 := k1.mat.c1
  have hc1 := k1.c1
  refine KW.lit rfl rfl rfl rfl rfl rfl rfl rfl rfl rfl [.int .i64 s] rfl rfl (fun v hv => by simp at hv; subst hv; rfl) rfl ?_
  refine KW.callV1 rfl rfl rfl rfl rfl (fun H1 g _ => areElements p hp (xs := [s]) (by simp) (g.ints (j := 2) rfl rfl (by simp))) (fun _ _ => ?_)
  refine KW.tstB rfl rfl (fun k2 => ?_) (fun k2 => ?_)
  · repeat first | refine KW.tT rfl rfl rfl ?_ | refine KW.tF rfl rfl rfl ?_
    first | refine KW.cT rfl rfl rfl ?_ | refine KW.cF rfl rfl rfl ?_
    exact KW.ret rfl rfl rfl rfl (by rw [tv_false (p := OkDeal h ow p c rows s bs ks) (fun hc => by rw [tv_true ⟨k1.mat.pr, fun x hx => by rw [List.mem_singleton.1 hx]; exact hc.sec⟩] at k2; cases k2)]; rfl)
  have k2 : 0 ≤ s ∧ s ≤ p - 1 := (tv_iff.1 (by simpa using k2) : PrimeP p ∧ Elems p [s]).2 s (by simp)
  refine KW.callE rfl rfl rfl rfl rfl (within _ _ _) (fun _ _ => ?_)
  refine KW.tstB rfl rfl (fun k3 => ?_) (fun k3 => ?_)
  · have k3 : ¬ (1 ≤ bs.length ∧ bs.length ≤ 4) := by simp at k3; omega
    repeat first | refine KW.tT rfl rfl rfl ?_ | refine KW.tF rfl rfl rfl ?_
    first | refine KW.cT rfl rfl rfl ?_ | refine KW.cF rfl rfl rfl ?_
    exact KW.ret rfl rfl rfl rfl (by rw [tv_false (p := OkDeal h ow p c rows s bs ks) (fun hc => k3 hc.bl)]; rfl)
  have k3 : 1 ≤ bs.length ∧ bs.length ≤ 4 := by simp at k3; omega
  refine KW.cndB rfl rfl (fun k4 => ?_) (fun k4 => ?_)
  · exact KW.ret rfl rfl rfl rfl (by rw [tv_false (p := OkDeal h ow p c rows s bs ks) (fun hc => by rw [hc.kl] at k4; simp at k4)]; rfl)
  have k4 : ks.length = bs.length := by simp at k4; omega
  refine KW.lp rfl rfl (fun i : Nat => [(1, .pointer (some ⟨H.n, 0, some 0⟩)), (3, .pointer (some ⟨H.n + 1, 0, some 1⟩)), (41, .slice a3 bs.length c3), (42, .int .i64 bs.length), (43, .int .i64 i)]) (fun i => i ≤ bs.length ∧ ∀ j, j < i → ∀ b kk, bs[j]? = some b → ks[j]? = some kk → ((b.length : Int) = c - 1 ∧ Elems p b) ∧ KeysOk p rows.length kk) (fun i => bs.length - i) (0) (⟨by omega, fun j h => absurd h (by omega)⟩) ⟨rfl, rfl, rfl, rfl, rfl, trivial⟩ (fun i hi bE n => ?_)
  obtain ⟨hi, hj⟩ := hi
  refine KW.cnd rfl rfl (fun k5 => ?_) (fun k5 => ?_)
  · refine KW.getL hb.up rfl rfl rfl rfl rfl rfl rfl rfl rfl rfl rfl rfl rfl rfl rfl rfl (by omega) (k5) (fun y a' m' hy hsy => ?_)
    have hy : bs[i]? = some y := hy
    have hym := hBb.each y (List.mem_of_getElem? hy)
    obtain ⟨kk, hkk⟩ : ∃ kk, ks[i]? = some kk := ⟨ks[i]'(by omega), List.getElem?_eq_getElem (by omega)⟩
    have bad : ¬ (((y.length : Int) = c - 1 ∧ Elems p y) ∧ KeysOk p rows.length kk) → aout [Value.bool false] = .bool (tv (OkDeal h ow p c rows s bs ks)) := fun hx => by rw [tv_false (p := OkDeal h ow p c rows s bs ks) (fun hc => hx (hc.bk i y kk hy hkk))]; rfl
    have e : IntKind.i64.wrap (c - 1) = c - 1 := wr (by omega) (by omega)
    refine KW.tstB rfl rfl (fun k6 => ?_) (fun k6 => ?_)
    · rw [e] at k6
      repeat first | refine KW.tT rfl rfl rfl ?_ | refine KW.tF rfl rfl rfl ?_
      first | refine KW.cT rfl rfl rfl ?_ | refine KW.cF rfl rfl rfl ?_
      exact KW.ret rfl rfl rfl rfl (bad (fun hc => by rw [hc.1.1] at k6; simp at k6))
    rw [e] at k6
    have k6 : (y.length : Int) = c - 1 := by simpa using k6
    refine KW.callE rfl rfl rfl rfl rfl (areElements p hp (by omega) hsy) (fun _ _ => ?_)
    refine KW.tstB rfl rfl (fun k7 => ?_) (fun k7 => ?_)
    · repeat first | refine KW.tT rfl rfl rfl ?_ | refine KW.tF rfl rfl rfl ?_
      first | refine KW.cT rfl rfl rfl ?_ | refine KW.cF rfl rfl rfl ?_
      exact KW.ret rfl rfl rfl rfl (bad (fun hc => by rw [tv_true ⟨k1.mat.pr, hc.1.2⟩] at k7; cases k7))
    have k7 : Elems p y := (tv_iff.1 (by simpa using k7) : PrimeP p ∧ Elems p y).2
    refine KW.getL hk.up rfl rfl rfl rfl rfl rfl rfl rfl rfl rfl rfl rfl rfl rfl rfl rfl (by omega) (by omega) (fun kk1 a'' m'' hkk1 hskk => ?_)
    have hkk1 : ks[i]? = some kk1 := hkk1
    rw [hkk] at hkk1
    cases hkk1
    have hkB := hBk.each kk (List.mem_of_getElem? hkk)
    have hkl := hkB.len
    refine KW.cndB rfl rfl (fun k8 => ?_) (fun k8 => ?_)
    · exact KW.ret rfl rfl rfl rfl (bad (fun hc => by rw [hc.2.1] at k8; simp at k8))
    have k8 : kk.length = rows.length := by simp at k8; omega
    refine KW.getL hk.up rfl rfl rfl rfl rfl rfl rfl rfl rfl rfl rfl rfl rfl rfl rfl rfl (by omega) (by omega) (fun kk1 a'' m'' hkk1 hskk => ?_)
    have hkk1 : ks[i]? = some kk1 := hkk1
    rw [hkk] at hkk1
    cases hkk1
    refine KW.lp rfl rfl (fun q : Nat => [(1, .pointer (some ⟨H.n, 0, some 0⟩)), (3, .pointer (some ⟨H.n + 1, 0, some 1⟩)), (41, .slice a3 bs.length c3), (42, .int .i64 bs.length), (43, .int .i64 i), (77, .slice a'' kk.length m''), (78, .int .i64 kk.length), (79, .int .i64 q)]) (fun q => q ≤ kk.length ∧ ∀ j, j < q → ∀ x, kk[j]? = some x → x.length = 2 ∧ Elems p x) (fun q => kk.length - q) (0) (⟨by omega, fun j h => absurd h (by omega)⟩) ⟨rfl, rfl, rfl, rfl, rfl, rfl, rfl, rfl, trivial⟩ (fun q hi bE n => ?_)
    obtain ⟨hq, hqj⟩ := hi
    refine KW.cnd rfl rfl (fun k9 => ?_) (fun k9 => ?_)
    · refine KW.getL hskk rfl rfl rfl rfl rfl rfl rfl rfl rfl rfl rfl rfl rfl rfl rfl rfl (by omega) (k9) (fun z a3' m3' hz hsz => ?_)
      have hz : kk[q]? = some z := hz
      have hzm := List.mem_of_getElem? hz
      refine KW.tstB rfl rfl (fun k10 => ?_) (fun k10 => ?_)
      · repeat first | refine KW.tT rfl rfl rfl ?_ | refine KW.tF rfl rfl rfl ?_
        first | refine KW.cT rfl rfl rfl ?_ | refine KW.cF rfl rfl rfl ?_
        exact KW.ret rfl rfl rfl rfl (bad (fun hc => by rw [(hc.2.2 z hzm).1] at k10; simp at k10))
      have k10 : z.length = 2 := by simp at k10; omega
      refine KW.callE rfl rfl rfl rfl rfl (areElements p hp (by omega) hsz) (fun _ _ => ?_)
      refine KW.cndB rfl rfl (fun k11 => ?_) (fun k11 => ?_)
      · exact KW.ret rfl rfl rfl rfl (bad (fun hc => by rw [tv_true ⟨k1.mat.pr, (hc.2.2 z hzm).2⟩] at k11; cases k11))
      have k11 : Elems p z := (tv_iff.1 (by simpa using k11) : PrimeP p ∧ Elems p z).2
      refine KW.nxt rfl rfl (fun H' g => ⟨q + 1, ⟨by omega, upto hqj (fun x hx => by rw [hz] at hx; cases hx; exact ⟨k10, k11⟩)⟩, by first | omega | (simp only; omega), ⟨rfl, rfl, rfl, rfl, rfl, rfl, rfl, congrArg (Value.int .i64) (inc64 (by omega)), trivial⟩, g⟩)
    · refine KW.nxt rfl rfl (fun H' g => ⟨i + 1, ⟨by omega, upto hj (fun b kk1 hb1 hk1 => by rw [hy] at hb1; rw [hkk] at hk1; cases hb1; cases hk1; exact ⟨⟨k6, k7⟩, k8, all_of (fun j hjl => hqj j (by omega))⟩)⟩, by first | omega | (simp only; omega), ⟨rfl, rfl, rfl, rfl, congrArg (Value.int .i64) (inc64 (by omega)), trivial⟩, g⟩)
  · exact KW.ret rfl rfl rfl rfl (by rw [tv_true (p := OkDeal h ow p c rows s bs ks) ⟨k1, k2, k3, k4, fun e b kk h1 h2 => hj e (by have := (List.getElem?_eq_some_iff.1 h1).1; omega) b kk h1 h2⟩]; rfl)
theorem l08Keys (p : Int) (hp : PrimeP p) {id k : Nat} {v0 : Value} {a c} {kk : List (List Int)} {vs : List Value} {aw : Option Addr} {cw w : Nat} (hB : B_Int64SS kk) (hv : Has3 S H0 id k (v0 :: .slice aw w cw :: .int .i64 p :: vs)) (hk : KI.sl.Sl S H0 (.slice a kk.length c) kk) :
    Spec Tryz.prog S H0 98 [.pointer (some ⟨id, k, none⟩), .slice a kk.length c] (fun v => v = .bool (tv (KeysOk p w kk))) := by
  refine Spec.of1 Tryz.func98 rfl (by kernel_rfl) rfl (fun H _ => ?_)
  have hv := hv.up (S' := Low H.n) (H' := H)
  have kl := hB.len
  refine KW.lp rfl rfl (fun i : Nat => [(0, .pointer (some ⟨id, k, none⟩)), (1, .slice a kk.length c), (5, .int .i64 i)]) (fun i => i ≤ kk.length ∧ ∀ j, j < i → ∀ x, kk[j]? = some x → x.length = 2 ∧ Elems p x) (fun i => kk.length - i) (0) (⟨by omega, fun j h => absurd h (by omega)⟩) ⟨rfl, rfl, rfl, trivial⟩ (fun i hi bE n => ?_)
  obtain ⟨hi, hj⟩ := hi
  refine KW.cnd rfl rfl (fun k1 => ?_) (fun k1 => ?_)
  · refine KW.ldF 2 hv rfl rfl rfl rfl rfl rfl rfl rfl rfl ?_
    refine KW.getL hk.up rfl rfl rfl rfl rfl rfl rfl rfl rfl rfl rfl rfl rfl rfl rfl rfl (by omega) (k1) (fun y a' m' hy hsy => ?_)
    have hy : kk[i]? = some y := hy
    refine KW.callE rfl rfl rfl rfl rfl (l03Row p 2 (by unfold I64; have := hp.1; have := hp.2.1; omega) (hB.each y (List.mem_of_getElem? hy)) hsy) (fun _ _ => ?_)
    refine KW.cndB rfl rfl (fun k2 => ?_) (fun k2 => ?_)
    · exact KW.ret rfl rfl rfl rfl (by rw [tv_false (p := KeysOk p w kk) (fun hc => by rw [tv_true ⟨by have := (hc.2 y (List.mem_of_getElem? hy)).1; omega, (hc.2 y (List.mem_of_getElem? hy)).2⟩] at k2; cases k2)]; rfl)
    have k2 := tv_iff.1 (by simpa using k2)
    refine KW.nxt rfl rfl (fun H' g => ⟨i + 1, ⟨by omega, upto hj (fun x hx => by rw [hy] at hx; cases hx; exact ⟨by have := k2.1; omega, k2.2⟩)⟩, by first | omega | (simp only; omega), ⟨rfl, rfl, congrArg (Value.int .i64) (inc64 (by omega)), trivial⟩, g⟩)
  · refine KW.ldF 1 hv rfl rfl rfl rfl rfl rfl rfl rfl rfl ?_
    refine KW.ret rfl rfl rfl rfl ?_
    show Value.bool (((kk.length : Nat) : Int) == ((w : Nat) : Int)) = _
    congr 1
    by_cases hx : kk.length = w
    · rw [tv_true (p := KeysOk p w kk) ⟨hx, all_of (fun j hjl => hj j (by omega))⟩, hx]; simp
    · rw [tv_false (p := KeysOk p w kk) (fun hc => hx hc.1)]; simp; omega
theorem l08Ok (h p c s : Int) (hp : I64 p) {id k : Nat} {a1 c1 a2 c2 a3 c3 a4 c4} {ow : List Int} {rows bs : List (List Int)} {ks : List (List (List Int))} (hO : B_Int64S ow) (hB : B_Int64SS rows) (hBb : B_Int64SS bs) (hBk : B_Int64SSS ks)
    (hv : Has3 S H0 id k [.int .i64 h, .slice a1 ow.length c1, .int .i64 p, .int .i64 c, .slice a2 rows.length c2, .int .i64 s, .slice a3 bs.length c3, .slice a4 ks.length c4])
    (ho : KI.Sl S H0 (.slice a1 ow.length c1) ow) (hs : KI.sl.Sl S H0 (.slice a2 rows.length c2) rows) (hb : KI.sl.Sl S H0 (.slice a3 bs.length c3) bs) (hk : KI.sl.sl.Sl S H0 (.slice a4 ks.length c4) ks) :
    Spec Tryz.prog S H0 67 [.pointer (some ⟨id, k, none⟩)] (fun v => v = .bool (tv (OkDeal h ow p c rows s bs ks))) := by
  refine Spec.of1 Tryz.func67 rfl (by kernel_rfl) rfl (fun H _ => ?_)
  have bl := hBb.len
  have kl := hBk.len
  have hv := hv.up (S' := Low H.n) (H' := H)
  refine KW.callE rfl rfl rfl rfl rfl (l04Ok h p c hp hO hB (hv.take (vs := [_, _, _, _, _])) ho.up hs.up) (fun _ _ => ?_)
  refine KW.tstB rfl rfl (fun k1 => ?_) (fun k1 => ?_)
  · repeat first | refine KW.tT rfl rfl rfl ?_ | refine KW.tF rfl rfl rfl ?_
    first | refine KW.cT rfl rfl rfl ?_ | refine KW.cF rfl rfl rfl ?_
    exact KW.ret rfl rfl rfl rfl (by rw [tv_false (p := OkDeal h ow p c rows s bs ks) (fun hc => by rw [tv_true hc.sch] at k1; cases k1)]; rfl)
  have k1 : OkSch h ow p c rows := tv_iff.1 (by simpa using k1)
  have hc12 := k1.mat.c1
  have hc1 := k1.c1
  have hp31 := k1.mat.pr.2.1
  have hp2 := k1.mat.pr.1
  have ep : IntKind.i64.wrap (p - 1) = p - 1 := wr (by omega) (by omega)
  have ec : IntKind.i64.wrap (c - 1) = c - 1 := wr (by omega) (by omega)
  refine KW.ldF 5 hv rfl rfl rfl rfl rfl rfl rfl rfl rfl ?_
  refine KW.ldF 2 hv rfl rfl rfl rfl rfl rfl rfl rfl rfl ?_
  refine KW.callE rfl rfl rfl rfl rfl (l00In _ _ _) (fun _ _ => ?_)
  rw [ep]
  refine KW.tstB rfl rfl (fun k2 => ?_) (fun k2 => ?_)
  · repeat first | refine KW.tT rfl rfl rfl ?_ | refine KW.tF rfl rfl rfl ?_
    first | refine KW.cT rfl rfl rfl ?_ | refine KW.cF rfl rfl rfl ?_
    exact KW.ret rfl rfl rfl rfl (by rw [tv_false (p := OkDeal h ow p c rows s bs ks) (fun hc => by have := hc.sec; simp at k2; omega)]; rfl)
  have k2 : 0 ≤ s ∧ s ≤ p - 1 := by simpa using k2
  refine KW.ldF 6 hv rfl rfl rfl rfl rfl rfl rfl rfl rfl ?_
  refine KW.callE rfl rfl rfl rfl rfl (l00In _ _ _) (fun _ _ => ?_)
  refine KW.tstB rfl rfl (fun k3 => ?_) (fun k3 => ?_)
  · repeat first | refine KW.tT rfl rfl rfl ?_ | refine KW.tF rfl rfl rfl ?_
    first | refine KW.cT rfl rfl rfl ?_ | refine KW.cF rfl rfl rfl ?_
    exact KW.ret rfl rfl rfl rfl (by rw [tv_false (p := OkDeal h ow p c rows s bs ks) (fun hc => by have := hc.bl; simp at k3; omega)]; rfl)
  have k3 : 1 ≤ bs.length ∧ bs.length ≤ 4 := by simp at k3; omega
  refine KW.ldF 7 hv rfl rfl rfl rfl rfl rfl rfl rfl rfl ?_
  refine KW.ldF 6 hv rfl rfl rfl rfl rfl rfl rfl rfl rfl ?_
  refine KW.cndB rfl rfl (fun k4 => ?_) (fun k4 => ?_)
  · exact KW.ret rfl rfl rfl rfl (by rw [tv_false (p := OkDeal h ow p c rows s bs ks) (fun hc => by rw [hc.kl] at k4; simp at k4)]; rfl)
  have k4 : ks.length = bs.length := by simp at k4; omega
  refine KW.lp rfl rfl (fun i : Nat => [(0, .pointer (some ⟨id, k, none⟩)), (3, .int .i64 i)]) (fun i => i ≤ bs.length ∧ ∀ j, j < i → ∀ b kk, bs[j]? = some b → ks[j]? = some kk → ((b.length : Int) = c - 1 ∧ Elems p b) ∧ KeysOk p rows.length kk) (fun i => bs.length - i) (0) (⟨by omega, fun j h => absurd h (by omega)⟩) ⟨rfl, rfl, trivial⟩ (fun i hi bE n => ?_)
  obtain ⟨hi, hj⟩ := hi
  refine KW.ldF 6 hv rfl rfl rfl rfl rfl rfl rfl rfl rfl ?_
  refine KW.cnd rfl rfl (fun k5 => ?_) (fun k5 => ?_)
  · refine KW.ldF 2 hv rfl rfl rfl rfl rfl rfl rfl rfl rfl ?_
    refine KW.ldF 3 hv rfl rfl rfl rfl rfl rfl rfl rfl rfl ?_
    refine KW.ldF 6 hv rfl rfl rfl rfl rfl rfl rfl rfl rfl ?_
    refine KW.getL hb.up rfl rfl rfl rfl rfl rfl rfl rfl rfl rfl rfl rfl rfl rfl rfl rfl (by omega) (k5) (fun y a' m' hy hsy => ?_)
    have hy : bs[i]? = some y := hy
    have hym := hBb.each y (List.mem_of_getElem? hy)
    obtain ⟨kk, hkk⟩ : ∃ kk, ks[i]? = some kk := ⟨ks[i]'(by omega), List.getElem?_eq_getElem (by omega)⟩
    have bad : ¬ (((y.length : Int) = c - 1 ∧ Elems p y) ∧ KeysOk p rows.length kk) → aout [Value.bool false] = .bool (tv (OkDeal h ow p c rows s bs ks)) := fun hx => by rw [tv_false (p := OkDeal h ow p c rows s bs ks) (fun hc => hx (hc.bk i y kk hy hkk))]; rfl
    refine KW.callE rfl rfl rfl rfl rfl (l03Row p _ (by unfold I64; omega) (by omega) hsy) (fun _ _ => ?_)
    rw [ec]
    refine KW.tstB rfl rfl (fun k6 => ?_) (fun k6 => ?_)
    · repeat first | refine KW.tT rfl rfl rfl ?_ | refine KW.tF rfl rfl rfl ?_
      first | refine KW.cT rfl rfl rfl ?_ | refine KW.cF rfl rfl rfl ?_
      exact KW.ret rfl rfl rfl rfl (bad (fun hc => by rw [tv_true hc.1] at k6; cases k6))
    have k6 := tv_iff.1 (by simpa using k6)
    refine KW.ldF 7 hv rfl rfl rfl rfl rfl rfl rfl rfl rfl ?_
    refine KW.getL hk.up rfl rfl rfl rfl rfl rfl rfl rfl rfl rfl rfl rfl rfl rfl rfl rfl (by omega) (by omega) (fun kk1 a'' m'' hkk1 hskk => ?_)
    have hkk1 : ks[i]? = some kk1 := hkk1
    rw [hkk] at hkk1
    cases hkk1
    refine KW.callE rfl rfl rfl rfl rfl (l08Keys p k1.mat.pr (hBk.each kk (List.mem_of_getElem? hkk)) hv hskk) (fun _ _ => ?_)
    refine KW.cndB rfl rfl (fun k7 => ?_) (fun k7 => ?_)
    · exact KW.ret rfl rfl rfl rfl (by rw [k1.len] at k7; exact bad (fun hc => by rw [tv_true hc.2] at k7; cases k7))
    rw [k1.len] at k7
    have k7 := tv_iff.1 (by simpa using k7)
    refine KW.nxt rfl rfl (fun H' g => ⟨i + 1, ⟨by omega, upto hj (fun b kk1 hb1 hk1 => by rw [hy] at hb1; rw [hkk] at hk1; cases hb1; cases hk1; exact ⟨k6, k7⟩)⟩, by first | omega | (simp only; omega), ⟨rfl, congrArg (Value.int .i64) (inc64 (by omega)), trivial⟩, g⟩)
  · exact KW.ret rfl rfl rfl rfl (by rw [tv_true (p := OkDeal h ow p c rows s bs ks) ⟨k1, k2, k3, k4, fun e b kk h1 h2 => hj e (by have := (List.getElem?_eq_some_iff.1 h1).1; omega) b kk h1 h2⟩]; rfl)
end
end Go.Proofs.YtijmkfnmdhpakaaGreat.Am
/- Contracts: ValidDeal, as the law asks them. Each holds under its own conditions. -/
set_option linter.unusedVariables false
set_option maxRecDepth 20000
namespace Go.Proofs.YtijmkfnmdhpakaaGreat.Am
open Go Go.RowKit Go.Proofs
/-- A deal that is valid. -/
def DealOk (x : T_Deal) : Prop := OkDeal x.1.1 x.1.2.1 x.1.2.2.1 x.1.2.2.2.1 x.1.2.2.2.2 x.2.1 x.2.2.1 x.2.2.2
section
variable {S : Ids} {H0 : AH}
theorem split2_Deal {x : T_Deal} {cs : List Value} (h : K_Deal.R S H0 x cs) : ∃ a1 c1 a2 c2 a3 c3 a4 c4, cs = [.int .i64 x.1.1, .slice a1 x.1.2.1.length c1, .int .i64 x.1.2.2.1, .int .i64 x.1.2.2.2.1, .slice a2 x.1.2.2.2.2.length c2, .int .i64 x.2.1, .slice a3 x.2.2.1.length c3, .slice a4 x.2.2.2.length c4] ∧
    KI.Sl S H0 (.slice a1 x.1.2.1.length c1) x.1.2.1 ∧ KI.sl.Sl S H0 (.slice a2 x.1.2.2.2.2.length c2) x.1.2.2.2.2 ∧ KI.sl.Sl S H0 (.slice a3 x.2.2.1.length c3) x.2.2.1 ∧ KI.sl.sl.Sl S H0 (.slice a4 x.2.2.2.length c4) x.2.2.2 := by
  obtain ⟨a1, c1, a2, c2, a3, c3, a4, c4, rfl, h0, h2, h3⟩ := split_Deal h
  obtain ⟨b1, d1, b2, d2, e0, k1, k2⟩ := split_Scheme h0
  cases e0
  obtain ⟨b3, d3, e1, k3⟩ := split_Matrix k2
  cases e1
  exact ⟨a1, c1, a2, c2, a3, c3, a4, c4, rfl, sl1 k1, sl1 k3, sl1 h2, sl1 h3⟩
end
end Go.Proofs.YtijmkfnmdhpakaaGreat.Am
/- Contracts: families and their validity. Each holds under its own conditions. -/
set_option linter.unusedVariables false
set_option maxRecDepth 20000
namespace Go.Proofs.YtijmkfnmdhpakaaGreat.Am
open Go Go.RowKit Go.Proofs
section
variable {S : Ids} {H0 : AH}
theorem l00Rises (lo hi : Int) {a c} {xs : List Int} (hl : xs.length ≤ 1048576) (hs : (Kn.int .i64).Sl S H0 (.slice a xs.length c) xs) : Spec Tryz.prog S H0 80 [.slice a xs.length c, .int .i64 lo, .int .i64 hi] (fun v => v = .bool (tv (Rises lo hi xs))) := by
  refine Spec.of Tryz.func80 rfl (by kernel_rfl) rfl (fun H hfin hfz => ?_)
  have hs := hs.to hfz
  refine KW.lp rfl rfl (fun i : Nat => [(0, .slice a xs.length c), (1, .int .i64 lo), (2, .int .i64 hi), (7, .int .i64 i)]) (fun i => i ≤ xs.length ∧ ∀ j, j < i → RiseAt lo hi xs j) (fun i => xs.length - i) 0 ⟨by omega, fun j h => absurd h (by omega)⟩ ⟨rfl, rfl, rfl, rfl, trivial⟩ (fun i hi' b n => ?_)
  obtain ⟨hi', hr⟩ := hi'
  have e1 := inc64 (i := i) (by omega)
  have bad : i < xs.length → ¬ RiseAt lo hi xs i → aout [Value.bool false] = .bool (tv (Rises lo hi xs)) := fun hi hx => by
    rw [tv_false (fun hc => hx (hc i (by omega)))]; rfl
  refine KW.cnd rfl rfl (fun h => ?_) (fun h => KW.ret rfl rfl rfl rfl ?_)
  · refine KW.getI hs rfl rfl rfl rfl rfl rfl rfl rfl rfl rfl rfl rfl rfl rfl rfl rfl (by omega) h (fun y hy => ?_)
    have hy : xs.getD i 0 = y := getD_of hy
    refine KW.callE rfl rfl rfl rfl rfl (l00In _ _ _) (fun n' _ => ?_)
    refine KW.tstB rfl rfl (fun h1 => ?_) (fun h1 => ?_)
    · simp at h1
      refine KW.cndB rfl rfl (fun h => KW.ret rfl rfl rfl rfl (bad (by omega) (fun hx => ?_))) (fun h => absurd h (by decide))
      have := hx.1; omega
    · have h1 : lo ≤ y ∧ y ≤ hi := by simpa using h1
      refine KW.tst rfl rfl (fun h2 => ?_) (fun h2 => ?_)
      · have e2 : IntKind.i64.wrap ((i : Int) - 1) = ((i - 1 : Nat) : Int) := by rw [wr (by omega) (by omega)]; omega
        refine KW.getI hs rfl rfl rfl rfl rfl rfl rfl rfl rfl rfl rfl rfl rfl rfl rfl rfl (by rw [e2]; omega) (by rw [e2]; omega) (fun z hz => ?_)
        rw [e2] at hz
        have hz : xs.getD (i - 1) 0 = z := getD_of hz
        refine KW.getI hs rfl rfl rfl rfl rfl rfl rfl rfl rfl rfl rfl rfl rfl rfl rfl rfl (by omega) (by omega) (fun y1 hy1 => ?_)
        obtain rfl : y = y1 := hy.symm.trans (getD_of hy1)
        refine KW.cnd rfl rfl (fun h3 => KW.ret rfl rfl rfl rfl (bad (by omega) (fun hx => ?_))) (fun h3 => ?_)
        · have := hx.2 (by omega); omega
        · exact KW.nxt rfl rfl (fun H g => ⟨i + 1, ⟨by omega, upto hr ⟨by omega, fun _ => by omega⟩⟩, by omega, ⟨rfl, rfl, rfl, congrArg (Value.int .i64) e1, trivial⟩, g⟩)
      · refine KW.cndB rfl rfl (fun h => absurd h (by decide)) (fun _ => ?_)
        exact KW.nxt rfl rfl (fun H g => ⟨i + 1, ⟨by omega, upto hr ⟨by omega, fun _ => by omega⟩⟩, by omega, ⟨rfl, rfl, rfl, congrArg (Value.int .i64) e1, trivial⟩, g⟩)
  · rw [tv_true (p := Rises lo hi xs) (fun j hj => hr j (by omega))]; rfl
theorem l01Group (m : Int) {a c} {xs : List Int} (hl : xs.length ≤ 1048576) (hm : -9223372036854775807 ≤ m ∧ m ≤ 9223372036854775807) (hs : (Kn.int .i64).Sl S H0 (.slice a xs.length c) xs) : Spec Tryz.prog S H0 51 [.int .i64 m, .slice a xs.length c] (fun v => v = .bool (tv (Rises 0 (m - 1) xs))) := by
  refine Spec.of Tryz.func51 rfl (by kernel_rfl) rfl (fun H hfin hfz => ?_)
  have e : IntKind.i64.wrap (m - 1) = m - 1 := wr (by omega) (by omega)
  refine KW.callE rfl rfl rfl rfl rfl (by have := l00Rises 0 (IntKind.i64.wrap (m - 1)) hl (hs.to hfz); rw [e] at this ⊢; exact this) (fun n' _ => ?_)
  exact KW.ret rfl rfl rfl rfl rfl
end
end Go.Proofs.YtijmkfnmdhpakaaGreat.Am
/- Contracts: valid families. Each holds under its own conditions. -/
set_option linter.unusedVariables false
set_option maxRecDepth 20000
namespace Go.Proofs.YtijmkfnmdhpakaaGreat.Am
open Go Go.RowKit Go.Proofs
section
variable {S : Ids} {H0 : AH}
theorem Sml.at_ {gs : List (List Int)} (h : Sml gs) {i : Nat} {g : List Int} (hg : gs[i]? = some g) : g.length ≤ 1048576 := h.each g (List.mem_of_getElem? hg)
end
end Go.Proofs.YtijmkfnmdhpakaaGreat.Am
/- Contracts: the program's check of families, and the codes. Each holds under its own conditions. -/
set_option linter.unusedVariables false
set_option maxRecDepth 20000
namespace Go.Proofs.YtijmkfnmdhpakaaGreat.Am
open Go Go.RowKit Go.Proofs
section
variable {S : Ids} {H0 : AH}
/-- The code of a family. -/
noncomputable def codeF (h : Int) (gs : List (List Int)) : Int := if tv (FamOk h gs) = true then (if h > 5 then 3 else if gs.length = 0 then 4 else if (gs.getD 0 []).length = 0 then 4 else 0) else 1
noncomputable def fitC (m u : Int) (l : List Int) (h : Int) (gs : List (List Int)) : Int := if tv (OkR m u l) = true then (if codeF h gs = 0 then (if m = h then 0 else 2) else codeF h gs) else 1
end
end Go.Proofs.YtijmkfnmdhpakaaGreat.Am
/- Contracts: which sets open, and the program's search for a misfit. Each holds under its own conditions. -/
set_option linter.unusedVariables false
set_option maxRecDepth 20000
namespace Go.Proofs.YtijmkfnmdhpakaaGreat.Am
open Go Go.RowKit Go.Proofs
theorem Fz.trans {S : Ids} {H0 H H' : AH} (h : Fz S H0 H) (k : Fz (Low H.n) H H') : Fz S H0 H' := fun id hid => by
  obtain ⟨h1, h2⟩ := h id hid
  obtain ⟨h3, h4⟩ := k id h1
  exact ⟨h3, h4.trans h2⟩
section
variable {S : Ids} {H0 : AH}
/-- A function value that tells something of each element. -/
def Tells {α : Type} (P : Program) (S : Ids) (H0 : AH) (d : Kn α) (xs : List (List α)) (g : FuncId) (cap : List Value) (p : List α → Bool) : Prop :=
  ∀ H', Fz S H0 H' → ∀ x a c, x ∈ xs → d.Sl (Low H'.n) H' (.slice a x.length c) x → Spec P (Low H'.n) H' g (.slice a x.length c :: cap) (fun v => v = .bool (p x))
theorem Tells.to {α : Type} {P : Program} {d : Kn α} {xs : List (List α)} {g : FuncId} {cap : List Value} {p : List α → Bool} {H : AH} (h : Tells P S H0 d xs g cap p) (hf : Fz S H0 H) : Tells P (Low H.n) H d xs g cap p := fun H' hf' => h H' (hf.trans hf')
/-- The set c has all holders of a group. -/
def Opens (gs : List (List Int)) (c : Nat) : Prop := ∃ g ∈ gs, c &&& bitsOf g = bitsOf g
/-- All groups are of holders below m. -/
def Below' (m : Nat) (gs : List (List Int)) : Prop := ∀ g ∈ gs, ∀ x ∈ g, 0 ≤ x ∧ x < (m : Int)
theorem FamOk.below {m : Int} {gs : List (List Int)} (h : FamOk m gs) : Below' m.toNat gs := fun g hg x hx => by
  obtain ⟨i, hi⟩ := List.getElem?_of_mem hg
  have h1 := (h.grp i (List.getElem?_eq_some_iff.1 hi).1).1
  rw [getDL_of hi] at h1
  exact rises_bound h.h1 h1 x hx
end
end Go.Proofs.YtijmkfnmdhpakaaGreat.Am
/- Contracts: the program's search for a misfit. Each holds under its own conditions. -/
set_option linter.unusedVariables false
set_option maxRecDepth 20000
namespace Go.Proofs.YtijmkfnmdhpakaaGreat.Am
open Go Go.RowKit Go.Proofs
def Grow (l : List Int) (u : Int) (gs : List (List Int)) (a b : Nat) : Prop := a &&& b = a ∧ ¬ Opens gs a ∧ Opens gs b ∧ l.getD b 0 < l.getD a 0 + u
def Meet (l : List Int) (u : Int) (gs : List (List Int)) (a b : Nat) : Prop := Opens gs a ∧ Opens gs b ∧ ¬ Opens gs (a &&& b) ∧ l.getD a 0 + l.getD b 0 < l.getD (a ||| b) 0 + l.getD (a &&& b) 0 + u
def Mis (l : List Int) (u : Int) (gs : List (List Int)) (a b : Nat) : Prop := Grow l u gs a b ∨ Meet l u gs a b
/-- The first misfit, or that there is none. -/
def Fst (l : List Int) (u : Int) (gs : List (List Int)) (a b : Nat) (f : Bool) : Prop :=
  (f = true ∧ a < l.length ∧ b < l.length ∧ Mis l u gs a b ∧ (∀ a', a' < a → ∀ b', b' < l.length → ¬ Mis l u gs a' b') ∧ ∀ b', b' < b → ¬ Mis l u gs a b') ∨
  (f = false ∧ a = 0 ∧ b = 0 ∧ ∀ a', a' < l.length → ∀ b', b' < l.length → ¬ Mis l u gs a' b')
theorem Fst.one {l : List Int} {u : Int} {gs : List (List Int)} {a b a' b' : Nat} {f f' : Bool} (h : Fst l u gs a b f) (k : Fst l u gs a' b' f') : a = a' ∧ b = b' ∧ f = f' := by
  rcases h with ⟨rfl, h1, h2, h3, h4, h5⟩ | ⟨rfl, rfl, rfl, h4⟩ <;> rcases k with ⟨rfl, k1, k2, k3, k4, k5⟩ | ⟨rfl, rfl, rfl, k4⟩
  · have ha : a = a' := by
      rcases Nat.lt_trichotomy a a' with h | h | h
      · exact absurd h3 (k4 a h b h2)
      · exact h
      · exact absurd k3 (h4 a' h b' k2)
    subst ha
    refine ⟨rfl, ?_, rfl⟩
    rcases Nat.lt_trichotomy b b' with h | h | h
    · exact absurd h3 (k5 b h)
    · exact h
    · exact absurd k3 (h5 b' h)
  · exact absurd h3 (k4 a h1 b h2)
  · exact absurd k3 (h4 a' k1 b' k2)
  · exact ⟨rfl, rfl, rfl⟩
section
variable {S : Ids} {H0 : AH}
end
end Go.Proofs.YtijmkfnmdhpakaaGreat.Am
/- Contracts: the reference's table of what opens, and its search for a misfit. Each holds under its own conditions. -/
set_option linter.unusedVariables false
set_option maxRecDepth 20000
namespace Go.Proofs.YtijmkfnmdhpakaaGreat.Am
open Go Go.RowKit Go.Proofs
theorem bool_sl {xs : List Bool} {S : Ids} {H : AH} {id c : Nat} {b : Blk} (hS : S id) (hb : H.m id = some b) (hc : b.cells = xs.map Value.bool) (hl : xs.length ≤ c) : Kn.bool.Sl S H (.slice (some ⟨id, 0, some 1⟩) xs.length c) xs := by
  refine .inr ⟨id, 0, c, b, rfl, hl, hS, hb, by rw [hc]; simp [Kn.bool], fun i x hx => ?_⟩
  obtain ⟨hi, rfl⟩ := List.getElem?_eq_some_iff.1 hx
  show _ = _
  rw [hc]
  show ((xs.map Value.bool).drop (0 + i * 1)).take 1 = _
  rw [List.take_one, Nat.zero_add, Nat.mul_one, List.head?_drop]
  simp [hi]
section
variable {S : Ids} {H0 : AH}
end
end Go.Proofs.YtijmkfnmdhpakaaGreat.Am
/- Contracts: FitsFamily, of the program and of the reference. Each holds under its own conditions. -/
set_option linter.unusedVariables false
set_option maxRecDepth 20000
namespace Go.Proofs.YtijmkfnmdhpakaaGreat.Am
open Go Go.RowKit Go.Proofs
theorem Fst.none_ {l : List Int} {u : Int} {gs : List (List Int)} {a b : Nat} {f : Bool} (h : Fst l u gs a b f) : (!f) = tv (∀ a, a < l.length → ∀ b, b < l.length → ¬ Mis l u gs a b) := by
  rcases h with ⟨rfl, h1, h2, h3, _⟩ | ⟨rfl, _, _, h4⟩
  · rw [tv_false (fun hc => hc a h1 b h2 h3)]; rfl
  · rw [tv_true h4]; rfl
section
variable {S : Ids} {H0 : AH}
end
end Go.Proofs.YtijmkfnmdhpakaaGreat.Am
/- Contracts: sets as groups, marks on ranks and families. Each holds under its own conditions. -/
set_option linter.unusedVariables false
set_option maxRecDepth 20000
namespace Go.Proofs.YtijmkfnmdhpakaaGreat.Am
open Go Go.RowKit Go.Proofs
section
variable {P : Program} {S : Ids} {H0 : AH} {Q : PostC} {k k1 : List It} {e e1 : Env} {T T1 : List Var} {n n1 : Nat} {l1 r1 : List Nat} {d1 : Tmp}
theorem KW.shr {o : Oper} {dr : Bool} {t u : TypeId} {x y : Operand} {ik kk : IntKind} {j : Int} {v : Int} (h : Go1 P k e T n (.op o dr) k1 e1 T1 n1 l1 r1) (hlr : l1 = r1) (ho : o.op = .binOp .shr t x y u) (hd : o.dst = some d1) (hx : ev e1 x = .int ik v) (hy : ev e1 y = .int kk j) (hb : ik.bits = 64) (a m : Nat) (hv : v = a) (hj : j = m) (hm : m ≤ 63)
    (hk : KW P S H0 Q n1 T1 k1 (put1 e1 d1 (.int ik ((a / 2 ^ m : Nat) : Int)))) : KW P S H0 Q n T k e := by
  refine KW.pure h hlr ho hd rfl _ ?_ hk
  subst hj hv
  simp only [pop, hx, hy, abin, ashift]
  rw [if_neg (by omega), hb]
  have e1 : min (m : Int).toNat 64 = m := by omega
  rw [e1]
  congr 2
  rw [Int.fdiv_eq_ediv_of_nonneg _ (by exact Int.pow_nonneg (by decide))]
  exact_mod_cast rfl
end
/-- The holders below n that are in a set. -/
def hold (x n : Nat) : List Int := ((List.range n).filter fun i => x.testBit i).map fun (i : Nat) => (i : Int)
theorem hold_next (x n : Nat) : hold x (n + 1) = if x.testBit n = true then hold x n ++ [(n : Int)] else hold x n := by
  unfold hold
  rw [List.range_succ, List.filter_append, List.map_append]
  by_cases h : x.testBit n = true
  · simp [h]
  · have h : x.testBit n = false := by simpa using h
    simp [h]
theorem hold_len (x n : Nat) : (hold x n).length ≤ n := by
  unfold hold
  rw [List.length_map]
  exact Nat.le_trans (List.length_filter_le _ _) (by simp)
theorem bit_is {x h : Nat} : (((x / 2 ^ h) &&& 1 : Nat) == 1) = x.testBit h := by
  rw [Nat.testBit_eq_decide_div_mod_eq, Nat.and_one_is_mod]
  rfl
section
variable {S : Ids} {H0 : AH}
theorem has {x h : Nat} (hx : x < 4611686018427387904) (hh : h ≤ 63) : Spec Tryz.prog S H0 127 [.int .u64 x, .int .i64 h] (fun v => v = .bool (x.testBit h)) := by
  refine Spec.of Tryz.func127 rfl (by kernel_rfl) rfl (fun H hfin hfz => ?_)
  refine KW.shr rfl rfl rfl rfl rfl rfl rfl x h rfl rfl hh ?_
  refine KW.ret rfl rfl rfl rfl ?_
  show Value.bool (IntKind.u64.wrap ((BitVec.ofInt IntKind.u64.bits ((x / 2 ^ h : Nat) : Int) &&& BitVec.ofInt IntKind.u64.bits ((1 : Nat) : Int)).toNat : Int) == ((1 : Nat) : Int)) = _
  rw [and_u64 (Nat.lt_of_le_of_lt (Nat.div_le_self _ _) hx) (by decide), ← bit_is]
  congr 1
  generalize x / 2 ^ h &&& 1 = q
  by_cases e : q = 1
  · subst e; rfl
  · rw [show (q == 1) = false from by simpa using e]
    simp only [beq_eq_false_iff_ne, ne_eq]
    omega
end
end Go.Proofs.YtijmkfnmdhpakaaGreat.Am
/- Contracts: rows held, products, shares, values and tags, of the program and of the reference. Each holds under its own conditions. -/
set_option linter.unusedVariables false
set_option maxRecDepth 20000
namespace Go.Proofs.YtijmkfnmdhpakaaGreat.Am
open Go Go.RowKit Go.Proofs
/-- The places below n of which q tells true. -/
def rowsP (q : Nat → Bool) (n : Nat) : List Int := ((List.range n).filter q).map fun (i : Nat) => (i : Int)
theorem rowsP_next (q : Nat → Bool) (n : Nat) : rowsP q (n + 1) = if q n = true then rowsP q n ++ [(n : Int)] else rowsP q n := by
  unfold rowsP
  rw [List.range_succ, List.filter_append, List.map_append]
  by_cases hc : q n = true
  · simp [hc]
  · have hc : q n = false := by simpa using hc
    simp [hc]
theorem rowsP_len (q : Nat → Bool) (n : Nat) : (rowsP q n).length ≤ n := by
  unfold rowsP
  rw [List.length_map]
  exact Nat.le_trans (List.length_filter_le _ _) (by simp)
theorem rowsP_mem {q : Nat → Bool} {n : Nat} {x : Int} (hx : x ∈ rowsP q n) : 0 ≤ x ∧ x < n := by
  unfold rowsP at hx
  obtain ⟨i, hi, rfl⟩ := List.mem_map.1 hx
  have := List.mem_range.1 (List.mem_filter.1 hi).1
  omega
theorem rowsP_congr {q q' : Nat → Bool} {n : Nat} (h : ∀ i, i < n → q i = q' i) : rowsP q n = rowsP q' n := by
  unfold rowsP
  congr 1
  exact List.filter_congr fun i hi => h i (List.mem_range.1 hi)
abbrev rowsOf (ow : List Int) (h : Int) : List Int := rowsP (fun i => decide (ow.getD i 0 = h)) ow.length
/-- Sums of products. -/
def dotN (a b : List Int) : Nat → Int
  | 0 => 0
  | n + 1 => dotN a b n + a.getD n 0 * b.getD n 0
def dotS (p : Int) (a b : List Int) : Int := dotN a b a.length % p
theorem elem_at {p : Int} {a : List Int} (h : Elems p a) (hp : 2 ≤ p) (i : Nat) : 0 ≤ a.getD i 0 ∧ a.getD i 0 ≤ p - 1 := by
  rcases Nat.lt_or_ge i a.length with hi | hi
  · rw [List.getD_eq_getElem?_getD, List.getElem?_eq_getElem hi]
    exact h _ (List.getElem_mem hi)
  · rw [List.getD_eq_getElem?_getD, List.getElem?_eq_none hi]
    show 0 ≤ (0 : Int) ∧ (0 : Int) ≤ p - 1
    omega
theorem mul_small {p x y : Int} (hp : p ≤ 31) (hx : 0 ≤ x ∧ x ≤ p - 1) (hy : 0 ≤ y ∧ y ≤ p - 1) : 0 ≤ x * y ∧ x * y ≤ 900 := by
  refine ⟨Int.mul_nonneg hx.1 hy.1, ?_⟩
  have h1 : x * y ≤ 30 * 30 := Int.mul_le_mul (by omega) (by omega) hy.1 (by omega)
  omega
theorem dotN_in {p : Int} {a b : List Int} (hp : PrimeP p) (ha : Elems p a) (hb : Elems p b) : ∀ n, 0 ≤ dotN a b n ∧ dotN a b n ≤ 900 * n
  | 0 => by simp [dotN]
  | n + 1 => by
    have h1 := dotN_in hp ha hb n
    have h2 := mul_small hp.2.1 (elem_at ha hp.1 n) (elem_at hb hp.1 n)
    simp only [dotN]
    omega
def shares (p : Int) (rows : List (List Int)) (all : List Int) : List Int := rows.map fun r => dotS p r all
theorem map_take_succ {α β : Type} (f : α → β) {xs : List α} {i : Nat} {x : α} (h : xs[i]? = some x) : (xs.take (i + 1)).map f = (xs.take i).map f ++ [f x] := by
  obtain ⟨hi, rfl⟩ := List.getElem?_eq_some_iff.1 h
  rw [List.take_succ_eq_append_getElem hi, List.map_append]; rfl
section
variable {S : Ids} {H0 : AH}
theorem dot (p : Int) (hp : PrimeP p) {a1 c1 a2 c2} {a b : List Int} (hl : a.length = b.length) (h12 : a.length ≤ 1048576) (ea : Elems p a) (eb : Elems p b) (ha : KI.Sl S H0 (.slice a1 a.length c1) a) (hb : KI.Sl S H0 (.slice a2 b.length c2) b) :
    Spec Tryz.prog S H0 133 [.int .i64 p, .slice a1 a.length c1, .slice a2 b.length c2] (fun v => v = .int .i64 (dotS p a b)) := by
  refine Spec.of1 Tryz.func133 rfl (by kernel_rfl) rfl (fun H _ => ?_)
  refine KW.lp rfl rfl (fun i : Nat => [(0, .int .i64 p), (2, .slice a2 b.length c2), (7, .int .i64 (dotN a b i)), (10, .slice a1 a.length c1), (11, .int .i64 a.length), (12, .int .i64 i)]) (fun i => i ≤ a.length) (fun i => a.length - i) (0) (by omega) ⟨rfl, rfl, rfl, rfl, rfl, rfl, trivial⟩ (fun i hi bE n => ?_)
  refine KW.cnd rfl rfl (fun h => ?_) (fun h => ?_)
  · refine KW.getI ha.up rfl rfl rfl rfl rfl rfl rfl rfl rfl rfl rfl rfl rfl rfl rfl rfl (by omega) (h) (fun x hx => ?_)
    refine KW.getI hb.up rfl rfl rfl rfl rfl rfl rfl rfl rfl rfl rfl rfl rfl rfl rfl rfl (by omega) (by omega) (fun y hy => ?_)
    have hx : a.getD i 0 = x := getD_of hx
    have hy : b.getD i 0 = y := getD_of hy
    have h1 := dotN_in hp ea eb i
    have h2 := mul_small hp.2.1 (elem_at ea hp.1 i) (elem_at eb hp.1 i)
    have e : dotN a b (i + 1) = dotN a b i + a.getD i 0 * b.getD i 0 := rfl
    rw [hx, hy] at h2 e
    have e2 : Value.int .i64 (IntKind.i64.wrap (dotN a b i + IntKind.i64.wrap (x * y))) = .int .i64 (dotN a b (i + 1)) := by
      rw [wr (x := x * y) (by omega) (by omega), wr (by omega) (by omega), e]
    refine KW.nxt rfl rfl (fun H' g => ⟨i + 1, by omega, by first | omega | (simp only; omega), ⟨rfl, rfl, e2, rfl, rfl, congrArg (Value.int .i64) (inc64 (by omega)), trivial⟩, g⟩)
  · obtain rfl : i = a.length := by omega
    have h1 := dotN_in hp ea eb a.length
    refine KW.rem rfl rfl rfl rfl rfl rfl (h1.1) (by have := hp.1; omega) ?_
    exact KW.ret rfl rfl rfl rfl (rfl)
theorem l03Dot (p : Int) (hp : PrimeP p) {a1 c1 a2 c2} {a b : List Int} (hl : a.length = b.length) (h12 : a.length ≤ 1048576) (ea : Elems p a) (eb : Elems p b) (ha : KI.Sl S H0 (.slice a1 a.length c1) a) (hb : KI.Sl S H0 (.slice a2 b.length c2) b) :
    Spec Tryz.prog S H0 126 [.int .i64 p, .slice a1 a.length c1, .slice a2 b.length c2] (fun v => v = .int .i64 (dotS p a b)) := by
  refine Spec.of1 Tryz.func126 rfl (by kernel_rfl) rfl (fun H _ => ?_)
  refine KW.lp rfl rfl (fun i : Nat => [(0, .int .i64 p), (1, .slice a1 a.length c1), (2, .slice a2 b.length c2), (7, .int .i64 (dotN a b i)), (8, .int .i64 i)]) (fun i => i ≤ a.length) (fun i => a.length - i) (0) (by omega) ⟨rfl, rfl, rfl, rfl, rfl, trivial⟩ (fun i hi bE n => ?_)
  refine KW.cnd rfl rfl (fun h => ?_) (fun h => ?_)
  · refine KW.getI ha.up rfl rfl rfl rfl rfl rfl rfl rfl rfl rfl rfl rfl rfl rfl rfl rfl (by omega) (h) (fun x hx => ?_)
    refine KW.getI hb.up rfl rfl rfl rfl rfl rfl rfl rfl rfl rfl rfl rfl rfl rfl rfl rfl (by omega) (by omega) (fun y hy => ?_)
    have hx : a.getD i 0 = x := getD_of hx
    have hy : b.getD i 0 = y := getD_of hy
    have h1 := dotN_in hp ea eb i
    have h2 := mul_small hp.2.1 (elem_at ea hp.1 i) (elem_at eb hp.1 i)
    have e : dotN a b (i + 1) = dotN a b i + a.getD i 0 * b.getD i 0 := rfl
    rw [hx, hy] at h2 e
    have e2 : Value.int .i64 (IntKind.i64.wrap (dotN a b i + IntKind.i64.wrap (x * y))) = .int .i64 (dotN a b (i + 1)) := by
      rw [wr (x := x * y) (by omega) (by omega), wr (by omega) (by omega), e]
    refine KW.nxt rfl rfl (fun H' g => ⟨i + 1, by omega, by first | omega | (simp only; omega), ⟨rfl, rfl, rfl, e2, congrArg (Value.int .i64) (inc64 (by omega)), trivial⟩, g⟩)
  · obtain rfl : i = a.length := by omega
    have h1 := dotN_in hp ea eb a.length
    refine KW.rem rfl rfl rfl rfl rfl rfl (h1.1) (by have := hp.1; omega) ?_
    exact KW.ret rfl rfl rfl rfl (rfl)
/-- What a maker of a list of numbers yields. -/
def MkL (xs : List Int) (n : Nat) (v : Value) (H1 : AH) : Prop := ∃ a c, v = .slice a xs.length c ∧ KI.Ml (New n H1.n) H1 (.slice a xs.length c) xs
theorem MkL.of {S0 : Ids} {H0 H1 : AH} {T : List Var} {n j id n0 : Nat} {ty : TypeId} {xs : List Int} (g : Good S0 H0 T n H1) (hj : T[j]? = some (id, ⟨ty, true, xs.map (Value.int .i64)⟩)) (hn : n0 ≤ id) : MkL xs n0 (.slice (some ⟨id, 0, some 1⟩) xs.length xs.length) H1 :=
  ⟨_, _, rfl, int_ml ⟨hn, (g.blk hj).2⟩ (g.blk hj).1 rfl rfl (Nat.le_refl _)⟩
theorem rowsHeld (h p c : Int) (x : Nat) (hx : x < 4611686018427387904) {a1 c1} {v2 : Option Addr} {n2 c2 : Nat} {ow : List Int} (hO : B_Int64S ow) (hown : ∀ x ∈ ow, 0 ≤ x ∧ x ≤ h - 1) (hh : h ≤ 7) (ho : KI.Sl S H0 (.slice a1 ow.length c1) ow) :
    SpecM Tryz.prog S H0 92 [.agg #[.int .i64 h, .slice a1 ow.length c1, .int .i64 p, .int .i64 c, .slice v2 n2 c2], .int .u64 (x : Int)] (MkL (rowsP (fun i => x.testBit (ow.getD i 0).toNat) ow.length)) := by
  refine SpecM.of1 Tryz.func92 rfl (by kernel_rfl) rfl (fun H _ => ?_)
  have hO' : ow.length ≤ 1048576 := hO
  refine KW.lit rfl rfl rfl rfl rfl rfl rfl rfl rfl rfl [] rfl rfl (fun v hv => by simp at hv) rfl ?_
  refine KW.lpM rfl rfl (fun s : Nat × Nat => [(1, .int .u64 (x : Int)), (5, .slice (some ⟨s.2, 0, some 1⟩) (rowsP (fun i => x.testBit (ow.getD i 0).toNat) s.1).length (rowsP (fun i => x.testBit (ow.getD i 0).toNat) s.1).length), (10, .slice a1 ow.length c1), (11, .int .i64 ow.length), (12, .int .i64 s.1)]) (fun s => Low H.n) (fun s => H) (fun s => [(H.n, ⟨_, true, _⟩), (s.2, ⟨_, true, (rowsP (fun i => x.testBit (ow.getD i 0).toNat) s.1).map (Value.int .i64)⟩)]) (fun s => s.1 ≤ ow.length) (fun s => ow.length - s.1) ((0, H.n + 1)) (by simp) ⟨rfl, rfl, rfl, rfl, rfl, trivial⟩ rfl rfl (rfl) (fun s hi bE n => ?_)
  obtain ⟨q, o⟩ := s
  simp only at hi
  have hq : (rowsP (fun i => x.testBit (ow.getD i 0).toNat) q).length ≤ q := rowsP_len _ q
  refine KW.cnd rfl rfl (fun k1 => ?_) (fun k1 => ?_)
  · refine KW.getI ho.up rfl rfl rfl rfl rfl rfl rfl rfl rfl rfl rfl rfl rfl rfl rfl rfl (by omega) (k1) (fun y hy => ?_)
    have hy' : ow[q]? = some y := hy
    have hyb := hown y (List.mem_of_getElem? hy')
    obtain ⟨z, rfl⟩ : ∃ z : Nat, y = z := ⟨y.toNat, by omega⟩
    have hyd : ow.getD q 0 = z := getD_of hy'
    have e := rowsP_next (fun i => x.testBit (ow.getD i 0).toNat) q
    simp only [hyd, Int.toNat_natCast] at e
    refine KW.callE rfl rfl rfl rfl rfl (has (x := x) (h := z) hx (by omega)) (fun _ _ => ?_)
    refine KW.cndB rfl rfl (fun k2 => ?_) (fun k2 => ?_)
    · rw [if_pos k2] at e
      refine KW.app1 (xs := (rowsP (fun i => x.testBit (ow.getD i 0).toNat) q).map (Value.int .i64)) (v := .int .i64 q) 1 2 rfl rfl rfl rfl rfl rfl rfl rfl rfl rfl rfl rfl rfl rfl rfl rfl rfl rfl rfl rfl rfl rfl rfl (by simp) (by show (_ + 1) * 8 ≤ _; first | omega | (simp only; omega)) (by first | omega | (simp only; omega)) ?_
      refine KW.nxt rfl rfl (fun H' g => ⟨(q + 1, _), by simp only; omega, by first | omega | (simp only; omega), ⟨rfl, by simp only [e, List.length_append, List.length_singleton]; rfl, rfl, rfl, congrArg (Value.int .i64) (inc64 (by omega)), trivial⟩, g.eqT (by simp only [e, List.map_append]; rfl)⟩)
    · rw [if_neg (by rw [k2]; decide)] at e
      refine KW.nxt rfl rfl (fun H' g => ⟨(q + 1, o), by simp only; omega, by first | omega | (simp only; omega), ⟨rfl, by simp only [e]; rfl, rfl, rfl, congrArg (Value.int .i64) (inc64 (by omega)), trivial⟩, g.eqT (by simp only [e])⟩)
  · obtain rfl : q = ow.length := by simp only at k1; omega
    refine KW.retM1 rfl rfl rfl rfl (fun H1 g => MkL.of g (j := 1) rfl (g.ge (H1 := H) (j := 1) rfl))
theorem l00Has (n0 : Int) {a c} {xs : List Int} (hl : xs.length ≤ 1048576) (hs : KI.Sl S H0 (.slice a xs.length c) xs) : Spec Tryz.prog S H0 159 [.slice a xs.length c, .int .i64 n0] (fun v => v = .bool (decide (n0 ∈ xs))) := by
  refine Spec.of1 Tryz.func159 rfl (by kernel_rfl) rfl (fun H _ => ?_)
  refine KW.lp rfl rfl (fun i : Nat => [(0, .slice a xs.length c), (1, .int .i64 n0), (5, .int .i64 i)]) (fun i => i ≤ xs.length ∧ ∀ j, j < i → ∀ x, xs[j]? = some x → x ≠ n0) (fun i => xs.length - i) (0) (⟨by omega, fun j h => absurd h (by omega)⟩) ⟨rfl, rfl, rfl, trivial⟩ (fun i hi bE n => ?_)
  obtain ⟨hi, hj⟩ := hi
  refine KW.cnd rfl rfl (fun k1 => ?_) (fun k1 => ?_)
  · refine KW.getI hs.up rfl rfl rfl rfl rfl rfl rfl rfl rfl rfl rfl rfl rfl rfl rfl rfl (by omega) (k1) (fun y hy => ?_)
    have hy : xs[i]? = some y := hy
    refine KW.cndB rfl rfl (fun k2 => ?_) (fun k2 => ?_)
    · have k2 : y = n0 := by simpa using k2
      exact KW.ret rfl rfl rfl rfl (by rw [← k2, decide_eq_true (List.mem_of_getElem? hy)]; rfl)
    · have k2 : y ≠ n0 := by simpa using k2
      refine KW.nxt rfl rfl (fun H' g => ⟨i + 1, ⟨by omega, upto hj (fun z hz => by rw [hy] at hz; cases hz; exact k2)⟩, by first | omega | (simp only; omega), ⟨rfl, rfl, congrArg (Value.int .i64) (inc64 (by omega)), trivial⟩, g⟩)
  · exact KW.ret rfl rfl rfl rfl (by rw [decide_eq_false (fun hm => all_of (fun j hjl => hj j (by omega)) n0 hm rfl)]; rfl)
theorem l04Held (h p c : Int) {id k : Nat} {a1 c1 a c2} {ow g0 : List Int} {v2 : Value} (hO : B_Int64S ow) (hG : g0.length ≤ 1048576) (hv : Has3 S H0 id k [.int .i64 h, .slice a1 ow.length c1, .int .i64 p, .int .i64 c, v2]) (ho : KI.Sl S H0 (.slice a1 ow.length c1) ow) (hg : KI.Sl S H0 (.slice a g0.length c2) g0) :
    SpecM Tryz.prog S H0 137 [.pointer (some ⟨id, k, none⟩), .slice a g0.length c2] (MkL (rowsP (fun i => decide (ow.getD i 0 ∈ g0)) ow.length)) := by
  refine SpecM.of1 Tryz.func137 rfl (by kernel_rfl) rfl (fun H _ => ?_)
  have hO' : ow.length ≤ 1048576 := hO
  have hv := hv.up (S' := Low H.n) (H' := H)
  refine KW.lit rfl rfl rfl rfl rfl rfl rfl rfl rfl rfl [] rfl rfl (fun v hv => by simp at hv) rfl ?_
  refine KW.lpM rfl rfl (fun s : Nat × Nat => [(0, .pointer (some ⟨id, k, none⟩)), (1, .slice a g0.length c2), (5, .slice (some ⟨s.2, 0, some 1⟩) (rowsP (fun i => decide (ow.getD i 0 ∈ g0)) s.1).length (rowsP (fun i => decide (ow.getD i 0 ∈ g0)) s.1).length), (6, .int .i64 s.1)]) (fun s => Low H.n) (fun s => H) (fun s => [(s.2, ⟨_, true, (rowsP (fun i => decide (ow.getD i 0 ∈ g0)) s.1).map (Value.int .i64)⟩)]) (fun s => s.1 ≤ ow.length) (fun s => ow.length - s.1) ((0, H.n)) (by simp) ⟨rfl, rfl, rfl, rfl, trivial⟩ rfl rfl (rfl) (fun s hi bE n => ?_)
  obtain ⟨q, o⟩ := s
  simp only at hi
  have hq : (rowsP (fun i => decide (ow.getD i 0 ∈ g0)) q).length ≤ q := rowsP_len _ q
  refine KW.ldF 1 hv rfl rfl rfl rfl rfl rfl rfl rfl rfl ?_
  refine KW.cnd rfl rfl (fun k1 => ?_) (fun k1 => ?_)
  · refine KW.ldF 1 hv rfl rfl rfl rfl rfl rfl rfl rfl rfl ?_
    refine KW.getI ho.up rfl rfl rfl rfl rfl rfl rfl rfl rfl rfl rfl rfl rfl rfl rfl rfl (by omega) (k1) (fun y hy => ?_)
    have hy' : ow[q]? = some y := hy
    have hyd : ow.getD q 0 = y := getD_of hy'
    have e := rowsP_next (fun i => decide (ow.getD i 0 ∈ g0)) q
    simp only [hyd] at e
    refine KW.callE rfl rfl rfl rfl rfl (l00Has y hG hg.up) (fun _ _ => ?_)
    refine KW.cndB rfl rfl (fun k2 => ?_) (fun k2 => ?_)
    · rw [if_pos k2] at e
      refine KW.app1 (xs := (rowsP (fun i => decide (ow.getD i 0 ∈ g0)) q).map (Value.int .i64)) (v := .int .i64 q) 0 1 rfl rfl rfl rfl rfl rfl rfl rfl rfl rfl rfl rfl rfl rfl rfl rfl rfl rfl rfl rfl rfl rfl rfl (by simp) (by show (_ + 1) * 8 ≤ _; first | omega | (simp only; omega)) (by first | omega | (simp only; omega)) ?_
      refine KW.nxt rfl rfl (fun H' g => ⟨(q + 1, _), by simp only; omega, by first | omega | (simp only; omega), ⟨rfl, rfl, by simp only [e, List.length_append, List.length_singleton]; rfl, congrArg (Value.int .i64) (inc64 (by omega)), trivial⟩, g.eqT (by simp only [e, List.map_append]; rfl)⟩)
    · rw [if_neg (by rw [k2]; decide)] at e
      refine KW.nxt rfl rfl (fun H' g => ⟨(q + 1, o), by simp only; omega, by first | omega | (simp only; omega), ⟨rfl, rfl, by simp only [e]; rfl, congrArg (Value.int .i64) (inc64 (by omega)), trivial⟩, g.eqT (by simp only [e])⟩)
  · obtain rfl : q = ow.length := by simp only at k1; omega
    refine KW.retM1 rfl rfl rfl rfl (fun H1 g => MkL.of g (j := 0) rfl (g.ge (H1 := H) (j := 0) rfl))
end
end Go.Proofs.YtijmkfnmdhpakaaGreat.Am
/- Contracts: shares, values, tags; copies and equality of rows. Each holds under its own conditions. -/
set_option linter.unusedVariables false
set_option maxRecDepth 20000
namespace Go.Proofs.YtijmkfnmdhpakaaGreat.Am
open Go Go.RowKit Go.Proofs
theorem elems_cons {p s : Int} {bl : List Int} (hs : 0 ≤ s ∧ s ≤ p - 1) (hb : Elems p bl) : Elems p (s :: bl) := fun x hx => by
  rcases List.mem_cons.1 hx with rfl | h
  · exact hs
  · exact hb x h
section
variable {S : Ids} {H0 : AH}
theorem sharesOf (h p c s : Int) {a1 c1 a2 c2 a3 c3} {ow bl : List Int} {rows : List (List Int)} (hO : B_Int64S ow) (hB : B_Int64SS rows) (hk : OkSch h ow p c rows) (hs : 0 ≤ s ∧ s ≤ p - 1) (hbl : (bl.length : Int) = c - 1) (hbe : Elems p bl)
    (h1 : KI.Sl S H0 (.slice a1 ow.length c1) ow) (h2 : KI.sl.Sl S H0 (.slice a2 rows.length c2) rows) (h3 : KI.Sl S H0 (.slice a3 bl.length c3) bl) :
    SpecM Tryz.prog S H0 144 [.agg #[.int .i64 h, .slice a1 ow.length c1, .int .i64 p, .int .i64 c, .slice a2 rows.length c2], .int .i64 s, .slice a3 bl.length c3] (fun n v H1 => ∃ v', v = .tuple #[v', .int .i64 0] ∧ MkL (shares p rows (s :: bl)) n v' H1) := by
  refine SpecM.of1 Tryz.func144 rfl (by kernel_rfl) rfl (fun H _ => ?_)
  have hp : I64 p := by unfold I64; have := hk.mat.pr.1; have := hk.mat.pr.2.1; omega
  have hc12 := hk.mat.c1
  have hc1 := hk.c1
  have hrl := hk.mat.len
  have ec : IntKind.i64.wrap (c - 1) = c - 1 := wr (by omega) (by omega)
  refine KW.callE rfl rfl rfl rfl rfl (validScheme h p c hp hO hB h1.up h2.up) (fun _ _ => ?_)
  rw [tv_true hk]
  refine KW.cF rfl rfl (by first | (simp; done) | decide) ?_
  refine KW.lit rfl rfl rfl rfl rfl rfl rfl rfl rfl rfl [.int .i64 s] rfl rfl (fun v hv => by simp at hv; subst hv; rfl) rfl ?_
  refine KW.callV1 rfl rfl rfl rfl rfl (fun H1 g _ => areElements p hp (xs := [s]) (by simp) (g.ints (j := 1) rfl rfl (by simp))) (fun _ _ => ?_)
  rw [tv_true (p := PrimeP p ∧ Elems p [s]) ⟨hk.mat.pr, fun x hx => by rw [List.mem_singleton.1 hx]; exact hs⟩]
  refine KW.tF rfl rfl (by first | (simp; done) | decide) ?_
  refine KW.callE rfl rfl rfl rfl rfl (areElements p hp (by omega) h3.up) (fun _ _ => ?_)
  rw [tv_true (p := PrimeP p ∧ Elems p bl) ⟨hk.mat.pr, hbe⟩]
  refine KW.tF rfl rfl (by first | (simp; done) | decide) ?_
  refine KW.cndB rfl rfl (fun k1 => ?_) (fun k1 => ?_)
  · rw [ec, hbl] at k1; simp at k1
  refine KW.lit rfl rfl rfl rfl rfl rfl rfl rfl rfl rfl [.int .i64 s] rfl rfl (fun v hv => by simp at hv; subst hv; rfl) rfl ?_
  refine KW.appV 2 rfl rfl rfl rfl rfl rfl rfl rfl rfl rfl (fun H1 g => acells_I h3.up g) (by simp) (by simp) (fun v hv => by obtain ⟨_, _, rfl⟩ := List.mem_map.1 hv; rfl) (by show (_ + _) * 8 ≤ _; simp only [List.length_cons, List.length_nil]; omega) (by simp only [List.length_cons, List.length_nil]; omega) (show 1 + bl.length = (s :: bl).length from by simp; omega) (fun oa _ _ => ?_)
  refine KW.lit rfl rfl rfl rfl rfl rfl rfl rfl rfl rfl [] rfl rfl (fun v hv => by simp at hv) rfl ?_
  refine KW.fact (p := ¬ oa < H.n) (fun _ g => (g.vars 2 _ rfl).2.2) (fun hoa => ?_)
  refine KW.lpM rfl rfl (fun q : Nat × Nat => [(3, .pointer (some ⟨H.n, 0, some 0⟩)), (8, .slice (some ⟨oa, 0, some 1⟩) (s :: bl).length (s :: bl).length), (9, .slice (some ⟨q.2, 0, some 1⟩) (shares p (rows.take q.1) (s :: bl)).length (shares p (rows.take q.1) (s :: bl)).length), (46, .slice a2 rows.length c2), (47, .int .i64 rows.length), (48, .int .i64 q.1)]) (fun q => Low H.n) (fun q => H) (fun q => [_, _, (oa, ⟨_, true, (s :: bl).map (Value.int .i64)⟩), (q.2, ⟨_, true, (shares p (rows.take q.1) (s :: bl)).map (Value.int .i64)⟩)]) (fun q => q.1 ≤ rows.length) (fun q => rows.length - q.1) ((0, _)) (by simp) ⟨rfl, rfl, rfl, rfl, rfl, rfl, trivial⟩ rfl rfl (rfl) (fun q hi bE n => ?_)
  obtain ⟨q, o⟩ := q
  simp only at hi
  have hq : (shares p (rows.take q) (s :: bl)).length ≤ q := by unfold shares; rw [List.length_map, List.length_take]; omega
  refine KW.cnd rfl rfl (fun k2 => ?_) (fun k2 => ?_)
  · refine KW.getL h2.up rfl rfl rfl rfl rfl rfl rfl rfl rfl rfl rfl rfl rfl rfl rfl rfl (by omega) (k2) (fun y a' m' hy hsy => ?_)
    have hy : rows[q]? = some y := hy
    have hym := hk.mat.row y (List.mem_of_getElem? hy)
    refine KW.callV1 rfl rfl rfl rfl rfl (fun H1 g _ => dot p hk.mat.pr (by simp; omega) (by omega) hym.2 (elems_cons hs hbe) hsy.up (g.ints (j := 2) rfl rfl (Nat.le_refl _))) (fun _ _ => ?_)
    have e : shares p (rows.take (q + 1)) (s :: bl) = shares p (rows.take q) (s :: bl) ++ [dotS p y (s :: bl)] := map_take_succ _ hy
    refine KW.app1 (xs := (shares p (rows.take q) (s :: bl)).map (Value.int .i64)) (v := .int .i64 (dotS p y (s :: bl))) 3 4 rfl rfl rfl rfl rfl rfl rfl rfl rfl rfl rfl rfl rfl rfl rfl rfl rfl rfl rfl rfl rfl rfl rfl (by simp) (by show (_ + 1) * 8 ≤ _; first | omega | (simp only; omega)) (by first | omega | (simp only; omega)) ?_
    refine KW.nxt rfl rfl (fun H' g => ⟨(q + 1, _), by simp only; omega, by first | omega | (simp only; omega), ⟨rfl, rfl, by simp only [e, List.length_append, List.length_singleton]; rfl, rfl, rfl, congrArg (Value.int .i64) (inc64 (by omega)), trivial⟩, g.eqT (by simp only [e, List.map_append]; rfl)⟩)
  · obtain rfl : q = rows.length := by simp only at k2; omega
    rw [List.take_of_length_le (Nat.le_refl _)]
    refine KW.retM1 rfl rfl rfl rfl (fun H1 g => ⟨_, rfl, MkL.of g (j := 3) rfl (g.ge (H1 := H) (j := 3) rfl)⟩)
theorem l04Shares (h p c s : Int) {id k : Nat} {a1 c1 a2 c2 a3 c3} {ow bl : List Int} {rows : List (List Int)} (hB : B_Int64SS rows) (hk : OkSch h ow p c rows) (hs : 0 ≤ s ∧ s ≤ p - 1) (hbl : (bl.length : Int) = c - 1) (hbe : Elems p bl)
    (hv : Has3 S H0 id k [.int .i64 h, .slice a1 ow.length c1, .int .i64 p, .int .i64 c, .slice a2 rows.length c2]) (h2 : KI.sl.Sl S H0 (.slice a2 rows.length c2) rows) (h3 : KI.Sl S H0 (.slice a3 bl.length c3) bl) :
    SpecM Tryz.prog S H0 136 [.pointer (some ⟨id, k, none⟩), .int .i64 s, .slice a3 bl.length c3] (MkL (shares p rows (s :: bl))) := by
  refine SpecM.of1 Tryz.func136 rfl (by kernel_rfl) rfl (fun H _ => ?_)
  have hv := hv.up (S' := Low H.n) (H' := H)
  have hc12 := hk.mat.c1
  have hc1 := hk.c1
  have hrl := hk.mat.len
  refine KW.lit rfl rfl rfl rfl rfl rfl rfl rfl rfl rfl [.int .i64 s] rfl rfl (fun v hv => by simp at hv; subst hv; rfl) rfl ?_
  refine KW.appV 0 rfl rfl rfl rfl rfl rfl rfl rfl rfl rfl (fun H1 g => acells_I h3.up g) (by simp) (by simp) (fun v hv => by obtain ⟨_, _, rfl⟩ := List.mem_map.1 hv; rfl) (by show (_ + _) * 8 ≤ _; simp only [List.length_cons, List.length_nil]; omega) (by simp only [List.length_cons, List.length_nil]; omega) (show 1 + bl.length = (s :: bl).length from by simp; omega) (fun oa _ _ => ?_)
  refine KW.lit rfl rfl rfl rfl rfl rfl rfl rfl rfl rfl [] rfl rfl (fun v hv => by simp at hv) rfl ?_
  refine KW.lpM rfl rfl (fun q : Nat × Nat => [(0, .pointer (some ⟨id, k, none⟩)), (7, .slice (some ⟨oa, 0, some 1⟩) (s :: bl).length (s :: bl).length), (8, .slice (some ⟨q.2, 0, some 1⟩) (shares p (rows.take q.1) (s :: bl)).length (shares p (rows.take q.1) (s :: bl)).length), (9, .int .i64 q.1)]) (fun q => Low H.n) (fun q => H) (fun q => [(oa, ⟨_, true, (s :: bl).map (Value.int .i64)⟩), (q.2, ⟨_, true, (shares p (rows.take q.1) (s :: bl)).map (Value.int .i64)⟩)]) (fun q => q.1 ≤ rows.length) (fun q => rows.length - q.1) ((0, _)) (by simp) ⟨rfl, rfl, rfl, rfl, trivial⟩ rfl rfl (rfl) (fun q hi bE n => ?_)
  obtain ⟨q, o⟩ := q
  simp only at hi
  have hq : (shares p (rows.take q) (s :: bl)).length ≤ q := by unfold shares; rw [List.length_map, List.length_take]; omega
  refine KW.ldF 4 hv rfl rfl rfl rfl rfl rfl rfl rfl rfl ?_
  refine KW.cnd rfl rfl (fun k2 => ?_) (fun k2 => ?_)
  · refine KW.ldF 2 hv rfl rfl rfl rfl rfl rfl rfl rfl rfl ?_
    refine KW.ldF 4 hv rfl rfl rfl rfl rfl rfl rfl rfl rfl ?_
    refine KW.getL h2.up rfl rfl rfl rfl rfl rfl rfl rfl rfl rfl rfl rfl rfl rfl rfl rfl (by omega) (k2) (fun y a' m' hy hsy => ?_)
    have hy : rows[q]? = some y := hy
    have hym := hk.mat.row y (List.mem_of_getElem? hy)
    refine KW.callV1 rfl rfl rfl rfl rfl (fun H1 g _ => l03Dot p hk.mat.pr (by simp; omega) (by omega) hym.2 (elems_cons hs hbe) hsy.up (g.ints (j := 0) rfl rfl (Nat.le_refl _))) (fun _ _ => ?_)
    have e : shares p (rows.take (q + 1)) (s :: bl) = shares p (rows.take q) (s :: bl) ++ [dotS p y (s :: bl)] := map_take_succ _ hy
    refine KW.app1 (xs := (shares p (rows.take q) (s :: bl)).map (Value.int .i64)) (v := .int .i64 (dotS p y (s :: bl))) 1 2 rfl rfl rfl rfl rfl rfl rfl rfl rfl rfl rfl rfl rfl rfl rfl rfl rfl rfl rfl rfl rfl rfl rfl (by simp) (by show (_ + 1) * 8 ≤ _; first | omega | (simp only; omega)) (by first | omega | (simp only; omega)) ?_
    refine KW.nxt rfl rfl (fun H' g => ⟨(q + 1, _), by simp only; omega, by first | omega | (simp only; omega), ⟨rfl, rfl, by simp only [e, List.length_append, List.length_singleton]; rfl, congrArg (Value.int .i64) (inc64 (by omega)), trivial⟩, g.eqT (by simp only [e, List.map_append]; rfl)⟩)
  · obtain rfl : q = rows.length := by simp only at k2; omega
    rw [List.take_of_length_le (Nat.le_refl _)]
    refine KW.retM1 rfl rfl rfl rfl (fun H1 g => MkL.of g (j := 1) rfl (g.ge (H1 := H) (j := 1) rfl))
end
/-- The shares of the rows of a holder. -/
def valsOf (p : Int) (rows : List (List Int)) (ow : List Int) (s : Int) (bl : List Int) (j : Int) : List Int := (rowsOf ow j).map fun i => (shares p rows (s :: bl)).getD i.toNat 0
theorem rows_bit {ow : List Int} (h : ∀ x ∈ ow, 0 ≤ x) (j : Nat) : rowsP (fun i => (2 ^ j : Nat).testBit (ow.getD i 0).toNat) ow.length = rowsOf ow j := rowsP_congr fun i hi => by
  have h1 : 0 ≤ ow.getD i 0 := by rw [List.getD_eq_getElem?_getD, List.getElem?_eq_getElem hi]; exact h _ (List.getElem_mem hi)
  rw [Nat.testBit_two_pow]
  exact decide_eq_decide.2 ⟨fun h => by omega, fun h => by omega⟩
theorem rows_one (ow : List Int) (j : Int) : rowsP (fun i => decide (ow.getD i 0 ∈ [j])) ow.length = rowsOf ow j := rowsP_congr fun i hi => by simp
theorem dotS_in {p : Int} {a b : List Int} (hp : PrimeP p) : 0 ≤ dotS p a b ∧ dotS p a b ≤ p - 1 := by
  unfold dotS
  have h1 := hp.1
  have := Int.emod_nonneg (dotN a b a.length) (show p ≠ 0 by omega)
  have := Int.emod_lt_of_pos (dotN a b a.length) (show 0 < p by omega)
  omega
theorem shares_in {p : Int} {rows : List (List Int)} {all : List Int} (hp : PrimeP p) : Elems p (shares p rows all) := fun x hx => by
  obtain ⟨r, _, rfl⟩ := List.mem_map.1 hx
  exact dotS_in hp
theorem vals_in {p s j : Int} {rows : List (List Int)} {ow bl : List Int} (hp : PrimeP p) : Elems p (valsOf p rows ow s bl j) := fun x hx => by
  obtain ⟨i, _, rfl⟩ := List.mem_map.1 hx
  exact elem_at (shares_in hp) hp.1 _
theorem vals_len {p s j : Int} {rows : List (List Int)} {ow bl : List Int} : (valsOf p rows ow s bl j).length = (rowsOf ow j).length := by simp [valsOf]
/-- The tags of values for the rows R, by the keys kk. -/
def tagAt (p : Int) (kk : List (List Int)) (R vals : List Int) (k : Nat) : Int := ((kk.getD (R.getD k 0).toNat []).getD 0 0 * vals.getD k 0 + (kk.getD (R.getD k 0).toNat []).getD 1 0) % p
def tagsOf (p : Int) (kk : List (List Int)) (R vals : List Int) : List Int := (List.range R.length).map (tagAt p kk R vals)
theorem range_map_succ {α : Type} (f : Nat → α) (n : Nat) : (List.range (n + 1)).map f = (List.range n).map f ++ [f n] := by rw [List.range_succ, List.map_append]; rfl
section
variable {S : Ids} {H0 : AH}
theorem values (h p c s : Int) (e j : Nat) {a1 c1 a2 c2 a3 c3} {a4 : Option Addr} {n4 c4 : Nat} {ow bl : List Int} {rows bs : List (List Int)} (hO : B_Int64S ow) (hB : B_Int64SS rows) (hk : OkSch h ow p c rows) (hs : 0 ≤ s ∧ s ≤ p - 1) (he : bs[e]? = some bl) (hbl : (bl.length : Int) = c - 1) (hbe : Elems p bl) (hj : j ≤ 6)
    (h1 : KI.Sl S H0 (.slice a1 ow.length c1) ow) (h2 : KI.sl.Sl S H0 (.slice a2 rows.length c2) rows) (h3 : KI.sl.Sl S H0 (.slice a3 bs.length c3) bs) :
    SpecM Tryz.prog S H0 116 [.agg #[.int .i64 h, .slice a1 ow.length c1, .int .i64 p, .int .i64 c, .slice a2 rows.length c2, .int .i64 s, .slice a3 bs.length c3, .slice a4 n4 c4], .int .i64 e, .int .i64 j] (MkL (valsOf p rows ow s bl j)) := by
  refine SpecM.of1 Tryz.func116 rfl (by kernel_rfl) rfl (fun H _ => ?_)
  have hrl := hk.mat.len
  have hol := hk.len
  have hel := (List.getElem?_eq_some_iff.1 he).1
  refine KW.getL h3.up rfl rfl rfl rfl rfl rfl rfl rfl rfl rfl rfl rfl rfl rfl rfl rfl (by omega) (by omega) (fun y a' m' hy hsy => ?_)
  have hy : bs[e]? = some y := hy
  rw [he] at hy
  cases hy
  refine KW.callN1 rfl rfl rfl rfl rfl (sharesOf h p c s hO hB hk hs hbl hbe h1.up h2.up hsy) (fun v HA SA mA _ _ hv => ?_)
  obtain ⟨v', rfl, a5, c5, rfl, hA⟩ := hv
  refine KW.lit rfl rfl rfl rfl rfl rfl rfl rfl rfl rfl [] rfl rfl (fun v hv => by simp at hv) rfl ?_
  refine KW.shlU rfl rfl rfl rfl rfl rfl j rfl (by omega) ?_
  have hp := small_pow (m := j) (by omega)
  refine KW.callN1 rfl rfl rfl rfl rfl (rowsHeld h p c (2 ^ j) (by omega) hO hk.own hk.h7 h1.up) (fun v HR SR mR _ _ hv => ?_)
  obtain ⟨a6, c6, rfl, hR⟩ := hv
  rw [rows_bit (fun x hx => (hk.own x hx).1)] at hR ⊢
  have hRl : (rowsOf ow j).length ≤ ow.length := rowsP_len _ _
  have hRm : ∀ x ∈ rowsOf ow j, 0 ≤ x ∧ x < ow.length := fun x hx => rowsP_mem hx
  have hval : valsOf p rows ow s bl j = (rowsOf ow j).map fun i => (shares p rows (s :: bl)).getD i.toNat 0 := rfl
  rw [hval]
  have hsl : (shares p rows (s :: bl)).length = rows.length := by simp [shares]
  obtain ⟨R, hRe⟩ : ∃ R, rowsOf ow j = R := ⟨_, rfl⟩
  rw [hRe] at hR hRl hRm ⊢
  obtain ⟨A, hAe⟩ : ∃ A, shares p rows (s :: bl) = A := ⟨_, rfl⟩
  rw [hAe] at hA hsl ⊢
  refine KW.lpM rfl rfl (fun q : Nat × Nat => [(7, .slice a5 A.length c5), (9, .slice (some ⟨q.2, 0, some 1⟩) ((R.take q.1).map fun i => A.getD i.toNat 0).length ((R.take q.1).map fun i => A.getD i.toNat 0).length), (30, .slice a6 R.length c6), (31, .int .i64 R.length), (32, .int .i64 q.1)]) (fun q => SR) (fun q => HR) (fun q => [_, (q.2, ⟨_, true, ((R.take q.1).map fun i => A.getD i.toNat 0).map (Value.int .i64)⟩)]) (fun q => q.1 ≤ R.length) (fun q => R.length - q.1) ((0, _)) (by simp) ⟨rfl, rfl, rfl, rfl, rfl, trivial⟩ rfl rfl (rfl) (fun q hi bE n => ?_)
  obtain ⟨q, o⟩ := q
  simp only at hi
  have hq : ((R.take q).map fun i => A.getD i.toNat 0).length ≤ q := by rw [List.length_map, List.length_take]; omega
  refine KW.cnd rfl rfl (fun k2 => ?_) (fun k2 => ?_)
  · refine KW.getI hR.ups rfl rfl rfl rfl rfl rfl rfl rfl rfl rfl rfl rfl rfl rfl rfl rfl (by omega) (k2) (fun x hx => ?_)
    have hx : R[q]? = some x := hx
    have hxm := hRm x (List.mem_of_getElem? hx)
    refine KW.getI hA.ups rfl rfl rfl rfl rfl rfl rfl rfl rfl rfl rfl rfl rfl rfl rfl rfl (by omega) (by omega) (fun y hy => ?_)
    have hy : A.getD x.toNat 0 = y := getD_of hy
    have e1 := map_take_succ (fun i : Int => A.getD i.toNat 0) hx
    rw [hy] at e1
    refine KW.app1 (xs := ((R.take q).map fun i => A.getD i.toNat 0).map (Value.int .i64)) (v := .int .i64 y) 1 2 rfl rfl rfl rfl rfl rfl rfl rfl rfl rfl rfl rfl rfl rfl rfl rfl rfl rfl rfl rfl rfl rfl rfl (by simp) (by show (_ + 1) * 8 ≤ _; first | omega | (simp only; omega)) (by first | omega | (simp only; omega)) ?_
    refine KW.nxt rfl rfl (fun H' g => ⟨(q + 1, _), by simp only; omega, by first | omega | (simp only; omega), ⟨rfl, by simp only [e1, List.length_append, List.length_singleton]; rfl, rfl, rfl, congrArg (Value.int .i64) (inc64 (by omega)), trivial⟩, g.eqT (by simp only [e1, List.map_append]; rfl)⟩)
  · obtain rfl : q = R.length := by simp only at k2; omega
    rw [List.take_of_length_le (Nat.le_refl _)]
    refine KW.retM1 rfl rfl rfl rfl (fun H1 g => MkL.of g (j := 1) rfl (g.ge (H1 := H) (j := 1) rfl))
theorem l08Values (h p c s : Int) (e j : Nat) {id k : Nat} {a1 c1 a2 c2 a3 c3} {v4 : Value} {ow bl : List Int} {rows bs : List (List Int)} (hO : B_Int64S ow) (hB : B_Int64SS rows) (hk : OkSch h ow p c rows) (hs : 0 ≤ s ∧ s ≤ p - 1) (he : bs[e]? = some bl) (hbl : (bl.length : Int) = c - 1) (hbe : Elems p bl)
    (hv : Has3 S H0 id k [.int .i64 h, .slice a1 ow.length c1, .int .i64 p, .int .i64 c, .slice a2 rows.length c2, .int .i64 s, .slice a3 bs.length c3, v4])
    (h1 : KI.Sl S H0 (.slice a1 ow.length c1) ow) (h2 : KI.sl.Sl S H0 (.slice a2 rows.length c2) rows) (h3 : KI.sl.Sl S H0 (.slice a3 bs.length c3) bs) :
    SpecM Tryz.prog S H0 102 [.pointer (some ⟨id, k, none⟩), .int .i64 e, .int .i64 j] (MkL (valsOf p rows ow s bl j)) := by
  refine SpecM.of1 Tryz.func102 rfl (by kernel_rfl) rfl (fun H _ => ?_)
  have hv := hv.up (S' := Low H.n) (H' := H)
  have hrl := hk.mat.len
  have hol := hk.len
  have hel := (List.getElem?_eq_some_iff.1 he).1
  refine KW.ldF 5 hv rfl rfl rfl rfl rfl rfl rfl rfl rfl ?_
  refine KW.ldF 6 hv rfl rfl rfl rfl rfl rfl rfl rfl rfl ?_
  refine KW.getL h3.up rfl rfl rfl rfl rfl rfl rfl rfl rfl rfl rfl rfl rfl rfl rfl rfl (by omega) (by omega) (fun y a' m' hy hsy => ?_)
  have hy : bs[e]? = some y := hy
  rw [he] at hy
  cases hy
  refine KW.callN1 rfl rfl rfl rfl rfl (l04Shares h p c s hB hk hs hbl hbe (hv.take (vs := [_, _, _, _, _])) h2.up hsy) (fun v HA SA mA _ _ hv => ?_)
  obtain ⟨a5, c5, rfl, hA⟩ := hv
  refine KW.lit rfl rfl rfl rfl rfl rfl rfl rfl rfl rfl [.int .i64 j] rfl rfl (fun v hv => by simp at hv; subst hv; rfl) rfl ?_
  refine KW.callNV1 rfl rfl rfl rfl rfl (fun H1 g _ => l04Held h p c (g0 := [(j : Int)]) hO (by simp) ((hv.take (vs := [_, _, _, _, _])).up) h1.up (g.ints (j := 0) rfl rfl (by simp))) (fun v HR SR mR _ _ hv => ?_)
  obtain ⟨a6, c6, rfl, hR⟩ := hv
  rw [rows_one] at hR ⊢
  refine KW.lit rfl rfl rfl rfl rfl rfl rfl rfl rfl rfl [] rfl rfl (fun v hv => by simp at hv) rfl ?_
  have hRl : (rowsOf ow j).length ≤ ow.length := rowsP_len _ _
  have hRm : ∀ x ∈ rowsOf ow j, 0 ≤ x ∧ x < ow.length := fun x hx => rowsP_mem hx
  have hval : valsOf p rows ow s bl j = (rowsOf ow j).map fun i => (shares p rows (s :: bl)).getD i.toNat 0 := rfl
  rw [hval]
  have hsl : (shares p rows (s :: bl)).length = rows.length := by simp [shares]
  obtain ⟨R, hRe⟩ : ∃ R, rowsOf ow j = R := ⟨_, rfl⟩
  rw [hRe] at hR hRl hRm ⊢
  obtain ⟨A, hAe⟩ : ∃ A, shares p rows (s :: bl) = A := ⟨_, rfl⟩
  rw [hAe] at hA hsl ⊢
  refine KW.lpM rfl rfl (fun q : Nat × Nat => [(7, .slice a5 A.length c5), (8, .slice a6 R.length c6), (9, .slice (some ⟨q.2, 0, some 1⟩) ((R.take q.1).map fun i => A.getD i.toNat 0).length ((R.take q.1).map fun i => A.getD i.toNat 0).length), (10, .int .i64 q.1)]) (fun q => SR) (fun q => HR) (fun q => [_, (q.2, ⟨_, true, ((R.take q.1).map fun i => A.getD i.toNat 0).map (Value.int .i64)⟩)]) (fun q => q.1 ≤ R.length) (fun q => R.length - q.1) ((0, _)) (by simp) ⟨rfl, rfl, rfl, rfl, trivial⟩ rfl rfl (rfl) (fun q hi bE n => ?_)
  obtain ⟨q, o⟩ := q
  simp only at hi
  have hq : ((R.take q).map fun i => A.getD i.toNat 0).length ≤ q := by rw [List.length_map, List.length_take]; omega
  refine KW.cnd rfl rfl (fun k2 => ?_) (fun k2 => ?_)
  · refine KW.getI hR.ups rfl rfl rfl rfl rfl rfl rfl rfl rfl rfl rfl rfl rfl rfl rfl rfl (by omega) (k2) (fun x hx => ?_)
    have hx : R[q]? = some x := hx
    have hxm := hRm x (List.mem_of_getElem? hx)
    refine KW.getI hA.ups rfl rfl rfl rfl rfl rfl rfl rfl rfl rfl rfl rfl rfl rfl rfl rfl (by omega) (by omega) (fun y hy => ?_)
    have hy : A.getD x.toNat 0 = y := getD_of hy
    have e1 := map_take_succ (fun i : Int => A.getD i.toNat 0) hx
    rw [hy] at e1
    refine KW.app1 (xs := ((R.take q).map fun i => A.getD i.toNat 0).map (Value.int .i64)) (v := .int .i64 y) 1 2 rfl rfl rfl rfl rfl rfl rfl rfl rfl rfl rfl rfl rfl rfl rfl rfl rfl rfl rfl rfl rfl rfl rfl (by simp) (by show (_ + 1) * 8 ≤ _; first | omega | (simp only; omega)) (by first | omega | (simp only; omega)) ?_
    refine KW.nxt rfl rfl (fun H' g => ⟨(q + 1, _), by simp only; omega, by first | omega | (simp only; omega), ⟨rfl, rfl, by simp only [e1, List.length_append, List.length_singleton]; rfl, congrArg (Value.int .i64) (inc64 (by omega)), trivial⟩, g.eqT (by simp only [e1, List.map_append]; rfl)⟩)
  · obtain rfl : q = R.length := by simp only at k2; omega
    rw [List.take_of_length_le (Nat.le_refl _)]
    refine KW.retM1 rfl rfl rfl rfl (fun H1 g => MkL.of g (j := 1) rfl (g.ge (H1 := H) (j := 1) rfl))
theorem tag_val {p k0 k1 v : Int} (hp : PrimeP p) (h0 : 0 ≤ k0 ∧ k0 ≤ p - 1) (h1 : 0 ≤ k1 ∧ k1 ≤ p - 1) (hv : 0 ≤ v ∧ v ≤ p - 1) : IntKind.i64.wrap (IntKind.i64.wrap (k0 * v) + k1) = k0 * v + k1 ∧ 0 ≤ k0 * v + k1 := by
  have h2 := mul_small hp.2.1 h0 hv
  have h3 := hp.2.1
  rw [wr (x := k0 * v) (by omega) (by omega), wr (by omega) (by omega)]
  exact ⟨rfl, by omega⟩
theorem tags (h p c s : Int) (e j : Nat) {a1 c1 a2 c2 a4 c4 a5 c5} {a3 : Option Addr} {n3 c3 : Nat} {ow vals : List Int} {rows kk : List (List Int)} {ks : List (List (List Int))} (hO : B_Int64S ow) (hBk : B_Int64SSS ks) (hk : OkSch h ow p c rows) (he : ks[e]? = some kk) (hkk : KeysOk p rows.length kk) (hj : j ≤ 6) (hvl : vals.length = (rowsOf ow j).length) (hve : Elems p vals)
    (h1 : KI.Sl S H0 (.slice a1 ow.length c1) ow) (h4 : KI.sl.sl.Sl S H0 (.slice a4 ks.length c4) ks) (h5 : KI.Sl S H0 (.slice a5 vals.length c5) vals) :
    SpecM Tryz.prog S H0 118 [.agg #[.int .i64 h, .slice a1 ow.length c1, .int .i64 p, .int .i64 c, .slice a2 rows.length c2, .int .i64 s, .slice a3 n3 c3, .slice a4 ks.length c4], .int .i64 e, .int .i64 j, .slice a5 vals.length c5] (MkL (tagsOf p kk (rowsOf ow j) vals)) := by
  refine SpecM.of1 Tryz.func118 rfl (by kernel_rfl) rfl (fun H _ => ?_)
  have hrl := hk.mat.len
  have hol := hk.len
  have hel := (List.getElem?_eq_some_iff.1 he).1
  have hpr := hk.mat.pr
  refine KW.lit rfl rfl rfl rfl rfl rfl rfl rfl rfl rfl [] rfl rfl (fun v hv => by simp at hv) rfl ?_
  refine KW.shlU rfl rfl rfl rfl rfl rfl j rfl (by omega) ?_
  have hp := small_pow (m := j) (by omega)
  refine KW.callN1 rfl rfl rfl rfl rfl (rowsHeld h p c (2 ^ j) (by omega) hO hk.own hk.h7 h1.up) (fun v HR SR mR _ _ hv => ?_)
  obtain ⟨a6, c6, rfl, hR⟩ := hv
  rw [rows_bit (fun x hx => (hk.own x hx).1)] at hR ⊢
  have hRl : (rowsOf ow j).length ≤ ow.length := rowsP_len _ _
  have hRm : ∀ x ∈ rowsOf ow j, 0 ≤ x ∧ x < ow.length := fun x hx => rowsP_mem hx
  obtain ⟨R, hRe⟩ : ∃ R, rowsOf ow j = R := ⟨_, rfl⟩
  rw [hRe] at hR hRl hRm hvl ⊢
  refine KW.lpM rfl rfl (fun q : Nat × Nat => [(1, .int .i64 e), (3, .slice a5 vals.length c5), (4, .pointer (some ⟨H.n, 0, some 0⟩)), (9, .slice (some ⟨q.2, 0, some 1⟩) ((List.range q.1).map (tagAt p kk R vals)).length ((List.range q.1).map (tagAt p kk R vals)).length), (18, .slice a6 R.length c6), (19, .int .i64 R.length), (20, .int .i64 q.1)]) (fun q => SR) (fun q => HR) (fun q => [(H.n, ⟨40, true, [.int .i64 h, .slice a1 ow.length c1, .int .i64 p, .int .i64 c, .slice a2 rows.length c2, .int .i64 s, .slice a3 n3 c3, .slice a4 ks.length c4]⟩), (q.2, ⟨_, true, ((List.range q.1).map (tagAt p kk R vals)).map (Value.int .i64)⟩)]) (fun q => q.1 ≤ R.length) (fun q => R.length - q.1) ((0, _)) (by simp) ⟨rfl, rfl, rfl, rfl, rfl, rfl, rfl, trivial⟩ rfl rfl (rfl) (fun q hi bE n => ?_)
  obtain ⟨q, o⟩ := q
  simp only at hi
  have hq : ((List.range q).map (tagAt p kk R vals)).length ≤ q := by simp
  refine KW.cnd rfl rfl (fun k2 => ?_) (fun k2 => ?_)
  · refine KW.getI hR.ups rfl rfl rfl rfl rfl rfl rfl rfl rfl rfl rfl rfl rfl rfl rfl rfl (by omega) (k2) (fun x hx => ?_)
    have hx : R[q]? = some x := hx
    have hxm := hRm x (List.mem_of_getElem? hx)
    refine KW.getL h4.up rfl rfl rfl rfl rfl rfl rfl rfl rfl rfl rfl rfl rfl rfl rfl rfl (by omega) (by omega) (fun kk' b1 d1 hk1 hs1 => ?_)
    have hk1 : ks[e]? = some kk' := hk1
    rw [he] at hk1
    cases hk1
    have hkl := hkk.1
    refine KW.getL hs1 rfl rfl rfl rfl rfl rfl rfl rfl rfl rfl rfl rfl rfl rfl rfl rfl (by omega) (by omega) (fun ky b2 d2 hk2 hs2 => ?_)
    have hk2 : kk[x.toNat]? = some ky := hk2
    have hky := hkk.2 ky (List.mem_of_getElem? hk2)
    have hkyl := hky.1
    refine KW.getI hs2 rfl rfl rfl rfl rfl rfl rfl rfl rfl rfl rfl rfl rfl rfl rfl rfl (by omega) (by omega) (fun k0 hk0 => ?_)
    refine KW.getI h5.up rfl rfl rfl rfl rfl rfl rfl rfl rfl rfl rfl rfl rfl rfl rfl rfl (by omega) (by omega) (fun v hv => ?_)
    refine KW.getI hs2 rfl rfl rfl rfl rfl rfl rfl rfl rfl rfl rfl rfl rfl rfl rfl rfl (by omega) (by omega) (fun k1 hk1' => ?_)
    have ek0 : ky.getD 0 0 = k0 := getD_of hk0
    have ek1 : ky.getD 1 0 = k1 := getD_of hk1'
    have ev : vals.getD q 0 = v := getD_of hv
    have eR : R.getD q 0 = x := getD_of hx
    have ekk : kk.getD x.toNat [] = ky := by rw [List.getD_eq_getElem?_getD, hk2]; rfl
    have et : tagAt p kk R vals q = (k0 * v + k1) % p := by unfold tagAt; rw [eR, ekk, ek0, ek1, ev]
    obtain ⟨ew, e0⟩ := tag_val hpr (ek0 ▸ elem_at hky.2 hpr.1 0) (ek1 ▸ elem_at hky.2 hpr.1 1) (ev ▸ elem_at hve hpr.1 q)
    refine KW.rem rfl rfl rfl rfl rfl rfl (by rw [ew]; exact e0) (by have := hpr.1; omega) ?_
    rw [ew, ← et]
    have e1 := range_map_succ (tagAt p kk R vals) q
    refine KW.app1 (xs := ((List.range q).map (tagAt p kk R vals)).map (Value.int .i64)) (v := .int .i64 (tagAt p kk R vals q)) 1 2 rfl rfl rfl rfl rfl rfl rfl rfl rfl rfl rfl rfl rfl rfl rfl rfl rfl rfl rfl rfl rfl rfl rfl (by simp) (by show (_ + 1) * 8 ≤ _; first | omega | (simp only; omega)) (by first | omega | (simp only; omega)) ?_
    refine KW.nxt rfl rfl (fun H' g => ⟨(q + 1, _), by simp only; omega, by first | omega | (simp only; omega), ⟨rfl, rfl, rfl, by simp only [e1, List.length_append, List.length_singleton]; rfl, rfl, rfl, congrArg (Value.int .i64) (inc64 (by omega)), trivial⟩, g.eqT (by simp only [e1, List.map_append]; rfl)⟩)
  · obtain rfl : q = R.length := by simp only at k2; omega
    refine KW.retM1 rfl rfl rfl rfl (fun H1 g => MkL.of g (j := 1) rfl (g.ge (H1 := H) (j := 1) rfl))
theorem l08Tags (h p c s : Int) (e j : Nat) {id k : Nat} {a1 c1 a4 c4 a5 c5} {v2 v3 : Value} {ow vals : List Int} {rows kk : List (List Int)} {ks : List (List (List Int))} (hO : B_Int64S ow) (hBk : B_Int64SSS ks) (hk : OkSch h ow p c rows) (he : ks[e]? = some kk) (hkk : KeysOk p rows.length kk) (hvl : vals.length = (rowsOf ow j).length) (hve : Elems p vals)
    (hv : Has3 S H0 id k [.int .i64 h, .slice a1 ow.length c1, .int .i64 p, .int .i64 c, v2, .int .i64 s, v3, .slice a4 ks.length c4])
    (h1 : KI.Sl S H0 (.slice a1 ow.length c1) ow) (h4 : KI.sl.sl.Sl S H0 (.slice a4 ks.length c4) ks) (h5 : KI.Sl S H0 (.slice a5 vals.length c5) vals) :
    SpecM Tryz.prog S H0 104 [.pointer (some ⟨id, k, none⟩), .int .i64 e, .int .i64 j, .slice a5 vals.length c5] (MkL (tagsOf p kk (rowsOf ow j) vals)) := by
  refine SpecM.of1 Tryz.func104 rfl (by kernel_rfl) rfl (fun H _ => ?_)
  have hv := hv.up (S' := Low H.n) (H' := H)
  have hrl := hk.mat.len
  have hol := hk.len
  have hel := (List.getElem?_eq_some_iff.1 he).1
  have hpr := hk.mat.pr
  refine KW.lit rfl rfl rfl rfl rfl rfl rfl rfl rfl rfl [.int .i64 j] rfl rfl (fun v hv => by simp at hv; subst hv; rfl) rfl ?_
  refine KW.callNV1 rfl rfl rfl rfl rfl (fun H1 g _ => l04Held h p c (g0 := [(j : Int)]) hO (by simp) ((hv.take (vs := [_, _, _, _, _])).up) h1.up (g.ints (j := 0) rfl rfl (by simp))) (fun v HR SR mR _ _ hv => ?_)
  obtain ⟨a6, c6, rfl, hR⟩ := hv
  rw [rows_one] at hR ⊢
  refine KW.lit rfl rfl rfl rfl rfl rfl rfl rfl rfl rfl [] rfl rfl (fun v hv => by simp at hv) rfl ?_
  have hRl : (rowsOf ow j).length ≤ ow.length := rowsP_len _ _
  have hRm : ∀ x ∈ rowsOf ow j, 0 ≤ x ∧ x < ow.length := fun x hx => rowsP_mem hx
  obtain ⟨R, hRe⟩ : ∃ R, rowsOf ow j = R := ⟨_, rfl⟩
  rw [hRe] at hR hRl hRm hvl ⊢
  have hv := hv.up (S' := SR) (H' := HR)
  refine KW.lpM rfl rfl (fun q : Nat × Nat => [(0, .pointer (some ⟨id, k, none⟩)), (1, .int .i64 e), (3, .slice a5 vals.length c5), (9, .slice a6 R.length c6), (10, .slice (some ⟨q.2, 0, some 1⟩) ((List.range q.1).map (tagAt p kk R vals)).length ((List.range q.1).map (tagAt p kk R vals)).length), (11, .int .i64 q.1)]) (fun q => SR) (fun q => HR) (fun q => [_, (q.2, ⟨_, true, ((List.range q.1).map (tagAt p kk R vals)).map (Value.int .i64)⟩)]) (fun q => q.1 ≤ R.length) (fun q => R.length - q.1) ((0, _)) (by simp) ⟨rfl, rfl, rfl, rfl, rfl, rfl, trivial⟩ rfl rfl (rfl) (fun q hi bE n => ?_)
  obtain ⟨q, o⟩ := q
  simp only at hi
  have hq : ((List.range q).map (tagAt p kk R vals)).length ≤ q := by simp
  refine KW.cnd rfl rfl (fun k2 => ?_) (fun k2 => ?_)
  · refine KW.ldF 7 hv rfl rfl rfl rfl rfl rfl rfl rfl rfl ?_
    refine KW.getL h4.up rfl rfl rfl rfl rfl rfl rfl rfl rfl rfl rfl rfl rfl rfl rfl rfl (by omega) (by omega) (fun kk' b1 d1 hk1 hs1 => ?_)
    have hk1 : ks[e]? = some kk' := hk1
    rw [he] at hk1
    cases hk1
    have hkl := hkk.1
    refine KW.getI hR.ups rfl rfl rfl rfl rfl rfl rfl rfl rfl rfl rfl rfl rfl rfl rfl rfl (by omega) (k2) (fun x hx => ?_)
    have hx : R[q]? = some x := hx
    have hxm := hRm x (List.mem_of_getElem? hx)
    refine KW.getL hs1 rfl rfl rfl rfl rfl rfl rfl rfl rfl rfl rfl rfl rfl rfl rfl rfl (by omega) (by omega) (fun ky b2 d2 hk2 hs2 => ?_)
    have hk2 : kk[x.toNat]? = some ky := hk2
    have hky := hkk.2 ky (List.mem_of_getElem? hk2)
    have hkyl := hky.1
    refine KW.getI hs2 rfl rfl rfl rfl rfl rfl rfl rfl rfl rfl rfl rfl rfl rfl rfl rfl (by omega) (by omega) (fun k0 hk0 => ?_)
    refine KW.getI h5.up rfl rfl rfl rfl rfl rfl rfl rfl rfl rfl rfl rfl rfl rfl rfl rfl (by omega) (by omega) (fun v hv' => ?_)
    refine KW.getI hs2 rfl rfl rfl rfl rfl rfl rfl rfl rfl rfl rfl rfl rfl rfl rfl rfl (by omega) (by omega) (fun k1 hk1' => ?_)
    refine KW.ldF 2 hv rfl rfl rfl rfl rfl rfl rfl rfl rfl ?_
    have ek0 : ky.getD 0 0 = k0 := getD_of hk0
    have ek1 : ky.getD 1 0 = k1 := getD_of hk1'
    have ev : vals.getD q 0 = v := getD_of hv'
    have eR : R.getD q 0 = x := getD_of hx
    have ekk : kk.getD x.toNat [] = ky := by rw [List.getD_eq_getElem?_getD, hk2]; rfl
    have et : tagAt p kk R vals q = (k0 * v + k1) % p := by unfold tagAt; rw [eR, ekk, ek0, ek1, ev]
    obtain ⟨ew, e0⟩ := tag_val hpr (ek0 ▸ elem_at hky.2 hpr.1 0) (ek1 ▸ elem_at hky.2 hpr.1 1) (ev ▸ elem_at hve hpr.1 q)
    refine KW.rem rfl rfl rfl rfl rfl rfl (by rw [ew]; exact e0) (by have := hpr.1; omega) ?_
    rw [ew, ← et]
    have e1 := range_map_succ (tagAt p kk R vals) q
    refine KW.app1 (xs := ((List.range q).map (tagAt p kk R vals)).map (Value.int .i64)) (v := .int .i64 (tagAt p kk R vals q)) 1 2 rfl rfl rfl rfl rfl rfl rfl rfl rfl rfl rfl rfl rfl rfl rfl rfl rfl rfl rfl rfl rfl rfl rfl (by simp) (by show (_ + 1) * 8 ≤ _; first | omega | (simp only; omega)) (by first | omega | (simp only; omega)) ?_
    refine KW.nxt rfl rfl (fun H' g => ⟨(q + 1, _), by simp only; omega, by first | omega | (simp only; omega), ⟨rfl, rfl, rfl, rfl, by simp only [e1, List.length_append, List.length_singleton]; rfl, congrArg (Value.int .i64) (inc64 (by omega)), trivial⟩, g.eqT (by simp only [e1, List.map_append]; rfl)⟩)
  · obtain rfl : q = R.length := by simp only at k2; omega
    refine KW.retM1 rfl rfl rfl rfl (fun H1 g => MkL.of g (j := 1) rfl (g.ge (H1 := H) (j := 1) rfl))
end
end Go.Proofs.YtijmkfnmdhpakaaGreat.Am
/- Contracts: values, tags and lies of a deal, of the program and of the reference. Each holds under its own conditions. -/
set_option linter.unusedVariables false
set_option maxRecDepth 20000
namespace Go.Proofs.YtijmkfnmdhpakaaGreat.Am
open Go Go.RowKit Go.Proofs
/-- The code of a deal, an epoch and a holder. -/
noncomputable def codeD (x : T_Deal) (e j : Int) : Int := if tv (DealOk x) = true then (if (0 ≤ e ∧ e ≤ (x.2.2.1.length : Int) - 1) ∧ (0 ≤ j ∧ j ≤ x.1.1 - 1) then 0 else 2) else 1
abbrev blD (x : T_Deal) (e : Int) : List Int := x.2.2.1.getD e.toNat []
abbrev kkD (x : T_Deal) (e : Int) : List (List Int) := x.2.2.2.getD e.toNat []
/-- A deal at an epoch and a holder. -/
structure DealAt (x : T_Deal) (e j : Int) (E J : Nat) : Prop where
  ee : e = E
  jj : j = J
  j6 : J ≤ 6
  sch : OkSch x.1.1 x.1.2.1 x.1.2.2.1 x.1.2.2.2.1 x.1.2.2.2.2
  sec : 0 ≤ x.2.1 ∧ x.2.1 ≤ x.1.2.2.1 - 1
  hb : x.2.2.1[E]? = some (blD x e)
  hk : x.2.2.2[E]? = some (kkD x e)
  bl : ((blD x e).length : Int) = x.1.2.2.2.1 - 1 ∧ Elems x.1.2.2.1 (blD x e)
  key : KeysOk x.1.2.2.1 x.1.2.2.2.2.length (kkD x e)
theorem codeD_ok {x : T_Deal} {e j : Int} (h : codeD x e j = 0) : ∃ E J, DealAt x e j E J := by
  unfold codeD at h
  split at h
  · rename_i hd
    have hd : DealOk x := tv_iff.1 hd
    split at h
    · rename_i hr
      have hbl := hd.bl
      have hkl := hd.kl
      have h7 := hd.sch.h7
      have h1 : x.2.2.1[e.toNat]? = some (blD x e) := by
        show _ = some (x.2.2.1.getD e.toNat [])
        rw [List.getD_eq_getElem?_getD, List.getElem?_eq_getElem (by omega)]; rfl
      have h2 : x.2.2.2[e.toNat]? = some (kkD x e) := by
        show _ = some (x.2.2.2.getD e.toNat [])
        rw [List.getD_eq_getElem?_getD, List.getElem?_eq_getElem (by omega)]; rfl
      have h3 := hd.bk _ _ _ h1 h2
      exact ⟨e.toNat, j.toNat, by omega, by omega, by omega, hd.sch, hd.sec, h1, h2, h3.1, h3.2⟩
    · cases h
  · cases h
def valsD (x : T_Deal) (e j : Int) : List Int := valsOf x.1.2.2.1 x.1.2.2.2.2 x.1.2.1 x.2.1 (blD x e) j
def tagsD (x : T_Deal) (e j : Int) (vals : List Int) : List Int := tagsOf x.1.2.2.1 (kkD x e) (rowsOf x.1.2.1 j) vals
def lieOf (p : Int) (vals : List Int) (lie : Int) : List Int := match vals with
  | [] => []
  | v :: vs => ((v + lie) % p) :: vs
theorem lie_len {p : Int} {vals : List Int} {lie : Int} : (lieOf p vals lie).length = vals.length := by cases vals <;> rfl
theorem lie_in {p : Int} {vals : List Int} {lie : Int} (hp : PrimeP p) (h : Elems p vals) : Elems p (lieOf p vals lie) := fun x hx => by
  cases vals with
  | nil => exact h x hx
  | cons v vs =>
    rcases List.mem_cons.1 hx with rfl | hx
    · have h1 := hp.1
      have := Int.emod_nonneg (v + lie) (show p ≠ 0 by omega)
      have := Int.emod_lt_of_pos (v + lie) (show 0 < p by omega)
      omega
    · exact h x (List.mem_cons_of_mem _ hx)
section
variable {S : Ids} {H0 : AH}
theorem valuesD (x : T_Deal) (e j : Int) {E J : Nat} (hd : DealAt x e j E J) {cs : List Value} (hB : B_Deal x) (h : K_Deal.R S H0 x cs) : SpecM Tryz.prog S H0 116 [.agg cs.toArray, .int .i64 e, .int .i64 j] (MkL (valsD x e j)) := by
  obtain ⟨a1, c1, a2, c2, a3, c3, a4, c4, rfl, h1, h2, h3, h4⟩ := split2_Deal h
  have := values x.1.1 x.1.2.2.1 x.1.2.2.2.1 x.2.1 E J (c2 := c2) (a4 := a4) (n4 := x.2.2.2.length) (c4 := c4) hB.1.2.1 hB.1.2.2.2.2 hd.sch hd.sec hd.hb hd.bl.1 hd.bl.2 hd.j6 h1 h2 h3
  rw [hd.ee, hd.jj]
  rw [hd.ee] at this
  exact this
theorem l08ValuesD (x : T_Deal) (e j : Int) {E J : Nat} (hd : DealAt x e j E J) {id k : Nat} {cs : List Value} (hB : B_Deal x) (hv : Has3 S H0 id k cs) (h : K_Deal.R S H0 x cs) : SpecM Tryz.prog S H0 102 [.pointer (some ⟨id, k, none⟩), .int .i64 e, .int .i64 j] (MkL (valsD x e j)) := by
  obtain ⟨a1, c1, a2, c2, a3, c3, a4, c4, rfl, h1, h2, h3, h4⟩ := split2_Deal h
  have := l08Values x.1.1 x.1.2.2.1 x.1.2.2.2.1 x.2.1 E J hB.1.2.1 hB.1.2.2.2.2 hd.sch hd.sec hd.hb hd.bl.1 hd.bl.2 hv h1 h2 h3
  rw [hd.ee, hd.jj]
  rw [hd.ee] at this
  exact this
theorem tagsDD (x : T_Deal) (e j : Int) {E J : Nat} (hd : DealAt x e j E J) {cs : List Value} (hB : B_Deal x) (h : K_Deal.R S H0 x cs) {vals : List Int} {a c} (hl : vals.length = (rowsOf x.1.2.1 j).length) (he : Elems x.1.2.2.1 vals) (hs : KI.Sl S H0 (.slice a vals.length c) vals) : SpecM Tryz.prog S H0 118 [.agg cs.toArray, .int .i64 e, .int .i64 j, .slice a vals.length c] (MkL (tagsD x e j vals)) := by
  obtain ⟨a1, c1, a2, c2, a3, c3, a4, c4, rfl, h1, h2, h3, h4⟩ := split2_Deal h
  have := tags x.1.1 x.1.2.2.1 x.1.2.2.2.1 x.2.1 E J (a2 := a2) (c2 := c2) (a3 := a3) (n3 := x.2.2.1.length) (c3 := c3) hB.1.2.1 hB.2.2.2 hd.sch hd.hk hd.key hd.j6 (by rw [← hd.jj]; exact hl) he h1 h4 hs
  unfold tagsD
  rw [hd.ee, hd.jj]
  rw [hd.ee] at this
  exact this
theorem l08TagsD (x : T_Deal) (e j : Int) {E J : Nat} (hd : DealAt x e j E J) {id k : Nat} {cs : List Value} (hB : B_Deal x) (hv : Has3 S H0 id k cs) (h : K_Deal.R S H0 x cs) {vals : List Int} {a c} (hl : vals.length = (rowsOf x.1.2.1 j).length) (he : Elems x.1.2.2.1 vals) (hs : KI.Sl S H0 (.slice a vals.length c) vals) : SpecM Tryz.prog S H0 104 [.pointer (some ⟨id, k, none⟩), .int .i64 e, .int .i64 j, .slice a vals.length c] (MkL (tagsD x e j vals)) := by
  obtain ⟨a1, c1, a2, c2, a3, c3, a4, c4, rfl, h1, h2, h3, h4⟩ := split2_Deal h
  have := l08Tags x.1.1 x.1.2.2.1 x.1.2.2.2.1 x.2.1 E J hB.1.2.1 hB.2.2.2 hd.sch hd.hk hd.key (by rw [← hd.jj]; exact hl) he hv h1 h4 hs
  unfold tagsD
  rw [hd.ee, hd.jj]
  rw [hd.ee] at this
  exact this
/-- A list and a code. -/
def MkLC (xs : List Int) (code : Int) (n : Nat) (v : Value) (H1 : AH) : Prop := ∃ a c, v = .tuple #[.slice a xs.length c, .int .i64 code] ∧ M_Int64S.R (New n H1.n) H1 xs [.slice a xs.length c]
theorem MkLC.nil {code : Int} {n : Nat} {H1 : AH} {v : Value} (hv : v = .tuple #[.slice none 0 0, .int .i64 code]) : MkLC [] code n v H1 := ⟨none, 0, hv, ml1' (.inl ⟨rfl, _, _, rfl, fun _ => rfl⟩)⟩
/-- What a callee has made is handed on. -/
theorem Good.made {S0 : Ids} {H0 H1 H2 : AH} {T : List Var} {n lo m : Nat} {xs : List Int} {a : Option Addr} {c : Nat} (g : Good S0 H0 T n H2) [o : On (New m H1.n) H1 S0 H0] (hm : lo ≤ m) (h : KI.Ml (New m H1.n) H1 (.slice a xs.length c) xs) : KI.Ml (New lo H2.n) H2 (.slice a xs.length c) xs :=
  Kn.Ml.st h (g.out (fun id hid => by have := hid.1; omega)).st
end
end Go.Proofs.YtijmkfnmdhpakaaGreat.Am
/- Contracts: copies and equality of rows; lies. Each holds under its own conditions. -/
set_option linter.unusedVariables false
set_option linter.unusedSimpArgs false
set_option maxRecDepth 20000
namespace Go.Proofs.YtijmkfnmdhpakaaGreat.Am
open Go Go.RowKit Go.Proofs
section
variable {S : Ids} {H0 : AH}
theorem l00Own {a c} {xs : List Int} (hl : xs.length ≤ 1048576) (hs : KI.Sl S H0 (.slice a xs.length c) xs) : SpecM Tryz.prog S H0 106 [.slice a xs.length c] (MkL xs) := by
  refine SpecM.of1 Tryz.func106 rfl (by kernel_rfl) rfl (fun H _ => ?_)
  refine KW.lit rfl rfl rfl rfl rfl rfl rfl rfl rfl rfl [] rfl rfl (fun v hv => by simp at hv) rfl ?_
  refine KW.appV 0 rfl rfl rfl rfl rfl rfl rfl rfl rfl rfl (fun H1 g => acells_I hs.up g) (by simp) (by simp) (fun v hv => by obtain ⟨_, _, rfl⟩ := List.mem_map.1 hv; rfl) (by show (_ + _) * 8 ≤ _; simp only [List.length_cons, List.length_nil]; omega) (by simp only [List.length_cons, List.length_nil]; omega) (show 0 + xs.length = xs.length from by omega) (fun oa _ _ => ?_)
  refine KW.retM1 rfl rfl rfl rfl (fun H1 g => MkL.of g (j := 0) rfl (g.ge (H1 := H) (j := 0) rfl))
theorem cloneI {a c} {xs : List Int} (hl : xs.length ≤ 1048576) (hs : KI.Sl S H0 (.slice a xs.length c) xs) : SpecM Tryz.prog S H0 84 [.slice a xs.length c] (MkL xs) := by
  refine SpecM.of1 Tryz.func84 rfl (by kernel_rfl) rfl (fun H _ => ?_)
  refine KW.cndB rfl rfl (fun h => ?_) (fun h => ?_)
  · have ha : a = none := by cases a with
      | none => rfl
      | some a => simp at h
    have hx : xs = [] := by
      rcases hs with ⟨hx, _⟩ | ⟨id, k, c1, b, h1, _⟩
      · exact hx
      · rw [ha] at h1; cases h1
    subst hx
    refine KW.retM1 rfl rfl rfl rfl (fun H1 g => ⟨none, 0, rfl, .inl ⟨rfl, _, _, rfl, fun _ => rfl⟩⟩)
  · refine KW.lit rfl rfl rfl rfl rfl rfl rfl rfl rfl rfl [] rfl rfl (fun v hv => by simp at hv) rfl ?_
    refine KW.appV 0 rfl rfl rfl rfl rfl rfl rfl rfl rfl rfl (fun H1 g => acells_I hs.up g) (by simp) (by simp) (fun v hv => by obtain ⟨_, _, rfl⟩ := List.mem_map.1 hv; rfl) (by show (_ + _) * 8 ≤ _; simp only [List.length_cons, List.length_nil]; omega) (by simp only [List.length_cons, List.length_nil]; omega) (show 0 + xs.length = xs.length from by omega) (fun oa _ _ => ?_)
    refine KW.retM1 rfl rfl rfl rfl (fun H1 g => MkL.of g (j := 0) rfl (g.ge (H1 := H) (j := 0) rfl))
theorem equalI {a c a' c'} {xs ys : List Int} (hl : xs.length ≤ 1048576) (hs : KI.Sl S H0 (.slice a xs.length c) xs) (hs' : KI.Sl S H0 (.slice a' ys.length c') ys) : Spec Tryz.prog S H0 143 [.slice a xs.length c, .slice a' ys.length c'] (fun v => v = .bool (tv (xs = ys))) := by
  refine Spec.of1 Tryz.func143 rfl (by kernel_rfl) rfl (fun H _ => ?_)
  refine KW.cndB rfl rfl (fun h => ?_) (fun h => ?_)
  · exact KW.ret rfl rfl rfl rfl (by rw [tv_false (fun hc => by rw [hc] at h; simp at h)]; rfl)
  have h : xs.length = ys.length := by simp at h; omega
  refine KW.lp rfl rfl (fun i : Nat => [(0, .slice a xs.length c), (1, .slice a' ys.length c'), (12, .int .i64 xs.length), (13, .int .i64 i)]) (fun i => i ≤ xs.length ∧ ∀ j, j < i → xs[j]? = ys[j]?) (fun i => xs.length - i) (0) (⟨by omega, fun j h => absurd h (by omega)⟩) ⟨rfl, rfl, rfl, rfl, trivial⟩ (fun i hi bE n => ?_)
  obtain ⟨hi, hj⟩ := hi
  refine KW.cnd rfl rfl (fun h2 => ?_) (fun h2 => ?_)
  · refine KW.getI hs.up rfl rfl rfl rfl rfl rfl rfl rfl rfl rfl rfl rfl rfl rfl rfl rfl (by omega) (h2) (fun x hx => ?_)
    refine KW.getI hs'.up rfl rfl rfl rfl rfl rfl rfl rfl rfl rfl rfl rfl rfl rfl rfl rfl (by omega) (by omega) (fun y hy => ?_)
    have hx : xs[i]? = some x := hx
    have hy : ys[i]? = some y := hy
    refine KW.cndB rfl rfl (fun h3 => ?_) (fun h3 => ?_)
    · exact KW.ret rfl rfl rfl rfl (by rw [tv_false (fun hc => by subst hc; rw [hx] at hy; cases hy; simp at h3)]; rfl)
    have h3 : x = y := by simpa using h3
    refine KW.nxt rfl rfl (fun H' g => ⟨i + 1, ⟨by omega, upto hj (by rw [hx, hy, h3])⟩, by first | omega | (simp only; omega), ⟨rfl, rfl, rfl, congrArg (Value.int .i64) (inc64 (by omega)), trivial⟩, g⟩)
  · have : xs = ys := List.ext_getElem? fun j => by
      rcases Nat.lt_or_ge j i with h | h
      · exact hj j h
      · rw [List.getElem?_eq_none (by omega), List.getElem?_eq_none (by omega)]
    exact KW.ret rfl rfl rfl rfl (by rw [tv_true this]; rfl)
theorem l00Same {a c a' c'} {xs ys : List Int} (hl : xs.length ≤ 1048576) (hs : KI.Sl S H0 (.slice a xs.length c) xs) (hs' : KI.Sl S H0 (.slice a' ys.length c') ys) : Spec Tryz.prog S H0 170 [.slice a xs.length c, .slice a' ys.length c'] (fun v => v = .bool (tv (xs = ys))) := by
  refine Spec.of1 Tryz.func170 rfl (by kernel_rfl) rfl (fun H _ => ?_)
  refine KW.cndB rfl rfl (fun h => ?_) (fun h => ?_)
  · exact KW.ret rfl rfl rfl rfl (by rw [tv_false (fun hc => by rw [hc] at h; simp at h)]; rfl)
  have h : xs.length = ys.length := by simp at h; omega
  refine KW.lp rfl rfl (fun i : Nat => [(0, .slice a xs.length c), (1, .slice a' ys.length c'), (5, .int .i64 i)]) (fun i => i ≤ xs.length ∧ ∀ j, j < i → xs[j]? = ys[j]?) (fun i => xs.length - i) (0) (⟨by omega, fun j h => absurd h (by omega)⟩) ⟨rfl, rfl, rfl, trivial⟩ (fun i hi bE n => ?_)
  obtain ⟨hi, hj⟩ := hi
  refine KW.cnd rfl rfl (fun h2 => ?_) (fun h2 => ?_)
  · refine KW.getI hs.up rfl rfl rfl rfl rfl rfl rfl rfl rfl rfl rfl rfl rfl rfl rfl rfl (by omega) (h2) (fun x hx => ?_)
    refine KW.getI hs'.up rfl rfl rfl rfl rfl rfl rfl rfl rfl rfl rfl rfl rfl rfl rfl rfl (by omega) (by omega) (fun y hy => ?_)
    have hx : xs[i]? = some x := hx
    have hy : ys[i]? = some y := hy
    refine KW.cndB rfl rfl (fun h3 => ?_) (fun h3 => ?_)
    · exact KW.ret rfl rfl rfl rfl (by rw [tv_false (fun hc => by subst hc; rw [hx] at hy; cases hy; simp at h3)]; rfl)
    have h3 : x = y := by simpa using h3
    refine KW.nxt rfl rfl (fun H' g => ⟨i + 1, ⟨by omega, upto hj (by rw [hx, hy, h3])⟩, by first | omega | (simp only; omega), ⟨rfl, rfl, congrArg (Value.int .i64) (inc64 (by omega)), trivial⟩, g⟩)
  · have : xs = ys := List.ext_getElem? fun j => by
      rcases Nat.lt_or_ge j i with h | h
      · exact hj j h
      · rw [List.getElem?_eq_none (by omega), List.getElem?_eq_none (by omega)]
    exact KW.ret rfl rfl rfl rfl (by rw [tv_true this]; rfl)
theorem lie_at {p : Int} {vals : List Int} {lie : Int} {i : Nat} {x : Int} (hi : (lieOf p vals lie)[i]? = some x) : (i = 0 ∧ x = (vals.getD 0 0 + lie) % p) ∨ (0 < i ∧ vals[i]? = some x) := by
  cases vals with
  | nil => simp [lieOf] at hi
  | cons v vs =>
    cases i with
    | zero => exact .inl ⟨rfl, by simpa [lieOf] using hi.symm⟩
    | succ i => exact .inr ⟨by omega, by simpa [lieOf] using hi⟩
theorem lied (h p c s : Int) (hp : PrimeP p) (lie : Int) (hlie : 0 ≤ lie ∧ lie ≤ p) {a1 c1 a2 c2 a3 c3 a4 c4 a5 c5} {n1 n2 n3 n4 : Nat} {vals : List Int} (hl : vals.length ≤ 1048576) (hv : Elems p vals) (hs : KI.Sl S H0 (.slice a5 vals.length c5) vals) :
    SpecM Tryz.prog S H0 119 [.agg #[.int .i64 h, .slice a1 n1 c1, .int .i64 p, .int .i64 c, .slice a2 n2 c2, .int .i64 s, .slice a3 n3 c3, .slice a4 n4 c4], .slice a5 vals.length c5, .int .i64 lie] (MkL (lieOf p vals lie)) := by
  refine SpecM.of1 Tryz.func119 rfl (by kernel_rfl) rfl (fun H _ => ?_)
  refine KW.fact (fun _ g => g.nle (H1 := H)) (fun hn0 => ?_)
  refine KW.callN1 rfl rfl rfl rfl rfl (cloneI hl hs.up) (fun v HA SA mA _ _ hv => ?_)
  obtain ⟨a6, c6, rfl, hA⟩ := hv
  refine KW.cnd rfl rfl (fun k1 => ?_) (fun k1 => ?_)
  · have k1 : 0 < vals.length := by have : (0 : Int) < vals.length := k1; omega
    obtain ⟨o, c7, b, e1, e2, e3, e4, e5, e6, e7⟩ := hA.ints (fun hx => by rw [hx] at k1; simp at k1)
    cases e1
    obtain ⟨ty, rw, cells⟩ := b
    obtain rfl : rw = true := e5
    obtain ⟨v0, hv0⟩ : ∃ v, vals[0]? = some v := ⟨vals[0], List.getElem?_eq_getElem k1⟩
    have hvd : vals.getD 0 0 = v0 := getD_of hv0
    have hvb := hv v0 (List.mem_of_getElem? hv0)
    have hp2 := hp.1
    have hp31 := hp.2.1
    have oS := (inferInstance : On (New _ HA.n) HA SA HA).st o e3
    refine KW.thaw o ⟨ty, true, cells⟩ oS.1 e4 ?_
    haveI : On (Low H.n) H (fun id => SA id ∧ id ≠ o) HA := On.thaw (fun id hid => by have : id < H.n := hid; have := e3.1; omega)
    refine KW.idx0 rfl rfl rfl rfl rfl rfl rfl rfl rfl (by omega) (by omega) ?_
    refine KW.ldT 1 rfl rfl rfl rfl rfl rfl (bload_at (e7 0 v0 hv0) rfl rfl) ?_
    refine KW.rem rfl rfl rfl rfl rfl rfl (by rw [wr (by omega) (by omega)]; omega) (by omega) ?_
    rw [wr (by omega) (by omega), ← hvd]
    refine KW.idx0 rfl rfl rfl rfl rfl rfl rfl rfl rfl (by omega) (by omega) ?_
    refine KW.st1 1 rfl rfl rfl rfl rfl rfl rfl rfl rfl rfl rfl rfl (by simp only; simp only at e6; omega) ?_
    refine KW.retM1 rfl rfl rfl rfl (fun H1 g => ?_)
    have hb := g.blk (j := 1) rfl
    have el : (lieOf p vals lie).length = vals.length := lie_len
    refine ⟨_, _, by rw [el]; rfl, ?_⟩
    refine mlI_of ⟨by have := e3.1; omega, hb.2⟩ hb.1 rfl (by rw [el]; exact e2) (by rw [el]; simp only [List.length_set]; exact e6) (fun i x hi => ?_)
    rcases lie_at hi with ⟨rfl, rfl⟩ | ⟨h0, h1⟩
    · show (cells.set 0 (Value.int .i64 _))[0]? = _
      rw [List.getElem?_set_self (by simp only at e6; omega)]
    · show (cells.set 0 (Value.int .i64 _))[i]? = _
      rw [List.getElem?_set_ne (by omega)]; exact e7 i x h1
  · have hx : vals = [] := List.eq_nil_of_length_eq_zero (by have k1 : ¬ (0 : Int) < vals.length := k1; omega)
    subst hx
    refine KW.retM1 rfl rfl rfl rfl (fun H1 g => ⟨_, _, rfl, g.made (by omega) hA⟩)
theorem l08Lying (p : Int) (hp : PrimeP p) (lie : Int) (hlie : 0 ≤ lie ∧ lie ≤ p) {a5 c5} {vals : List Int} (hl : vals.length ≤ 1048576) (hv : Elems p vals) (hs : KI.Sl S H0 (.slice a5 vals.length c5) vals) :
    SpecM Tryz.prog S H0 105 [.int .i64 p, .slice a5 vals.length c5, .int .i64 lie] (MkL (lieOf p vals lie)) := by
  refine SpecM.of1 Tryz.func105 rfl (by kernel_rfl) rfl (fun H _ => ?_)
  refine KW.fact (fun _ g => g.nle (H1 := H)) (fun hn0 => ?_)
  refine KW.callN1 rfl rfl rfl rfl rfl (l00Own hl hs.up) (fun v HA SA mA _ _ hv => ?_)
  obtain ⟨a6, c6, rfl, hA⟩ := hv
  refine KW.cnd rfl rfl (fun k1 => ?_) (fun k1 => ?_)
  · have k1 : 0 < vals.length := by have : (0 : Int) < vals.length := k1; omega
    obtain ⟨o, c7, b, e1, e2, e3, e4, e5, e6, e7⟩ := hA.ints (fun hx => by rw [hx] at k1; simp at k1)
    cases e1
    obtain ⟨ty, rw, cells⟩ := b
    obtain rfl : rw = true := e5
    obtain ⟨v0, hv0⟩ : ∃ v, vals[0]? = some v := ⟨vals[0], List.getElem?_eq_getElem k1⟩
    have hvd : vals.getD 0 0 = v0 := getD_of hv0
    have hvb := hv v0 (List.mem_of_getElem? hv0)
    have hp2 := hp.1
    have hp31 := hp.2.1
    have oS := (inferInstance : On (New _ HA.n) HA SA HA).st o e3
    refine KW.thaw o ⟨ty, true, cells⟩ oS.1 e4 ?_
    haveI : On (Low H.n) H (fun id => SA id ∧ id ≠ o) HA := On.thaw (fun id hid => by have : id < H.n := hid; have := e3.1; omega)
    refine KW.idx0 rfl rfl rfl rfl rfl rfl rfl rfl rfl (by omega) (by omega) ?_
    refine KW.ldT 0 rfl rfl rfl rfl rfl rfl (bload_at (e7 0 v0 hv0) rfl rfl) ?_
    refine KW.rem rfl rfl rfl rfl rfl rfl (by rw [wr (by omega) (by omega)]; omega) (by omega) ?_
    rw [wr (by omega) (by omega), ← hvd]
    refine KW.idx0 rfl rfl rfl rfl rfl rfl rfl rfl rfl (by omega) (by omega) ?_
    refine KW.st1 0 rfl rfl rfl rfl rfl rfl rfl rfl rfl rfl rfl rfl (by simp only; simp only at e6; omega) ?_
    refine KW.retM1 rfl rfl rfl rfl (fun H1 g => ?_)
    have hb := g.blk (j := 0) rfl
    have el : (lieOf p vals lie).length = vals.length := lie_len
    refine ⟨_, _, by rw [el]; rfl, ?_⟩
    refine mlI_of ⟨by have := e3.1; omega, hb.2⟩ hb.1 rfl (by rw [el]; exact e2) (by rw [el]; simp only [List.length_set]; exact e6) (fun i x hi => ?_)
    rcases lie_at hi with ⟨rfl, rfl⟩ | ⟨h0, h1⟩
    · show (cells.set 0 (Value.int .i64 _))[0]? = _
      rw [List.getElem?_set_self (by simp only at e6; omega)]
    · show (cells.set 0 (Value.int .i64 _))[i]? = _
      rw [List.getElem?_set_ne (by omega)]; exact e7 i x h1
  · have hx : vals = [] := List.eq_nil_of_length_eq_zero (by have k1 : ¬ (0 : Int) < vals.length := k1; omega)
    subst hx
    refine KW.retM1 rfl rfl rfl rfl (fun H1 g => ⟨_, _, rfl, g.made (by omega) hA⟩)
end
end Go.Proofs.YtijmkfnmdhpakaaGreat.Am
/- The ceremony, plain: its state, what a deed does to it, and what always holds of it. Each holds under its own conditions. -/
set_option linter.unusedVariables false
set_option maxRecDepth 20000
namespace Go.Proofs.YtijmkfnmdhpakaaGreat.Am
open Go Go.RowKit Go.Proofs
abbrev T_Deed : Type := Int × Int × Int
abbrev T_Purse : Type := Int × List Int × List Int
abbrev T_Seat : Type := T_Purse × T_Purse × Int
abbrev T_Packet : Type := Bool × Int × Int × List Int × List Int
/-- The state of a ceremony. -/
structure Cer where
  ep : Int
  seats : List T_Seat
  oe : Int
  got : List (List Int)
  has : List Bool
  named : List Bool
  wire : List T_Packet
def purse0 : T_Purse := (-1, [], [])
def seat0 : T_Seat := (purse0, purse0, 0)
def cer0 (n : Nat) : Cer := ⟨0, List.replicate n seat0, -1, List.replicate n [], List.replicate n false, List.replicate n false, []⟩
abbrev Cer.seat (c : Cer) (h : Int) : T_Seat := c.seats.getD h.toNat seat0
/-- A packet comes in. -/
def fresh (c : Cer) (e : Int) : Cer := if c.oe < e then ⟨c.ep, c.seats, e, List.replicate c.got.length [], List.replicate c.has.length false, c.named, c.wire⟩ else c
noncomputable def comeO (x : T_Deal) (c : Cer) (p : T_Packet) : Cer :=
  if p.2.2.1 = c.oe ∧ c.named.getD p.2.1.toNat false = false ∧ c.has.getD p.2.1.toNat false = false then
    (if tv (tagsD x p.2.2.1 p.2.1 p.2.2.2.1 = p.2.2.2.2) = true then ⟨c.ep, c.seats, c.oe, c.got.set p.2.1.toNat p.2.2.2.1, c.has.set p.2.1.toNat true, c.named, c.wire⟩
    else ⟨c.ep, c.seats, c.oe, c.got, c.has, c.named.set p.2.1.toNat true, c.wire⟩)
  else c
def comeS (c : Cer) (p : T_Packet) : Cer :=
  if (c.seat p.2.1).1.1 < p.2.2.1 then ⟨c.ep, c.seats.set p.2.1.toNat ((p.2.2.1, p.2.2.2.1, p.2.2.2.2), (c.seat p.2.1).2), c.oe, c.got, c.has, c.named, c.wire⟩ else c
noncomputable def come (x : T_Deal) (c : Cer) (p : T_Packet) : Cer := if p.1 = true then comeO x (fresh c p.2.2.1) p else comeS c p
/-- A packet is sent. -/
def send (c : Cer) (p : T_Packet) : Cer × Int := if c.wire.length = 12 then (c, 3) else (⟨c.ep, c.seats, c.oe, c.got, c.has, c.named, c.wire ++ [p]⟩, 0)
def dropW (c : Cer) (i : Nat) : Cer := ⟨c.ep, c.seats, c.oe, c.got, c.has, c.named, c.wire.eraseIdx i⟩
def setS (c : Cer) (h : Int) (s : T_Seat) : Cer := ⟨c.ep, c.seats.set h.toNat s, c.oe, c.got, c.has, c.named, c.wire⟩
abbrev Cer.pk (c : Cer) (a : Int) : T_Packet := c.wire.getD a.toNat (false, 0, 0, [], [])
/-- What a deed does, and its code. -/
noncomputable def doIt (x : T_Deal) (c : Cer) (d : T_Deed) : Cer × Int :=
  if d.1 = 3 ∨ d.1 = 4 ∨ d.1 = 5 then
    (if (c.wire.length : Int) ≤ d.2.1 then (c, 2) else
      ((if d.1 = 5 then (if d.1 = 4 then c else dropW c d.2.1.toNat) else come x (if d.1 = 4 then c else dropW c d.2.1.toNat) (c.pk d.2.1)), 0))
  else if d.1 = 9 then (if c.ep + 1 = (x.2.2.1.length : Int) then (c, 3) else (⟨c.ep + 1, c.seats, c.oe, c.got, c.has, c.named, c.wire⟩, 0))
  else if x.1.1 ≤ d.2.1 then (c, 2)
  else if d.1 = 1 then send c (false, d.2.1, c.ep, valsD x c.ep d.2.1, tagsD x c.ep d.2.1 (valsD x c.ep d.2.1))
  else if d.1 = 2 then (if (c.seat d.2.1).1.1 = -1 then (c, 4) else send c (true, d.2.1, (c.seat d.2.1).1.1, lieOf x.1.2.2.1 (c.seat d.2.1).1.2.1 (c.seat d.2.1).2.2, (c.seat d.2.1).1.2.2))
  else if d.1 = 6 then (if x.1.2.2.1 ≤ d.2.2 then (c, 2) else (setS c d.2.1 ((c.seat d.2.1).1, (c.seat d.2.1).2.1, d.2.2), 0))
  else if d.1 = 7 then (setS c d.2.1 ((c.seat d.2.1).1, (c.seat d.2.1).1, (c.seat d.2.1).2.2), 0)
  else (setS c d.2.1 ((c.seat d.2.1).2.1, (c.seat d.2.1).2.1, (c.seat d.2.1).2.2), 0)
noncomputable def play (x : T_Deal) (c : Cer) : List T_Deed → Cer
  | [] => c
  | d :: ds => play x (doIt x c d).1 ds
noncomputable def codes (x : T_Deal) (c : Cer) : List T_Deed → List Int
  | [] => []
  | d :: ds => (doIt x c d).2 :: codes x (doIt x c d).1 ds
/-- A deed that is valid. -/
def cntD (k : Int) : Int := if k = 6 then 2 else if k = 9 then 0 else 1
def DeedP (d : T_Deed) : Prop := (1 ≤ d.1 ∧ d.1 ≤ 9) ∧ (0 ≤ d.2.1 ∧ d.2.1 ≤ 999) ∧ (0 ≤ d.2.2 ∧ d.2.2 ≤ 999) ∧ (0 < cntD d.1 ∨ d.2.1 = 0) ∧ (1 < cntD d.1 ∨ d.2.2 = 0)
/-- Values and tags of a holder are as many as its rows, and elements. -/
structure RowsH (x : T_Deal) (h : Int) (vs ts : List Int) : Prop where
  vl : vs.length = (rowsOf x.1.2.1 h).length
  tl : ts.length = (rowsOf x.1.2.1 h).length
  ve : Elems x.1.2.2.1 vs
def EpOk (x : T_Deal) (e : Int) : Prop := 0 ≤ e ∧ e < (x.2.2.1.length : Int)
def HoOk (x : T_Deal) (h : Int) : Prop := 0 ≤ h ∧ h < x.1.1
structure PkOk (x : T_Deal) (p : T_Packet) : Prop where
  ho : HoOk x p.2.1
  ep : EpOk x p.2.2.1
  rw : RowsH x p.2.1 p.2.2.2.1 p.2.2.2.2
def PuOk (x : T_Deal) (h : Int) (p : T_Purse) : Prop := (p.1 = -1 ∧ p.2.1 = [] ∧ p.2.2 = []) ∨ (EpOk x p.1 ∧ RowsH x h p.2.1 p.2.2)
structure SeOk (x : T_Deal) (h : Int) (s : T_Seat) : Prop where
  pu : PuOk x h s.1
  sa : PuOk x h s.2.1
  lie : 0 ≤ s.2.2 ∧ s.2.2 ≤ x.1.2.2.1 - 1
structure CerOk (x : T_Deal) (c : Cer) : Prop where
  ep : EpOk x c.ep
  sl : (c.seats.length : Int) = x.1.1
  se : ∀ (j : Nat) s, c.seats[j]? = some s → SeOk x j s
  oe : c.oe = -1 ∨ EpOk x c.oe
  gl : c.got.length = c.seats.length
  hl : c.has.length = c.seats.length
  nl : c.named.length = c.seats.length
  go : ∀ (j : Nat) g, c.got[j]? = some g → g = [] ∧ c.has.getD j false = false ∨ g.length = (rowsOf x.1.2.1 j).length ∧ Elems x.1.2.2.1 g
  wl : c.wire.length ≤ 12
  wi : ∀ p ∈ c.wire, PkOk x p
theorem getD_mem {α : Type} {l : List α} {i : Nat} {d : α} (h : i < l.length) : l[i]? = some (l.getD i d) := by
  rw [List.getD_eq_getElem?_getD, List.getElem?_eq_getElem h]; rfl
section
variable {x : T_Deal} {c : Cer}
theorem CerOk.seat (h : CerOk x c) {a : Int} (ha : HoOk x a) : c.seats[a.toNat]? = some (c.seat a) ∧ SeOk x a (c.seat a) := by
  have h1 := h.sl
  have h2 := ha.1
  have h3 := ha.2
  have h4 : c.seats[a.toNat]? = some (c.seat a) := getD_mem (by omega)
  have h5 := h.se _ _ h4
  rw [show ((a.toNat : Nat) : Int) = a from by omega] at h5
  exact ⟨h4, h5⟩
theorem CerOk.setS (h : CerOk x c) {a : Int} (ha : HoOk x a) {s : T_Seat} (hs : SeOk x a s) : CerOk x (setS c a s) := by
  have h2 := ha.1
  refine ⟨h.ep, by simp [Am.setS, h.sl], fun j t hj => ?_, h.oe, by simp [Am.setS, h.gl], by simp [Am.setS, h.hl], by simp [Am.setS, h.nl], h.go, h.wl, h.wi⟩
  simp only [Am.setS] at hj
  rw [List.getElem?_set] at hj
  split at hj
  · rename_i e
    split at hj
    · cases hj
      rw [← e, show ((a.toNat : Nat) : Int) = a from by omega]
      exact hs
    · cases hj
  · exact h.se j t hj
theorem CerOk.send (h : CerOk x c) {p : T_Packet} (hp : PkOk x p) : CerOk x (send c p).1 := by
  unfold Am.send
  split
  · exact h
  · rename_i hw
    have := h.wl
    refine ⟨h.ep, h.sl, h.se, h.oe, h.gl, h.hl, h.nl, h.go, by simp; omega, fun q hq => ?_⟩
    rcases List.mem_append.1 hq with hq | hq
    · exact h.wi q hq
    · rw [List.mem_singleton.1 hq]; exact hp
theorem CerOk.drop (h : CerOk x c) (i : Nat) : CerOk x (dropW c i) := by
  refine ⟨h.ep, h.sl, h.se, h.oe, h.gl, h.hl, h.nl, h.go, ?_, fun q hq => h.wi q (List.mem_of_mem_eraseIdx hq)⟩
  have := List.length_eraseIdx_le c.wire i
  have := h.wl
  show (c.wire.eraseIdx i).length ≤ 12
  omega
theorem CerOk.pk (h : CerOk x c) {a : Int} (h0 : 0 ≤ a) (h1 : a < (c.wire.length : Int)) : c.wire[a.toNat]? = some (c.pk a) ∧ PkOk x (c.pk a) := by
  have h4 : c.wire[a.toNat]? = some (c.pk a) := getD_mem (by omega)
  exact ⟨h4, h.wi _ (List.mem_of_getElem? h4)⟩
theorem CerOk.fresh (h : CerOk x c) {e : Int} (he : EpOk x e) : CerOk x (fresh c e) := by
  unfold Am.fresh
  split
  · refine ⟨h.ep, h.sl, h.se, .inr he, by simp [h.gl], by simp [h.hl], h.nl, fun j g hj => ?_, h.wl, h.wi⟩
    refine .inl ⟨?_, ?_⟩
    · exact List.eq_of_mem_replicate (List.mem_of_getElem? hj)
    · simp only [List.getD_eq_getElem?_getD, List.getElem?_replicate]
      split <;> rfl
  · exact h
theorem CerOk.comeO (h : CerOk x c) {p : T_Packet} (hp : PkOk x p) : CerOk x (comeO x c p) := by
  unfold Am.comeO
  split
  · split
    · refine ⟨h.ep, h.sl, h.se, h.oe, by simp [h.gl], by simp [h.hl], h.nl, fun j g hj => ?_, h.wl, h.wi⟩
      simp only at hj
      rw [List.getElem?_set] at hj
      split at hj
      · rename_i e
        split at hj
        · cases hj
          have h1 := hp.ho.1
          rw [← e, show ((p.2.1.toNat : Nat) : Int) = p.2.1 from by omega]
          exact .inr ⟨hp.rw.vl, hp.rw.ve⟩
        · cases hj
      · rename_i e
        rcases h.go j g hj with ⟨h1, h2⟩ | h1
        · refine .inl ⟨h1, ?_⟩
          simp only [List.getD_eq_getElem?_getD] at h2 ⊢
          rw [List.getElem?_set_ne e]
          exact h2
        · exact .inr h1
    · exact ⟨h.ep, h.sl, h.se, h.oe, h.gl, h.hl, by simp [h.nl], h.go, h.wl, h.wi⟩
  · exact h
theorem CerOk.comeS (h : CerOk x c) {p : T_Packet} (hp : PkOk x p) : CerOk x (comeS c p) := by
  unfold Am.comeS
  split
  · have hs := (h.seat hp.ho).2
    exact h.setS hp.ho (s := ((p.2.2.1, p.2.2.2.1, p.2.2.2.2), (c.seat p.2.1).2)) ⟨.inr ⟨hp.ep, hp.rw⟩, hs.sa, hs.lie⟩
  · exact h
theorem CerOk.come (h : CerOk x c) {p : T_Packet} (hp : PkOk x p) : CerOk x (come x c p) := by
  unfold Am.come
  split
  · exact (h.fresh hp.ep).comeO hp
  · exact h.comeS hp
theorem rowsOf_len (ow : List Int) (j : Int) : (rowsOf ow j).length ≤ ow.length := rowsP_len _ _
theorem HoOk.at (hd : DealOk x) {e a : Int} (ha : HoOk x a) (he : EpOk x e) : ∃ E J, DealAt x e a E J := by
  refine codeD_ok ?_
  unfold codeD
  rw [tv_true hd, if_pos rfl, if_pos ⟨⟨he.1, by have := he.2; omega⟩, ha.1, by have := ha.2; omega⟩]
theorem DealOk.prime (hd : DealOk x) : PrimeP x.1.2.2.1 := hd.sch.mat.pr
theorem RowsH.given (hd : DealOk x) {e a : Int} : RowsH x a (valsD x e a) (tagsD x e a (valsD x e a)) :=
  ⟨vals_len, by simp [tagsD, tagsOf], vals_in hd.prime⟩
theorem CerOk.doIt (hd : DealOk x) {d : T_Deed} (hp : DeedP d) (h : CerOk x c) : CerOk x (doIt x c d).1 := by
  obtain ⟨h1, h2, h3, h4, h5⟩ := hp
  unfold Am.doIt
  split
  · split
    · exact h
    · have hpk := (h.pk (a := d.2.1) h2.1 (by omega)).2
      have hc : CerOk x (if d.1 = 4 then c else dropW c d.2.1.toNat) := by
        split
        · exact h
        · exact h.drop _
      show CerOk x (if d.1 = 5 then _ else _)
      split
      · exact hc
      · exact hc.come hpk
  split
  · split
    · exact h
    · rename_i he
      have := h.ep.1
      have := h.ep.2
      exact ⟨⟨by show 0 ≤ c.ep + 1; omega, by show c.ep + 1 < _; omega⟩, h.sl, h.se, h.oe, h.gl, h.hl, h.nl, h.go, h.wl, h.wi⟩
  split
  · exact h
  rename_i hr
  have ha : HoOk x d.2.1 := ⟨h2.1, by omega⟩
  have hs := (h.seat ha).2
  split
  · exact h.send ⟨ha, h.ep, RowsH.given hd⟩
  split
  · split
    · exact h
    · rename_i hne
      refine h.send ⟨ha, ?_, ?_⟩
      · exact (hs.pu.resolve_left (fun q => hne q.1)).1
      · have := (hs.pu.resolve_left (fun q => hne q.1)).2
        exact ⟨by rw [lie_len]; exact this.vl, this.tl, lie_in hd.prime this.ve⟩
  split
  · split
    · exact h
    · exact h.setS ha (s := ((c.seat d.2.1).1, (c.seat d.2.1).2.1, d.2.2)) ⟨hs.pu, hs.sa, h3.1, by show d.2.2 ≤ _; omega⟩
  split
  · exact h.setS ha (s := ((c.seat d.2.1).1, (c.seat d.2.1).1, (c.seat d.2.1).2.2)) ⟨hs.pu, hs.pu, hs.lie⟩
  · exact h.setS ha (s := ((c.seat d.2.1).2.1, (c.seat d.2.1).2.1, (c.seat d.2.1).2.2)) ⟨hs.sa, hs.sa, hs.lie⟩
theorem CerOk.start (hd : DealOk x) : CerOk x (cer0 x.1.1.toNat) := by
  have h7 := hd.sch.h7
  have hb := hd.bl
  have h2 := hd.prime.1
  refine ⟨⟨Int.le_refl _, by show (0 : Int) < _; omega⟩, by have := hd.sch.h1; simp [cer0]; omega, fun j s hj => ?_, .inl rfl, by simp [cer0], by simp [cer0], by simp [cer0], fun j g hj => ?_, by simp [cer0], fun p hp => by simp [cer0] at hp⟩
  · rw [List.eq_of_mem_replicate (List.mem_of_getElem? hj)]
    exact ⟨.inl ⟨rfl, rfl, rfl⟩, .inl ⟨rfl, rfl, rfl⟩, by show (0 : Int) ≤ 0; omega, by show (0 : Int) ≤ _; omega⟩
  · refine .inl ⟨List.eq_of_mem_replicate (List.mem_of_getElem? hj), ?_⟩
    simp only [cer0, List.getD_eq_getElem?_getD, List.getElem?_replicate]
    split <;> rfl
theorem CerOk.play (hd : DealOk x) : ∀ (ds : List T_Deed) {c : Cer}, (∀ d ∈ ds, DeedP d) → CerOk x c → CerOk x (play x c ds)
  | [], _, _, h => h
  | d :: ds, c, hp, h => CerOk.play hd ds (fun e he => hp e (List.mem_cons_of_mem _ he)) (h.doIt hd (hp d List.mem_cons_self))
end
end Go.Proofs.YtijmkfnmdhpakaaGreat.Am
/- What the laws' own functions do at Deed: copies, equality. Each holds under its own conditions. -/
set_option linter.unusedVariables false
set_option maxRecDepth 20000
namespace Go.Proofs.YtijmkfnmdhpakaaGreat.Am
open Go Go.RowKit Go.Proofs
abbrev K_Deed : Kn T_Deed := Kn.pair (KI) (Kn.pair (KI) (KI))
abbrev M_Deed : Kn T_Deed := Kn.mp (KI) (Kn.mp (KI) (KI))
theorem le_Deed : KLe M_Deed K_Deed := KLe.pair ((KLe.refl KI)) (KLe.pair ((KLe.refl KI)) ((KLe.refl KI)))
abbrev B_Deed (x : T_Deed) : Prop := I64 x.1 ∧ I64 x.2.1 ∧ I64 x.2.2
abbrev W_Deed (x : T_Deed) : Prop := I64 x.1 ∧ I64 x.2.1 ∧ I64 x.2.2
section
variable {S : Ids} {H0 : AH} {W : Ids} {left k : Int}
theorem form_Deed {x : T_Deed} {cs : List Value} (h : K_Deed.R S H0 x cs) : cs = [.int .i64 x.1, .int .i64 x.2.1, .int .i64 x.2.2] := by
  obtain ⟨e0, d0, rfl, h0, h0_⟩ := h
  obtain ⟨e1, d1, rfl, h1, h1_⟩ := h0_
  have h2 := h1_
  obtain rfl := KI_of h0
  obtain rfl := KI_of h1
  obtain rfl := KI_of h2
  rfl
theorem formM_Deed {x : T_Deed} {cs : List Value} (h : M_Deed.R S H0 x cs) : cs = [.int .i64 x.1, .int .i64 x.2.1, .int .i64 x.2.2] := form_Deed (le_Deed.2 _ _ _ _ h)
theorem mkM_Deed {A : AH} {x : T_Deed} : M_Deed.R S A x [.int .i64 x.1, .int .i64 x.2.1, .int .i64 x.2.2] := by
  have k1 : (Kn.mp (KI) (KI)).R None_ A (x.2) [.int .i64 x.2.1, .int .i64 x.2.2] := mpR (X := None_) (Y := None_) (show KI.R None_ A _ [.int .i64 x.2.1] from rfl) (show KI.R None_ A _ [.int .i64 x.2.2] from rfl) (fun _ p => p.elim) (fun _ p => p.elim) (fun _ p _ => p.elim)
  exact mpR (X := None_) (Y := None_) (show KI.R None_ A _ [.int .i64 x.1] from rfl) k1 (fun _ p => p.elim) (fun _ p => p.elim) (fun _ p _ => p.elim)
theorem to_Deed {x : T_Deed} {cs : List Value} (hB : B_Deed x) (h : K_Deed.R S H0 x cs) : SpecM Tryz.prog S H0 40 [.agg cs.toArray] (fun n v H1 => ∃ cs, v = .agg cs.toArray ∧ M_Deed.R (New n H1.n) H1 x cs) := by
  obtain rfl := form_Deed h
  refine SpecM.of1 Tryz.func40 rfl (by kernel_rfl) rfl (fun H _ => ?_)
  refine KW.retM1 rfl rfl rfl rfl (fun H1 g => ⟨_, rfl, mkM_Deed⟩)
theorem eq_Deed {x : T_Deed} {cs cs' : List Value} (hB : B_Deed x) (h : K_Deed.R S H0 x cs) (h' : K_Deed.R S H0 x cs') : Spec Tryz.prog S H0 47 [.agg cs.toArray, .agg cs'.toArray] (fun v => v = .bool true) := by
  obtain rfl := form_Deed h
  obtain rfl := form_Deed h'
  refine Spec.of1 Tryz.func47 rfl (by kernel_rfl) rfl (fun H _ => ?_)
  refine KW.cF rfl rfl (by first | (simp; done) | decide) ?_
  refine KW.cF rfl rfl (by first | (simp; done) | decide) ?_
  refine KW.cF rfl rfl (by first | (simp; done) | decide) ?_
  exact KW.ret rfl rfl rfl rfl (rfl)
end
end Go.Proofs.YtijmkfnmdhpakaaGreat.Am
/- What the laws' own functions do at slices of Deed: sizes, copies, equality, marks. Each holds under its own conditions. -/
set_option linter.unusedVariables false
set_option maxRecDepth 20000
namespace Go.Proofs.YtijmkfnmdhpakaaGreat.Am
open Go Go.RowKit Go.Proofs
abbrev T_DeedS : Type := List T_Deed
abbrev K_DeedS : Kn (List T_Deed) := K_Deed.sl
abbrev M_DeedS : Kn (List T_Deed) := M_Deed.ml
theorem le_DeedS : KLe M_DeedS K_DeedS := KLe.row le_Deed
abbrev szE_Deed (x : T_Deed) : Nat := 1 + 1 + 1
abbrev tsE_Deed (x : T_Deed) : Nat := 0
structure B_DeedS (x : List T_Deed) : Prop where
  len : x.length ≤ 1048576
  each : ∀ y ∈ x, B_Deed y
  tot : sum (x.map szE_Deed) ≤ 16777216
abbrev W_DeedS (x : List T_Deed) : Prop := x.length ≤ 9223372036854775807 ∧ ∀ y ∈ x, W_Deed y
theorem ts0_DeedS (l : List T_Deed) : sum (l.map tsE_Deed) = 0 := by
  induction l with
  | nil => rfl
  | cons x l ih => simp only [List.map_cons, sum, ih, tsE_Deed]
theorem ts_DeedS (l : List T_Deed) : sum (l.map szE_Deed) = sum (l.map tsE_Deed) + 3 * l.length := by
  induction l with
  | nil => rfl
  | cons x l ih => simp only [List.map_cons, sum, List.length_cons, ih, szE_Deed, tsE_Deed]; omega
theorem one_Deed {S : Ids} {H0 : AH} {x : T_Deed} {cs : List Value} (h : M_Deed.R S H0 x cs) : cs.all Value.oneCell' = true := by
  obtain rfl := formM_Deed h
  rfl
section
variable {S : Ids} {H0 : AH} {W : Ids} {a a' : Option Addr} {c c' : Nat} {left k : Int}
theorem sz_DeedS' {x : List T_Deed} (l0 : 0 ≤ left) (l1 : left ≤ 1048576) (hW : W_DeedS x) (hs : K_DeedS.R S H0 x [.slice a x.length c]) : Spec Tryz.prog S H0 8 [.slice a x.length c, .int .i64 left] (SzPost left (B_DeedS x)) := by
  have hs := sl1 hs
  have hx := hW.1
  refine Spec.of1 Tryz.func8 rfl (by kernel_rfl) rfl (fun H _ => ?_)
  have e : IntKind.i64.wrap (left - (x.length : Int)) = left - (x.length : Int) := wr (by omega) (by omega)
  refine KW.cnd rfl rfl (fun h => KW.ret rfl rfl rfl rfl ⟨-1, rfl, .inl rfl⟩) (fun h => ?_)
  rw [e] at h
  refine KW.ret rfl rfl rfl rfl ⟨_, congrArg (Value.int .i64) e, .inr ⟨by omega, by omega, by omega, hW.2, ?_⟩⟩
  rw [ts_DeedS]
  have : sum (x.map tsE_Deed) = 0 := ts0_DeedS x
  omega
theorem to_DeedS {x : List T_Deed} (hB : B_DeedS x) (hs : K_DeedS.R S H0 x [.slice a x.length c]) : SpecM Tryz.prog S H0 11 [.slice a x.length c] (fun n v H1 => ∃ a c, v = .slice a x.length c ∧ M_DeedS.R (New n H1.n) H1 x [.slice a x.length c]) := by
  have hs := sl1 hs
  have hl := hB.len
  refine SpecM.of1 Tryz.func11 rfl (by kernel_rfl) rfl (fun H _ => ?_)
  refine KW.mkS rfl rfl rfl rfl rfl rfl rfl rfl rfl rfl (x.length) rfl rfl (by omega) (by show 24 * _ ≤ _; omega) ?_
  refine KW.lpM rfl rfl (fun s : RkS => [(0, .slice a x.length c), (3, .slice (some ⟨H.n, 0, some 3⟩) x.length x.length), (4, .int .i64 s.i)]) (fun s => s.S) (fun s => s.A) (fun s => [(H.n, ⟨_, true, s.cs⟩)]) (fun s => RkI M_Deed x H (x.length * 3) s) (fun s => x.length - s.i) ⟨0, Low H.n, H, fun _ => False, _⟩
    (RkI.start (by simp [zarr]; rfl)) ⟨rfl, rfl, rfl, trivial⟩ rfl rfl rfl (fun s hi b n => ?_)
  have hle := hi.le
  refine KW.fact (p := H.n < n ∧ ∀ id, s.S id → id < n) (fun _ g => ⟨(g.vars 0 _ rfl).2.1, fun id hid => (g.froz id hid).1⟩) (fun hHn => ?_)
  haveI : Stp (Low H.n) H s.S s.A := ⟨hi.old⟩
  refine KW.cnd rfl rfl (fun h => ?_) (fun h => ?_)
  · refine KW.getS (td := .struct #[]) hs.up rfl rfl rfl rfl rfl rfl rfl rfl rfl rfl rfl rfl rfl rfl rfl rfl rfl (by omega) h (fun y cy hy hsy => ?_)
    have hy : x[s.i]? = some y := hy
    refine KW.callN rfl rfl rfl rfl rfl (to_Deed (hB.each y (List.mem_of_getElem? hy)) hsy) (fun v H1 S' hn st hw hv => ?_)
    obtain ⟨cs2, rfl, hv⟩ := hv
    have hln := (M_Deed).len hv
    refine KW.idx0 rfl rfl rfl rfl rfl rfl rfl rfl rfl (by omega) (by omega) ?_
    refine KW.stB 0 rfl rfl rfl rfl rfl rfl (bstore_agg rfl hln.symm rfl (by have h1 := hi.len; have h2 : cs2.length = 3 := hln; have h3 : s.i < x.length := (by omega); show 0 + s.i * 3 + cs2.length ≤ s.cs.length; omega) (one_Deed hv)) ?_
    exact KW.nxt rfl rfl (fun H' g => ⟨_, hi.next rfl hHn.1 hHn.2 st hw hy hv, by simp only; omega, ⟨rfl, rfl, congrArg (Value.int .i64) (inc64 (by omega)), trivial⟩, g⟩)
  · have he : s.i = x.length := by omega
    refine KW.retM rfl rfl rfl rfl hi.old (fun H1 g => ?_)
    exact ⟨_, _, rfl, ml1' (hi.ml he rfl g)⟩
theorem eq_DeedS {x : List T_Deed} (hB : B_DeedS x) (hs : K_DeedS.R S H0 x [.slice a x.length c]) (hs' : K_DeedS.R S H0 x [.slice a' x.length c']) : Spec Tryz.prog S H0 15 [.slice a x.length c, .slice a' x.length c'] (fun v => v = .bool true) := by
  have hs := sl1 hs
  have hs' := sl1 hs'
  have hl := hB.len
  refine Spec.of1 Tryz.func15 rfl (by kernel_rfl) rfl (fun H _ => ?_)
  refine KW.cF rfl rfl (by first | (simp; done) | decide) ?_
  refine KW.lp rfl rfl (fun i : Nat => [(0, .slice a x.length c), (1, .slice a' x.length c'), (5, .int .i64 i)]) (fun i => i ≤ x.length) (fun i => x.length - i) (0) (by omega) ⟨rfl, rfl, rfl, trivial⟩ (fun i hi bE n => ?_)
  refine KW.cnd rfl rfl (fun h => ?_) (fun h => ?_)
  · refine KW.getS (td := .struct #[]) hs.up rfl rfl rfl rfl rfl rfl rfl rfl rfl rfl rfl rfl rfl rfl rfl rfl rfl (by omega) h (fun y cy hy hsy => ?_)
    refine KW.getS (td := .struct #[]) hs'.up rfl rfl rfl rfl rfl rfl rfl rfl rfl rfl rfl rfl rfl rfl rfl rfl rfl (by omega) h (fun z cz hz hsz => ?_)
    have hy : x[i]? = some y := hy
    have hz : x[i]? = some z := hz
    rw [hy] at hz
    cases hz
    refine KW.callE rfl rfl rfl rfl rfl (eq_Deed (hB.each y (List.mem_of_getElem? hy)) hsy hsz) (fun _ _ => ?_)
    refine KW.cF rfl rfl (by first | (simp; done) | decide) ?_
    refine KW.nxt rfl rfl (fun H' g => ⟨i + 1, by omega, by first | omega | (simp only; omega), ⟨rfl, rfl, congrArg (Value.int .i64) (inc64 (by omega)), trivial⟩, g⟩)
  · exact KW.ret rfl rfl rfl rfl (rfl)
end
end Go.Proofs.YtijmkfnmdhpakaaGreat.Am
/- A variable's block of whole numbers or truth values, read and written by its list. For every program. No condition beyond each theorem's own. -/
set_option linter.unusedSimpArgs false
set_option linter.unusedVariables false
namespace Go.Proofs.YtijmkfnmdhpakaaGreat.Am
open Go Go.RowKit
theorem mapI_at {ik : IntKind} {F : List Int} {i : Nat} (h : i < F.length) : (F.map (Value.int ik))[i]? = some (.int ik (F.getD i 0)) := by
  rw [List.getElem?_map, List.getElem?_eq_getElem h, List.getD_eq_getElem?_getD, List.getElem?_eq_getElem h]; rfl
theorem mapB_at {F : List Bool} {i : Nat} (h : i < F.length) : (F.map Value.bool)[i]? = some (.bool (F.getD i false)) := by
  rw [List.getElem?_map, List.getElem?_eq_getElem h, List.getD_eq_getElem?_getD, List.getElem?_eq_getElem h]; rfl
section
variable {P : Program} {S : Ids} {H0 : AH} {Q : PostC} {k k1 : List It} {e e1 : Env} {T T1 : List Var} {n n1 : Nat} {l1 r1 : List Nat} {d1 : Tmp}
theorem KW.ldI {o : Oper} {dr : Bool} {t : TypeId} {x : Operand} {id kk : Nat} {sp : Option Nat} {ty : TypeId} {rw_ : Bool} {ik : IntKind} {F : List Int} {td : TypeDesc} (j i : Nat) (h : Go1 P k e T n (.op o dr) k1 e1 T1 n1 l1 r1) (hlr : l1 = r1) (ho : o.op = .load t x) (hd : o.dst = some d1) (hx : ev e1 x = .pointer (some ⟨id, kk, sp⟩)) (hT : T1[j]? = some (id, ⟨ty, rw_, F.map (Value.int ik)⟩))
    (hu : P.underlying t = some td) (hnot : (match td with | .struct _ => false | .array _ _ => false | _ => true) = true) (hkk : kk = i) (hi : i < F.length) (hk : KW P S H0 Q n1 T1 k1 (put1 e1 d1 (.int ik (F.getD i 0)))) : KW P S H0 Q n T k e :=
  KW.ldT j h hlr ho hd hx hT (bload_at (by subst hkk; exact mapI_at hi) hu hnot) hk
theorem KW.stI {o : Oper} {dr : Bool} {t : TypeId} {x y : Operand} {inf : TypeInfo} {id kk : Nat} {sp : Option Nat} {ty : TypeId} {ik : IntKind} {F : List Int} {z : Int} (j i : Nat) (h : Go1 P k e T n (.op o dr) k1 e1 T1 n1 l1 r1) (hlr : l1 = r1) (ho : o.op = .store t x y) (hd : o.dst = none) (hx : ev e1 x = .pointer (some ⟨id, kk, sp⟩)) (hT : T1[j]? = some (id, ⟨ty, true, F.map (Value.int ik)⟩))
    (hy : ev e1 y = .int ik z) (hi : P.info? t = some inf) (hs : inf.size = 1) (hkk : kk = i) (hlt : i < F.length)
    (hk : KW P S H0 Q n1 (T1.set j (id, ⟨ty, true, (F.set i z).map (Value.int ik)⟩)) k1 e1) : KW P S H0 Q n T k e :=
  KW.st1 j h hlr ho hd hx hT hy hi hs rfl rfl rfl (by subst hkk; simpa using hlt) (by subst hkk; rw [← List.map_set]; exact hk)
theorem KW.ldB {o : Oper} {dr : Bool} {t : TypeId} {x : Operand} {id kk : Nat} {sp : Option Nat} {ty : TypeId} {rw_ : Bool} {F : List Bool} {td : TypeDesc} (j i : Nat) (h : Go1 P k e T n (.op o dr) k1 e1 T1 n1 l1 r1) (hlr : l1 = r1) (ho : o.op = .load t x) (hd : o.dst = some d1) (hx : ev e1 x = .pointer (some ⟨id, kk, sp⟩)) (hT : T1[j]? = some (id, ⟨ty, rw_, F.map Value.bool⟩))
    (hu : P.underlying t = some td) (hnot : (match td with | .struct _ => false | .array _ _ => false | _ => true) = true) (hkk : kk = i) (hi : i < F.length) (hk : KW P S H0 Q n1 T1 k1 (put1 e1 d1 (.bool (F.getD i false)))) : KW P S H0 Q n T k e :=
  KW.ldT j h hlr ho hd hx hT (bload_at (by subst hkk; exact mapB_at hi) hu hnot) hk
theorem KW.stBo {o : Oper} {dr : Bool} {t : TypeId} {x y : Operand} {inf : TypeInfo} {id kk : Nat} {sp : Option Nat} {ty : TypeId} {F : List Bool} {z : Bool} (j i : Nat) (h : Go1 P k e T n (.op o dr) k1 e1 T1 n1 l1 r1) (hlr : l1 = r1) (ho : o.op = .store t x y) (hd : o.dst = none) (hx : ev e1 x = .pointer (some ⟨id, kk, sp⟩)) (hT : T1[j]? = some (id, ⟨ty, true, F.map Value.bool⟩))
    (hy : ev e1 y = .bool z) (hi : P.info? t = some inf) (hs : inf.size = 1) (hkk : kk = i) (hlt : i < F.length)
    (hk : KW P S H0 Q n1 (T1.set j (id, ⟨ty, true, (F.set i z).map Value.bool⟩)) k1 e1) : KW P S H0 Q n T k e :=
  KW.st1 j h hlr ho hd hx hT hy hi hs rfl rfl rfl (by subst hkk; simpa using hlt) (by subst hkk; rw [← List.map_set]; exact hk)
end
end Go.Proofs.YtijmkfnmdhpakaaGreat.Am
/- What the laws' own functions do at slices of Deed: marks. Each holds under its own conditions. -/
set_option linter.unusedVariables false
set_option maxRecDepth 20000
namespace Go.Proofs.YtijmkfnmdhpakaaGreat.Am
open Go Go.RowKit Go.Proofs
section
variable {S : Ids} {H0 : AH} {W : Ids} {a a' : Option Addr} {c c' : Nat} {left k : Int}
end
end Go.Proofs.YtijmkfnmdhpakaaGreat.Am
/- Contracts: a deed is valid, both sides. Each holds under its own conditions. -/
set_option linter.unusedVariables false
set_option linter.unusedSimpArgs false
set_option maxRecDepth 20000
namespace Go.Proofs.YtijmkfnmdhpakaaGreat.Am
open Go Go.RowKit Go.Proofs
section
variable {S : Ids} {H0 : AH}
theorem deedWord1 : Spec Tryz.prog S H0 111 [.int .i64 1] (fun v => v = .tuple #[.string ⟨#[103, 105, 118, 101]⟩, .int .i64 1]) := by
  refine Spec.of1 Tryz.func111 rfl (by kernel_rfl) rfl (fun H _ => ?_)
  refine KW.cT rfl rfl (by first | (simp; done) | decide) ?_
  exact KW.ret rfl rfl rfl rfl (rfl)
theorem deedWord2 : Spec Tryz.prog S H0 111 [.int .i64 2] (fun v => v = .tuple #[.string ⟨#[104, 97, 110, 100]⟩, .int .i64 1]) := by
  refine Spec.of1 Tryz.func111 rfl (by kernel_rfl) rfl (fun H _ => ?_)
  refine KW.cF rfl rfl (by first | (simp; done) | decide) ?_
  refine KW.cT rfl rfl (by first | (simp; done) | decide) ?_
  exact KW.ret rfl rfl rfl rfl (rfl)
theorem deedWord3 : Spec Tryz.prog S H0 111 [.int .i64 3] (fun v => v = .tuple #[.string ⟨#[100, 101, 108, 105, 118, 101, 114]⟩, .int .i64 1]) := by
  refine Spec.of1 Tryz.func111 rfl (by kernel_rfl) rfl (fun H _ => ?_)
  refine KW.cF rfl rfl (by first | (simp; done) | decide) ?_
  refine KW.cF rfl rfl (by first | (simp; done) | decide) ?_
  refine KW.cT rfl rfl (by first | (simp; done) | decide) ?_
  exact KW.ret rfl rfl rfl rfl (rfl)
theorem deedWord4 : Spec Tryz.prog S H0 111 [.int .i64 4] (fun v => v = .tuple #[.string ⟨#[99, 111, 112, 121]⟩, .int .i64 1]) := by
  refine Spec.of1 Tryz.func111 rfl (by kernel_rfl) rfl (fun H _ => ?_)
  refine KW.cF rfl rfl (by first | (simp; done) | decide) ?_
  refine KW.cF rfl rfl (by first | (simp; done) | decide) ?_
  refine KW.cF rfl rfl (by first | (simp; done) | decide) ?_
  refine KW.cT rfl rfl (by first | (simp; done) | decide) ?_
  exact KW.ret rfl rfl rfl rfl (rfl)
theorem deedWord5 : Spec Tryz.prog S H0 111 [.int .i64 5] (fun v => v = .tuple #[.string ⟨#[100, 114, 111, 112]⟩, .int .i64 1]) := by
  refine Spec.of1 Tryz.func111 rfl (by kernel_rfl) rfl (fun H _ => ?_)
  refine KW.cF rfl rfl (by first | (simp; done) | decide) ?_
  refine KW.cF rfl rfl (by first | (simp; done) | decide) ?_
  refine KW.cF rfl rfl (by first | (simp; done) | decide) ?_
  refine KW.cF rfl rfl (by first | (simp; done) | decide) ?_
  refine KW.cT rfl rfl (by first | (simp; done) | decide) ?_
  exact KW.ret rfl rfl rfl rfl (rfl)
theorem deedWord6 : Spec Tryz.prog S H0 111 [.int .i64 6] (fun v => v = .tuple #[.string ⟨#[108, 105, 101]⟩, .int .i64 2]) := by
  refine Spec.of1 Tryz.func111 rfl (by kernel_rfl) rfl (fun H _ => ?_)
  refine KW.cF rfl rfl (by first | (simp; done) | decide) ?_
  refine KW.cF rfl rfl (by first | (simp; done) | decide) ?_
  refine KW.cF rfl rfl (by first | (simp; done) | decide) ?_
  refine KW.cF rfl rfl (by first | (simp; done) | decide) ?_
  refine KW.cF rfl rfl (by first | (simp; done) | decide) ?_
  refine KW.cT rfl rfl (by first | (simp; done) | decide) ?_
  exact KW.ret rfl rfl rfl rfl (rfl)
theorem deedWord7 : Spec Tryz.prog S H0 111 [.int .i64 7] (fun v => v = .tuple #[.string ⟨#[115, 97, 118, 101]⟩, .int .i64 1]) := by
  refine Spec.of1 Tryz.func111 rfl (by kernel_rfl) rfl (fun H _ => ?_)
  refine KW.cF rfl rfl (by first | (simp; done) | decide) ?_
  refine KW.cF rfl rfl (by first | (simp; done) | decide) ?_
  refine KW.cF rfl rfl (by first | (simp; done) | decide) ?_
  refine KW.cF rfl rfl (by first | (simp; done) | decide) ?_
  refine KW.cF rfl rfl (by first | (simp; done) | decide) ?_
  refine KW.cF rfl rfl (by first | (simp; done) | decide) ?_
  refine KW.cT rfl rfl (by first | (simp; done) | decide) ?_
  exact KW.ret rfl rfl rfl rfl (rfl)
theorem deedWord8 : Spec Tryz.prog S H0 111 [.int .i64 8] (fun v => v = .tuple #[.string ⟨#[99, 114, 97, 115, 104]⟩, .int .i64 1]) := by
  refine Spec.of1 Tryz.func111 rfl (by kernel_rfl) rfl (fun H _ => ?_)
  refine KW.cF rfl rfl (by first | (simp; done) | decide) ?_
  refine KW.cF rfl rfl (by first | (simp; done) | decide) ?_
  refine KW.cF rfl rfl (by first | (simp; done) | decide) ?_
  refine KW.cF rfl rfl (by first | (simp; done) | decide) ?_
  refine KW.cF rfl rfl (by first | (simp; done) | decide) ?_
  refine KW.cF rfl rfl (by first | (simp; done) | decide) ?_
  refine KW.cF rfl rfl (by first | (simp; done) | decide) ?_
  refine KW.cT rfl rfl (by first | (simp; done) | decide) ?_
  exact KW.ret rfl rfl rfl rfl (rfl)
theorem deedWord9 : Spec Tryz.prog S H0 111 [.int .i64 9] (fun v => v = .tuple #[.string ⟨#[114, 101, 110, 101, 119]⟩, .int .i64 0]) := by
  refine Spec.of1 Tryz.func111 rfl (by kernel_rfl) rfl (fun H _ => ?_)
  refine KW.cF rfl rfl (by first | (simp; done) | decide) ?_
  refine KW.cF rfl rfl (by first | (simp; done) | decide) ?_
  refine KW.cF rfl rfl (by first | (simp; done) | decide) ?_
  refine KW.cF rfl rfl (by first | (simp; done) | decide) ?_
  refine KW.cF rfl rfl (by first | (simp; done) | decide) ?_
  refine KW.cF rfl rfl (by first | (simp; done) | decide) ?_
  refine KW.cF rfl rfl (by first | (simp; done) | decide) ?_
  refine KW.cF rfl rfl (by first | (simp; done) | decide) ?_
  refine KW.cT rfl rfl (by first | (simp; done) | decide) ?_
  exact KW.ret rfl rfl rfl rfl (rfl)
theorem deedWordN {k : Int} (h : ¬ (1 ≤ k ∧ k ≤ 9)) : Spec Tryz.prog S H0 111 [.int .i64 k] (fun v => v = .tuple #[.string ⟨#[]⟩, .int .i64 0]) := by
  refine Spec.of1 Tryz.func111 rfl (by kernel_rfl) rfl (fun H _ => ?_)
  refine KW.no rfl rfl (by omega) ?_
  refine KW.no rfl rfl (by omega) ?_
  refine KW.no rfl rfl (by omega) ?_
  refine KW.no rfl rfl (by omega) ?_
  refine KW.no rfl rfl (by omega) ?_
  refine KW.no rfl rfl (by omega) ?_
  refine KW.no rfl rfl (by omega) ?_
  refine KW.no rfl rfl (by omega) ?_
  refine KW.no rfl rfl (by omega) ?_
  exact KW.ret rfl rfl rfl rfl (rfl)
theorem validDeedN {k A B : Int} (h : ¬ (1 ≤ k ∧ k ≤ 9)) : Spec Tryz.prog S H0 75 [.agg [.int .i64 k, .int .i64 A, .int .i64 B].toArray] (fun v => v = .bool (tv (DeedP (k, A, B)))) := by
  refine Spec.of1 Tryz.func75 rfl (by kernel_rfl) rfl (fun H _ => ?_)
  refine KW.callE rfl rfl rfl rfl rfl (deedWordN h) (fun _ _ => ?_)
  refine KW.tF rfl rfl (by simp [ByteArray.toList, ByteArray.toList.loop, ByteArray.size, ByteArray.get!]) ?_
  repeat first | refine KW.tT rfl rfl rfl ?_ | refine KW.tF rfl rfl rfl ?_
  rw [tv_false (fun p => h p.1)]
  exact KW.ret rfl rfl rfl rfl (rfl)
theorem validDeed1 {A B : Int} : Spec Tryz.prog S H0 75 [.agg [.int .i64 1, .int .i64 A, .int .i64 B].toArray] (fun v => v = .bool (tv (DeedP (1, A, B)))) := by
  have e : DeedP (1, A, B) ↔ ((0 ≤ A ∧ A ≤ 999) ∧ (0 ≤ B ∧ B ≤ 999) ∧ B = 0) := by simp [DeedP, cntD]
  rw [tv_congr e]
  refine Spec.of1 Tryz.func75 rfl (by kernel_rfl) rfl (fun H _ => ?_)
  refine KW.callE rfl rfl rfl rfl rfl (deedWord1) (fun _ _ => ?_)
  refine KW.tT rfl rfl (by simp [ByteArray.toList, ByteArray.toList.loop, ByteArray.size, ByteArray.get!]) ?_
  refine KW.callE rfl rfl rfl rfl rfl (within _ _ _) (fun _ _ => ?_)
  refine KW.tst rfl rfl (fun h1 => ?_) (fun h1 => ?_)
  · refine KW.callE rfl rfl rfl rfl rfl (within _ _ _) (fun _ _ => ?_)
    refine KW.tst rfl rfl (fun h2 => ?_) (fun h2 => ?_)
    · repeat first | refine KW.tT rfl rfl rfl ?_ | refine KW.tF rfl rfl rfl ?_
      refine KW.ret rfl rfl rfl rfl ?_
      by_cases h3 : B = 0
      · rw [tv_true ⟨h1, h2, h3⟩, h3]; rfl
      · rw [tv_false (fun p => h3 p.2.2)]; show Value.bool (decide (B = 0)) = _; rw [decide_eq_false h3]
    · repeat first | refine KW.tT rfl rfl rfl ?_ | refine KW.tF rfl rfl rfl ?_
      rw [tv_false (fun p => h2 p.2.1)]
      exact KW.ret rfl rfl rfl rfl (rfl)
  · repeat first | refine KW.tT rfl rfl rfl ?_ | refine KW.tF rfl rfl rfl ?_
    rw [tv_false (fun p => h1 p.1)]
    exact KW.ret rfl rfl rfl rfl (rfl)
theorem validDeed2 {A B : Int} : Spec Tryz.prog S H0 75 [.agg [.int .i64 2, .int .i64 A, .int .i64 B].toArray] (fun v => v = .bool (tv (DeedP (2, A, B)))) := by
  have e : DeedP (2, A, B) ↔ ((0 ≤ A ∧ A ≤ 999) ∧ (0 ≤ B ∧ B ≤ 999) ∧ B = 0) := by simp [DeedP, cntD]
  rw [tv_congr e]
  refine Spec.of1 Tryz.func75 rfl (by kernel_rfl) rfl (fun H _ => ?_)
  refine KW.callE rfl rfl rfl rfl rfl (deedWord2) (fun _ _ => ?_)
  refine KW.tT rfl rfl (by simp [ByteArray.toList, ByteArray.toList.loop, ByteArray.size, ByteArray.get!]) ?_
  refine KW.callE rfl rfl rfl rfl rfl (within _ _ _) (fun _ _ => ?_)
  refine KW.tst rfl rfl (fun h1 => ?_) (fun h1 => ?_)
  · refine KW.callE rfl rfl rfl rfl rfl (within _ _ _) (fun _ _ => ?_)
    refine KW.tst rfl rfl (fun h2 => ?_) (fun h2 => ?_)
    · repeat first | refine KW.tT rfl rfl rfl ?_ | refine KW.tF rfl rfl rfl ?_
      refine KW.ret rfl rfl rfl rfl ?_
      by_cases h3 : B = 0
      · rw [tv_true ⟨h1, h2, h3⟩, h3]; rfl
      · rw [tv_false (fun p => h3 p.2.2)]; show Value.bool (decide (B = 0)) = _; rw [decide_eq_false h3]
    · repeat first | refine KW.tT rfl rfl rfl ?_ | refine KW.tF rfl rfl rfl ?_
      rw [tv_false (fun p => h2 p.2.1)]
      exact KW.ret rfl rfl rfl rfl (rfl)
  · repeat first | refine KW.tT rfl rfl rfl ?_ | refine KW.tF rfl rfl rfl ?_
    rw [tv_false (fun p => h1 p.1)]
    exact KW.ret rfl rfl rfl rfl (rfl)
theorem validDeed3 {A B : Int} : Spec Tryz.prog S H0 75 [.agg [.int .i64 3, .int .i64 A, .int .i64 B].toArray] (fun v => v = .bool (tv (DeedP (3, A, B)))) := by
  have e : DeedP (3, A, B) ↔ ((0 ≤ A ∧ A ≤ 999) ∧ (0 ≤ B ∧ B ≤ 999) ∧ B = 0) := by simp [DeedP, cntD]
  rw [tv_congr e]
  refine Spec.of1 Tryz.func75 rfl (by kernel_rfl) rfl (fun H _ => ?_)
  refine KW.callE rfl rfl rfl rfl rfl (deedWord3) (fun _ _ => ?_)
  refine KW.tT rfl rfl (by simp [ByteArray.toList, ByteArray.toList.loop, ByteArray.size, ByteArray.get!]) ?_
  refine KW.callE rfl rfl rfl rfl rfl (within _ _ _) (fun _ _ => ?_)
  refine KW.tst rfl rfl (fun h1 => ?_) (fun h1 => ?_)
  · refine KW.callE rfl rfl rfl rfl rfl (within _ _ _) (fun _ _ => ?_)
    refine KW.tst rfl rfl (fun h2 => ?_) (fun h2 => ?_)
    · repeat first | refine KW.tT rfl rfl rfl ?_ | refine KW.tF rfl rfl rfl ?_
      refine KW.ret rfl rfl rfl rfl ?_
      by_cases h3 : B = 0
      · rw [tv_true ⟨h1, h2, h3⟩, h3]; rfl
      · rw [tv_false (fun p => h3 p.2.2)]; show Value.bool (decide (B = 0)) = _; rw [decide_eq_false h3]
    · repeat first | refine KW.tT rfl rfl rfl ?_ | refine KW.tF rfl rfl rfl ?_
      rw [tv_false (fun p => h2 p.2.1)]
      exact KW.ret rfl rfl rfl rfl (rfl)
  · repeat first | refine KW.tT rfl rfl rfl ?_ | refine KW.tF rfl rfl rfl ?_
    rw [tv_false (fun p => h1 p.1)]
    exact KW.ret rfl rfl rfl rfl (rfl)
theorem validDeed4 {A B : Int} : Spec Tryz.prog S H0 75 [.agg [.int .i64 4, .int .i64 A, .int .i64 B].toArray] (fun v => v = .bool (tv (DeedP (4, A, B)))) := by
  have e : DeedP (4, A, B) ↔ ((0 ≤ A ∧ A ≤ 999) ∧ (0 ≤ B ∧ B ≤ 999) ∧ B = 0) := by simp [DeedP, cntD]
  rw [tv_congr e]
  refine Spec.of1 Tryz.func75 rfl (by kernel_rfl) rfl (fun H _ => ?_)
  refine KW.callE rfl rfl rfl rfl rfl (deedWord4) (fun _ _ => ?_)
  refine KW.tT rfl rfl (by simp [ByteArray.toList, ByteArray.toList.loop, ByteArray.size, ByteArray.get!]) ?_
  refine KW.callE rfl rfl rfl rfl rfl (within _ _ _) (fun _ _ => ?_)
  refine KW.tst rfl rfl (fun h1 => ?_) (fun h1 => ?_)
  · refine KW.callE rfl rfl rfl rfl rfl (within _ _ _) (fun _ _ => ?_)
    refine KW.tst rfl rfl (fun h2 => ?_) (fun h2 => ?_)
    · repeat first | refine KW.tT rfl rfl rfl ?_ | refine KW.tF rfl rfl rfl ?_
      refine KW.ret rfl rfl rfl rfl ?_
      by_cases h3 : B = 0
      · rw [tv_true ⟨h1, h2, h3⟩, h3]; rfl
      · rw [tv_false (fun p => h3 p.2.2)]; show Value.bool (decide (B = 0)) = _; rw [decide_eq_false h3]
    · repeat first | refine KW.tT rfl rfl rfl ?_ | refine KW.tF rfl rfl rfl ?_
      rw [tv_false (fun p => h2 p.2.1)]
      exact KW.ret rfl rfl rfl rfl (rfl)
  · repeat first | refine KW.tT rfl rfl rfl ?_ | refine KW.tF rfl rfl rfl ?_
    rw [tv_false (fun p => h1 p.1)]
    exact KW.ret rfl rfl rfl rfl (rfl)
theorem validDeed5 {A B : Int} : Spec Tryz.prog S H0 75 [.agg [.int .i64 5, .int .i64 A, .int .i64 B].toArray] (fun v => v = .bool (tv (DeedP (5, A, B)))) := by
  have e : DeedP (5, A, B) ↔ ((0 ≤ A ∧ A ≤ 999) ∧ (0 ≤ B ∧ B ≤ 999) ∧ B = 0) := by simp [DeedP, cntD]
  rw [tv_congr e]
  refine Spec.of1 Tryz.func75 rfl (by kernel_rfl) rfl (fun H _ => ?_)
  refine KW.callE rfl rfl rfl rfl rfl (deedWord5) (fun _ _ => ?_)
  refine KW.tT rfl rfl (by simp [ByteArray.toList, ByteArray.toList.loop, ByteArray.size, ByteArray.get!]) ?_
  refine KW.callE rfl rfl rfl rfl rfl (within _ _ _) (fun _ _ => ?_)
  refine KW.tst rfl rfl (fun h1 => ?_) (fun h1 => ?_)
  · refine KW.callE rfl rfl rfl rfl rfl (within _ _ _) (fun _ _ => ?_)
    refine KW.tst rfl rfl (fun h2 => ?_) (fun h2 => ?_)
    · repeat first | refine KW.tT rfl rfl rfl ?_ | refine KW.tF rfl rfl rfl ?_
      refine KW.ret rfl rfl rfl rfl ?_
      by_cases h3 : B = 0
      · rw [tv_true ⟨h1, h2, h3⟩, h3]; rfl
      · rw [tv_false (fun p => h3 p.2.2)]; show Value.bool (decide (B = 0)) = _; rw [decide_eq_false h3]
    · repeat first | refine KW.tT rfl rfl rfl ?_ | refine KW.tF rfl rfl rfl ?_
      rw [tv_false (fun p => h2 p.2.1)]
      exact KW.ret rfl rfl rfl rfl (rfl)
  · repeat first | refine KW.tT rfl rfl rfl ?_ | refine KW.tF rfl rfl rfl ?_
    rw [tv_false (fun p => h1 p.1)]
    exact KW.ret rfl rfl rfl rfl (rfl)
theorem validDeed6 {A B : Int} : Spec Tryz.prog S H0 75 [.agg [.int .i64 6, .int .i64 A, .int .i64 B].toArray] (fun v => v = .bool (tv (DeedP (6, A, B)))) := by
  have e : DeedP (6, A, B) ↔ ((0 ≤ A ∧ A ≤ 999) ∧ (0 ≤ B ∧ B ≤ 999)) := by simp [DeedP, cntD]
  rw [tv_congr e]
  refine Spec.of1 Tryz.func75 rfl (by kernel_rfl) rfl (fun H _ => ?_)
  refine KW.callE rfl rfl rfl rfl rfl (deedWord6) (fun _ _ => ?_)
  refine KW.tT rfl rfl (by simp [ByteArray.toList, ByteArray.toList.loop, ByteArray.size, ByteArray.get!]) ?_
  refine KW.callE rfl rfl rfl rfl rfl (within _ _ _) (fun _ _ => ?_)
  refine KW.tst rfl rfl (fun h1 => ?_) (fun h1 => ?_)
  · refine KW.callE rfl rfl rfl rfl rfl (within _ _ _) (fun _ _ => ?_)
    refine KW.tst rfl rfl (fun h2 => ?_) (fun h2 => ?_)
    · repeat first | refine KW.tT rfl rfl rfl ?_ | refine KW.tF rfl rfl rfl ?_
      refine KW.ret rfl rfl rfl rfl ?_
      rw [tv_true ⟨h1, h2⟩]
      rfl
    · repeat first | refine KW.tT rfl rfl rfl ?_ | refine KW.tF rfl rfl rfl ?_
      rw [tv_false (fun p => h2 p.2)]
      exact KW.ret rfl rfl rfl rfl (rfl)
  · repeat first | refine KW.tT rfl rfl rfl ?_ | refine KW.tF rfl rfl rfl ?_
    rw [tv_false (fun p => h1 p.1)]
    exact KW.ret rfl rfl rfl rfl (rfl)
theorem validDeed7 {A B : Int} : Spec Tryz.prog S H0 75 [.agg [.int .i64 7, .int .i64 A, .int .i64 B].toArray] (fun v => v = .bool (tv (DeedP (7, A, B)))) := by
  have e : DeedP (7, A, B) ↔ ((0 ≤ A ∧ A ≤ 999) ∧ (0 ≤ B ∧ B ≤ 999) ∧ B = 0) := by simp [DeedP, cntD]
  rw [tv_congr e]
  refine Spec.of1 Tryz.func75 rfl (by kernel_rfl) rfl (fun H _ => ?_)
  refine KW.callE rfl rfl rfl rfl rfl (deedWord7) (fun _ _ => ?_)
  refine KW.tT rfl rfl (by simp [ByteArray.toList, ByteArray.toList.loop, ByteArray.size, ByteArray.get!]) ?_
  refine KW.callE rfl rfl rfl rfl rfl (within _ _ _) (fun _ _ => ?_)
  refine KW.tst rfl rfl (fun h1 => ?_) (fun h1 => ?_)
  · refine KW.callE rfl rfl rfl rfl rfl (within _ _ _) (fun _ _ => ?_)
    refine KW.tst rfl rfl (fun h2 => ?_) (fun h2 => ?_)
    · repeat first | refine KW.tT rfl rfl rfl ?_ | refine KW.tF rfl rfl rfl ?_
      refine KW.ret rfl rfl rfl rfl ?_
      by_cases h3 : B = 0
      · rw [tv_true ⟨h1, h2, h3⟩, h3]; rfl
      · rw [tv_false (fun p => h3 p.2.2)]; show Value.bool (decide (B = 0)) = _; rw [decide_eq_false h3]
    · repeat first | refine KW.tT rfl rfl rfl ?_ | refine KW.tF rfl rfl rfl ?_
      rw [tv_false (fun p => h2 p.2.1)]
      exact KW.ret rfl rfl rfl rfl (rfl)
  · repeat first | refine KW.tT rfl rfl rfl ?_ | refine KW.tF rfl rfl rfl ?_
    rw [tv_false (fun p => h1 p.1)]
    exact KW.ret rfl rfl rfl rfl (rfl)
theorem validDeed8 {A B : Int} : Spec Tryz.prog S H0 75 [.agg [.int .i64 8, .int .i64 A, .int .i64 B].toArray] (fun v => v = .bool (tv (DeedP (8, A, B)))) := by
  have e : DeedP (8, A, B) ↔ ((0 ≤ A ∧ A ≤ 999) ∧ (0 ≤ B ∧ B ≤ 999) ∧ B = 0) := by simp [DeedP, cntD]
  rw [tv_congr e]
  refine Spec.of1 Tryz.func75 rfl (by kernel_rfl) rfl (fun H _ => ?_)
  refine KW.callE rfl rfl rfl rfl rfl (deedWord8) (fun _ _ => ?_)
  refine KW.tT rfl rfl (by simp [ByteArray.toList, ByteArray.toList.loop, ByteArray.size, ByteArray.get!]) ?_
  refine KW.callE rfl rfl rfl rfl rfl (within _ _ _) (fun _ _ => ?_)
  refine KW.tst rfl rfl (fun h1 => ?_) (fun h1 => ?_)
  · refine KW.callE rfl rfl rfl rfl rfl (within _ _ _) (fun _ _ => ?_)
    refine KW.tst rfl rfl (fun h2 => ?_) (fun h2 => ?_)
    · repeat first | refine KW.tT rfl rfl rfl ?_ | refine KW.tF rfl rfl rfl ?_
      refine KW.ret rfl rfl rfl rfl ?_
      by_cases h3 : B = 0
      · rw [tv_true ⟨h1, h2, h3⟩, h3]; rfl
      · rw [tv_false (fun p => h3 p.2.2)]; show Value.bool (decide (B = 0)) = _; rw [decide_eq_false h3]
    · repeat first | refine KW.tT rfl rfl rfl ?_ | refine KW.tF rfl rfl rfl ?_
      rw [tv_false (fun p => h2 p.2.1)]
      exact KW.ret rfl rfl rfl rfl (rfl)
  · repeat first | refine KW.tT rfl rfl rfl ?_ | refine KW.tF rfl rfl rfl ?_
    rw [tv_false (fun p => h1 p.1)]
    exact KW.ret rfl rfl rfl rfl (rfl)
theorem validDeed9 {A B : Int} : Spec Tryz.prog S H0 75 [.agg [.int .i64 9, .int .i64 A, .int .i64 B].toArray] (fun v => v = .bool (tv (DeedP (9, A, B)))) := by
  have e : DeedP (9, A, B) ↔ ((0 ≤ A ∧ A ≤ 999) ∧ (0 ≤ B ∧ B ≤ 999) ∧ A = 0 ∧ B = 0) := by simp [DeedP, cntD]
  rw [tv_congr e]
  refine Spec.of1 Tryz.func75 rfl (by kernel_rfl) rfl (fun H _ => ?_)
  refine KW.callE rfl rfl rfl rfl rfl (deedWord9) (fun _ _ => ?_)
  refine KW.tT rfl rfl (by simp [ByteArray.toList, ByteArray.toList.loop, ByteArray.size, ByteArray.get!]) ?_
  refine KW.callE rfl rfl rfl rfl rfl (within _ _ _) (fun _ _ => ?_)
  refine KW.tst rfl rfl (fun h1 => ?_) (fun h1 => ?_)
  · refine KW.callE rfl rfl rfl rfl rfl (within _ _ _) (fun _ _ => ?_)
    refine KW.tst rfl rfl (fun h2 => ?_) (fun h2 => ?_)
    · repeat first | refine KW.tT rfl rfl rfl ?_ | refine KW.tF rfl rfl rfl ?_
      refine KW.tst rfl rfl (fun h3 => ?_) (fun h3 => ?_)
      · repeat first | refine KW.tT rfl rfl rfl ?_ | refine KW.tF rfl rfl rfl ?_
        refine KW.ret rfl rfl rfl rfl ?_
        by_cases h4 : B = 0
        · rw [tv_true ⟨h1, h2, h3, h4⟩, h4]; rfl
        · rw [tv_false (fun p => h4 p.2.2.2)]; show Value.bool (decide (B = 0)) = _; rw [decide_eq_false h4]
      · repeat first | refine KW.tT rfl rfl rfl ?_ | refine KW.tF rfl rfl rfl ?_
        rw [tv_false (fun p => h3 p.2.2.1)]
        exact KW.ret rfl rfl rfl rfl (rfl)
    · repeat first | refine KW.tT rfl rfl rfl ?_ | refine KW.tF rfl rfl rfl ?_
      rw [tv_false (fun p => h2 p.2.1)]
      exact KW.ret rfl rfl rfl rfl (rfl)
  · repeat first | refine KW.tT rfl rfl rfl ?_ | refine KW.tF rfl rfl rfl ?_
    rw [tv_false (fun p => h1 p.1)]
    exact KW.ret rfl rfl rfl rfl (rfl)
/-- A deed, either side. -/
theorem validDeed (d : T_Deed) : Spec Tryz.prog S H0 75 [.agg [.int .i64 d.1, .int .i64 d.2.1, .int .i64 d.2.2].toArray] (fun v => v = .bool (tv (DeedP d))) := by
  obtain ⟨k, A, B⟩ := d
  by_cases h : 1 ≤ k ∧ k ≤ 9
  · have : k = 1 ∨ k = 2 ∨ k = 3 ∨ k = 4 ∨ k = 5 ∨ k = 6 ∨ k = 7 ∨ k = 8 ∨ k = 9 := by omega
    rcases this with rfl | rfl | rfl | rfl | rfl | rfl | rfl | rfl | rfl
    · exact validDeed1
    · exact validDeed2
    · exact validDeed3
    · exact validDeed4
    · exact validDeed5
    · exact validDeed6
    · exact validDeed7
    · exact validDeed8
    · exact validDeed9
  · exact validDeedN h
theorem l08Words : SpecM Tryz.prog S H0 99 [] (fun n v H1 => ∃ a o, v = .tuple #[.slice (some a) 10 10, .slice (some ⟨o, 0, some 1⟩) 10 10] ∧ KI.Ml (New n H1.n) H1 (.slice (some ⟨o, 0, some 1⟩) 10 10) [0, 1, 1, 1, 1, 1, 2, 1, 1, 0]) := by
  refine SpecM.of1 Tryz.func99 rfl (by kernel_rfl) rfl (fun H _ => ?_)
  refine KW.lit rfl rfl rfl rfl rfl rfl rfl rfl rfl rfl [_, _, _, _, _, _, _, _, _, _] rfl rfl (fun v hv => by simp at hv; rcases hv with rfl | rfl | rfl | rfl | rfl | rfl | rfl | rfl | rfl | rfl <;> rfl) rfl ?_
  refine KW.lit rfl rfl rfl rfl rfl rfl rfl rfl rfl rfl [_, _, _, _, _, _, _, _, _, _] rfl rfl (fun v hv => by simp at hv; rcases hv with rfl | rfl | rfl | rfl | rfl <;> rfl) rfl ?_
  refine KW.retM1 rfl rfl rfl rfl (fun H1 g => ⟨_, _, rfl, int_ml ⟨by omega, by have := g.n_; omega⟩ (g.blk (j := 1) rfl).1 rfl rfl (Nat.le_refl _)⟩)
theorem l08DeedM (d : T_Deed) : SpecM Tryz.prog S H0 68 [.agg [.int .i64 d.1, .int .i64 d.2.1, .int .i64 d.2.2].toArray] (fun _ v _ => v = .bool (tv (DeedP d))) := by
  obtain ⟨k, A, B⟩ := d
  refine SpecM.of1 Tryz.func68 rfl (by kernel_rfl) rfl (fun H _ => ?_)
  refine KW.callE rfl rfl rfl rfl rfl (l00In _ _ _) (fun _ _ => ?_)
  refine KW.tstB rfl rfl (fun h1 => ?_) (fun h1 => ?_)
  · have h1 : ¬ (1 ≤ k ∧ k ≤ 9) := by simp at h1; omega
    repeat first | refine KW.tT rfl rfl rfl ?_ | refine KW.tF rfl rfl rfl ?_
    refine KW.cT rfl rfl (by first | (simp; done) | decide) ?_
    rw [tv_false (fun p => h1 p.1)]
    refine KW.retM1 rfl rfl rfl rfl (fun H1 g => rfl)
  · have h1 : 1 ≤ k ∧ k ≤ 9 := by simpa using h1
    refine KW.callE rfl rfl rfl rfl rfl (l00In _ _ _) (fun _ _ => ?_)
    refine KW.tstB rfl rfl (fun h2 => ?_) (fun h2 => ?_)
    · have h2 : ¬ (0 ≤ A ∧ A ≤ 999) := by simp at h2; omega
      repeat first | refine KW.tT rfl rfl rfl ?_ | refine KW.tF rfl rfl rfl ?_
      refine KW.cT rfl rfl (by first | (simp; done) | decide) ?_
      rw [tv_false (fun p => h2 p.2.1)]
      refine KW.retM1 rfl rfl rfl rfl (fun H1 g => rfl)
    · have h2 : 0 ≤ A ∧ A ≤ 999 := by simpa using h2
      refine KW.callE rfl rfl rfl rfl rfl (l00In _ _ _) (fun _ _ => ?_)
      refine KW.cndB rfl rfl (fun h3 => ?_) (fun h3 => ?_)
      · have h3 : ¬ (0 ≤ B ∧ B ≤ 999) := by simp at h3; omega
        rw [tv_false (fun p => h3 p.2.2.1)]
        refine KW.retM1 rfl rfl rfl rfl (fun H1 g => rfl)
      · have h3 : 0 ≤ B ∧ B ≤ 999 := by simpa using h3
        refine KW.callN1 rfl rfl rfl rfl rfl (l08Words) (fun v H1 S1 m1 _ _ hv => ?_)
        obtain ⟨a, o, rfl, hM⟩ := hv
        refine KW.getI hM.sl.up rfl rfl rfl rfl rfl rfl rfl rfl rfl rfl rfl rfl rfl rfl rfl rfl (by omega) (by show k < 10; omega) (fun y hy => ?_)
        have hyk : y = cntD k := by
          have : k = 1 ∨ k = 2 ∨ k = 3 ∨ k = 4 ∨ k = 5 ∨ k = 6 ∨ k = 7 ∨ k = 8 ∨ k = 9 := by omega
          rcases this with rfl | rfl | rfl | rfl | rfl | rfl | rfl | rfl | rfl <;> (cases hy; rfl)
        subst hyk
        refine KW.tst rfl rfl (fun g1 => ?_) (fun g1 => ?_)
        · have g1 : 0 < cntD k := g1
          repeat first | refine KW.tT rfl rfl rfl ?_ | refine KW.tF rfl rfl rfl ?_
          refine KW.getI hM.sl.up rfl rfl rfl rfl rfl rfl rfl rfl rfl rfl rfl rfl rfl rfl rfl rfl (by omega) (by show k < 10; omega) (fun y2 hy2 => ?_)
          obtain rfl : cntD k = y2 := by have := hy.symm.trans hy2; exact Option.some.inj this
          refine KW.tst rfl rfl (fun g2 => ?_) (fun g2 => ?_)
          · have g2 : 1 < cntD k := g2
            repeat first | refine KW.tT rfl rfl rfl ?_ | refine KW.tF rfl rfl rfl ?_
            rw [tv_true (p := DeedP (k, A, B)) ⟨h1, h2, h3, .inl g1, .inl g2⟩]
            refine KW.retM1 rfl rfl rfl rfl (fun H1 g => rfl)
          · have g2 : ¬ 1 < cntD k := g2
            repeat first | refine KW.tT rfl rfl rfl ?_ | refine KW.tF rfl rfl rfl ?_
            refine KW.retM1 rfl rfl rfl rfl (fun H1 g => ?_)
            by_cases h4 : B = 0
            · rw [tv_true (p := DeedP (k, A, B)) ⟨h1, h2, h3, .inl g1, .inr h4⟩]; show Value.bool (decide (B = 0)) = _; rw [decide_eq_true h4]
            · rw [tv_false (p := DeedP (k, A, B)) (fun p => p.2.2.2.2.elim g2 h4)]; show Value.bool (decide (B = 0)) = _; rw [decide_eq_false h4]
        · have g1 : ¬ 0 < cntD k := g1
          refine KW.tst rfl rfl (fun g3 => ?_) (fun g3 => ?_)
          · have g3 : A = 0 := g3
            repeat first | refine KW.tT rfl rfl rfl ?_ | refine KW.tF rfl rfl rfl ?_
            refine KW.getI hM.sl.up rfl rfl rfl rfl rfl rfl rfl rfl rfl rfl rfl rfl rfl rfl rfl rfl (by omega) (by show k < 10; omega) (fun y2 hy2 => ?_)
            obtain rfl : cntD k = y2 := by have := hy.symm.trans hy2; exact Option.some.inj this
            refine KW.tno rfl rfl (by omega) ?_
            repeat first | refine KW.tT rfl rfl rfl ?_ | refine KW.tF rfl rfl rfl ?_
            refine KW.retM1 rfl rfl rfl rfl (fun H1 g => ?_)
            by_cases h4 : B = 0
            · rw [tv_true (p := DeedP (k, A, B)) ⟨h1, h2, h3, .inr g3, .inr h4⟩]; show Value.bool (decide (B = 0)) = _; rw [decide_eq_true h4]
            · rw [tv_false (p := DeedP (k, A, B)) (fun p => p.2.2.2.2.elim (fun q => by have q : 1 < cntD k := q; omega) h4)]; show Value.bool (decide (B = 0)) = _; rw [decide_eq_false h4]
          · have g3 : ¬ A = 0 := g3
            repeat first | refine KW.tT rfl rfl rfl ?_ | refine KW.tF rfl rfl rfl ?_
            rw [tv_false (p := DeedP (k, A, B)) (fun p => p.2.2.2.1.elim g1 g3)]
            refine KW.retM1 rfl rfl rfl rfl (fun H1 g => rfl)
theorem l08Deed (d : T_Deed) : Spec Tryz.prog S H0 68 [.agg [.int .i64 d.1, .int .i64 d.2.1, .int .i64 d.2.2].toArray] (fun v => v = .bool (tv (DeedP d))) := l08DeedM d
end
end Go.Proofs.YtijmkfnmdhpakaaGreat.Am
/- Slices of elements of several cells: literals, appends (also in place), cuts, clearing. For every program. No condition beyond each theorem's own. -/
set_option linter.unusedSimpArgs false
set_option linter.unusedVariables false
namespace Go.Proofs.YtijmkfnmdhpakaaGreat.Am
open Go Go.RowKit
theorem fold_put (cs : List Value) : ∀ (pre rest : List Value), cs.length ≤ rest.length → List.foldl (fun (a : Array Value) (p : Value × Nat) => a.setIfInBounds (0 + p.2) p.1) (pre ++ rest).toArray (cs.zipIdx pre.length) = (pre ++ cs ++ rest.drop cs.length).toArray := by
  induction cs with
  | nil => intro pre rest _; simp
  | cons c cs ih =>
    intro pre rest h
    match rest, h with
    | r :: rest, h =>
      rw [List.zipIdx_cons, List.foldl_cons]
      have e : (pre ++ r :: rest).toArray.setIfInBounds (0 + pre.length) c = ((pre ++ [c]) ++ rest).toArray := by
        rw [Nat.zero_add]
        simp
      simp only at e ⊢
      rw [e]
      have := ih (pre ++ [c]) rest (by simpa using h)
      rw [List.length_append, List.length_singleton] at this
      rw [this]
      simp
theorem fill_one {z : Array Value} {cs : List Value} {s : Nat} (hz : z.size = s) (hs : cs.length = s) : Instr.fill (fun j => some (j * s, s)) z [(0, .agg cs.toArray)] = some cs.toArray := by
  have hc : (Value.agg cs.toArray).cells = cs.toArray := rfl
  simp only [Instr.fill, hc]
  rw [if_neg (by simp; omega)]
  congr 1
  have h := fold_put cs [] z.toList (by simp; omega)
  simp only [List.nil_append, List.length_nil] at h
  have e : z.toList.drop cs.length = [] := List.drop_eq_nil_of_le (by simp; omega)
  rw [e, List.append_nil] at h
  refine Eq.trans ?_ h
  simp [Nat.zero_mul]
section
variable {P : Program} {S : Ids} {H0 : AH} {Q : PostC} {k k1 : List It} {e e1 : Env} {T T1 : List Var} {n n1 : Nat} {l1 r1 : List Nat} {d1 : Tmp}
/-- The empty literal. -/
theorem KW.litS0 {o : Oper} {dr : Bool} {t el : TypeId} {m : Nat} {parts : Array (Nat × Operand)} {inf : TypeInfo} {z : Value} (h : Go1 P k e T n (.op o dr) k1 e1 T1 n1 l1 r1) (hlr : l1 = r1) (ho : o.op = .buildSlice t m parts) (hd : o.dst = some d1)
    (hu : P.underlying t = some (.slice el)) (hi : P.info? el = some inf) (hz : inf.zero = some z) (hzo : zeroOkL P el = true) (hp : (parts.toList.map fun p => (p.1, ev e1 p.2)) = []) (hm : m = 0)
    (hk : KW P S H0 Q (n1 + 1) (T1 ++ [(n1, ⟨el, true, []⟩)]) k1 (put1 e1 d1 (.slice (some ⟨n1, 0, some inf.size⟩) 0 0))) : KW P S H0 Q n T k e := by
  refine KW.go h hlr (KEvt.heap (c := ⟨_, _, _, _, _, _⟩) _ _ _ (by rw [ho]; exact .inl rfl) (fun H g => ⟨none, _, ?_, g.push _⟩) (by rw [hd, put1_eq]; exact hk))
  rw [ho]
  subst hm
  have h1 : (zarr z 0).size = 0 := by simp [zarr]
  simp only [hop, hp, alit, hu, hi, hz, Nat.zero_mul, Instr.fill, g.n_]
  rw [if_pos ⟨zeroOkL_ok hzo, by omega⟩]
  simp only [h1, if_true]
  have h2 : (zarr z 0).toList = [] := List.eq_nil_of_length_eq_zero (by simpa using h1)
  rw [h2]
/-- A literal of one element. -/
theorem KW.litS1 {o : Oper} {dr : Bool} {t el : TypeId} {m : Nat} {parts : Array (Nat × Operand)} {inf : TypeInfo} {z : Value} {cs : List Value} (h : Go1 P k e T n (.op o dr) k1 e1 T1 n1 l1 r1) (hlr : l1 = r1) (ho : o.op = .buildSlice t m parts) (hd : o.dst = some d1)
    (hu : P.underlying t = some (.slice el)) (hi : P.info? el = some inf) (hz : inf.zero = some z) (hzo : zeroOkL P el = true) (hp : (parts.toList.map fun p => (p.1, ev e1 p.2)) = [(0, .agg cs.toArray)]) (hm : m = 1) (hs : inf.size = cs.length) (hle : Nat.ble cs.length 16777216 = true)
    (hk : KW P S H0 Q (n1 + 1) (T1 ++ [(n1, ⟨el, true, cs⟩)]) k1 (put1 e1 d1 (.slice (some ⟨n1, 0, some inf.size⟩) 1 1))) : KW P S H0 Q n T k e := by
  refine KW.go h hlr (KEvt.heap (c := ⟨_, _, _, _, _, _⟩) _ _ _ (by rw [ho]; exact .inl rfl) (fun H g => ⟨none, _, ?_, g.push _⟩) (by rw [hd, put1_eq]; exact hk))
  rw [ho]
  subst hm
  have hle := Nat.le_of_ble_eq_true hle
  have h1 : (zarr z (1 * inf.size)).size = inf.size := by simp [zarr]
  simp only [hop, hp, alit, hu, hi, hz, fill_one h1 hs.symm, g.n_]
  rw [if_pos ⟨zeroOkL_ok hzo, by omega⟩]
  simp [hs]
/-- append to nil, of elements of any size. -/
theorem KW.appNS {o : Oper} {dr : Bool} {t el : TypeId} {x y : Operand} {inf : TypeInfo} {m : Nat} {ys : List Value} (h : Go1 P k e T n (.op o dr) k1 e1 T1 n1 l1 r1) (hlr : l1 = r1) (ho : o.op = .call { callee := .builtin .append, args := #[x, y], argTypes := #[t, t] }) (hd : o.dst = some d1) (hx : ev e1 x = .slice none 0 0)
    (hu : P.underlying t = some (.slice el)) (hi : P.info? el = some inf) (hs : 0 < inf.size) (hzo : zeroOkL P el = true) (hy : ∀ H, Good S H0 T1 n1 H → acells H (ev e1 y) inf.size = some (m, ys)) (hone : ys.all Value.oneCell' = true) (hm : m ≠ 0) (hb : m * inf.bytes ≤ 140737488355328) (hml : m ≤ 9223372036854775807)
    (hk : KW P S H0 Q (n1 + 1) (T1 ++ [(n1, ⟨el, true, ys⟩)]) k1 (put1 e1 d1 (.slice (some ⟨n1, 0, some inf.size⟩) m m))) : KW P S H0 Q n T k e := by
  refine KW.go h hlr (KEvt.heap (c := ⟨_, _, _, _, _, _⟩) _ _ _ (by rw [ho]; exact .inr rfl) (fun H g => ⟨none, _, ?_, g.push _⟩) (by rw [hd, put1_eq]; exact hk))
  rw [ho]
  have h1 := hy H g
  simp only [hop, aapp, aappend, hu, hi, hx, h1]
  rw [if_pos trivial, if_pos ⟨zeroOkL_ok hzo, hs, hone⟩, if_neg hm, if_pos ⟨hml, hb⟩, g.n_]
/-- append to what is one's own; what stood behind the slice is left. -/
theorem KW.appTS {o : Oper} {dr : Bool} {t el : TypeId} {x y : Operand} {inf : TypeInfo} {m len c id off : Nat} {xs ys : List Value} (j : Nat) (h : Go1 P k e T n (.op o dr) k1 e1 T1 n1 l1 r1) (hlr : l1 = r1) (ho : o.op = .call { callee := .builtin .append, args := #[x, y], argTypes := #[t, t] }) (hd : o.dst = some d1) (hu : P.underlying t = some (.slice el)) (hi : P.info? el = some inf) (hx : ev e1 x = .slice (some ⟨id, off, some inf.size⟩) len c) (hT : T1[j]? = some (id, ⟨el, true, xs⟩))
    (hs : 0 < inf.size) (hzo : zeroOkL P el = true) (hy : ∀ H, Good S H0 T1 n1 H → acells H (ev e1 y) inf.size = some (m, ys)) (hlen : off + len * inf.size ≤ xs.length) (hone : ys.all Value.oneCell' = true) (hm : m ≠ 0) (hb : (len + m) * inf.bytes ≤ 140737488355328) (hml : len + m ≤ 9223372036854775807)
    (hk : KW P S H0 Q (n1 + 1) (T1.set j (n1, ⟨el, true, (xs.drop off).take (len * inf.size) ++ ys⟩)) k1 (put1 e1 d1 (.slice (some ⟨n1, 0, some inf.size⟩) (len + m) (len + m)))) : KW P S H0 Q n T k e := by
  refine KW.go h hlr (KEvt.heap (c := ⟨_, _, _, _, _, _⟩) _ _ _ (by rw [ho]; exact .inr rfl) (fun H g => ⟨none, _, ?_, g.move hT _⟩) (by rw [hd, put1_eq]; exact hk))
  rw [ho]
  have h1 := hy H g
  have h2 := (g.blk hT).1
  simp only [hop, aapp, aappend, hu, hi, hx, h1, h2]
  rw [if_pos trivial, if_pos ⟨zeroOkL_ok hzo, hs, hone⟩, if_neg hm, if_pos ⟨trivial, trivial, trivial, hlen, hml, hb⟩]
  simp only [AH.kill, g.n_]
/-- Nothing is appended. -/
theorem KW.appZS {o : Oper} {dr : Bool} {t el : TypeId} {x y : Operand} {inf : TypeInfo} {a : Option Addr} {len c : Nat} (h : Go1 P k e T n (.op o dr) k1 e1 T1 n1 l1 r1) (hlr : l1 = r1) (ho : o.op = .call { callee := .builtin .append, args := #[x, y], argTypes := #[t, t] }) (hd : o.dst = some d1) (hx : ev e1 x = .slice a len c) (ha : (∃ id off es, a = some ⟨id, off, some es⟩) ∨ (a = none ∧ len = 0 ∧ c = 0))
    (hu : P.underlying t = some (.slice el)) (hi : P.info? el = some inf) (hs : 0 < inf.size) (hzo : zeroOkL P el = true) (hy : ∀ H, Good S H0 T1 n1 H → acells H (ev e1 y) inf.size = some (0, []))
    (hk : KW P S H0 Q n1 T1 k1 (put1 e1 d1 (.slice a len c))) : KW P S H0 Q n T k e := by
  refine KW.go h hlr (KEvt.heap (c := ⟨_, _, _, _, _, _⟩) _ _ _ (by rw [ho]; exact .inr rfl) (fun H g => ⟨none, _, ?_, g⟩) (by rw [hd, put1_eq]; exact hk))
  rw [ho]
  have h1 := hy H g
  simp only [hop, aapp, aappend, hu, hi, hx, h1]
  rw [if_pos trivial, if_pos ⟨zeroOkL_ok hzo, hs, rfl⟩]
  rcases ha with ⟨id, off, es, rfl⟩ | ⟨rfl, rfl, rfl⟩
  · simp
  · simp
/-- append in place. -/
theorem KW.appI {o : Oper} {dr : Bool} {t el : TypeId} {x y : Operand} {inf : TypeInfo} {m len c id off : Nat} {ty : TypeId} {xs ys : List Value} (j : Nat) (h : Go1 P k e T n (.op o dr) k1 e1 T1 n1 l1 r1) (hlr : l1 = r1) (ho : o.op = .call { callee := .builtin .append, args := #[x, y], argTypes := #[t, t] }) (hd : o.dst = some d1) (hu : P.underlying t = some (.slice el)) (hi : P.info? el = some inf) (hx : ev e1 x = .slice (some ⟨id, off, some inf.size⟩) len c) (hT : T1[j]? = some (id, ⟨ty, true, xs⟩))
    (hy : ∀ H, Good S H0 T1 n1 H → acells H (ev e1 y) inf.size = some (m, ys)) (hc : len + m ≤ c) (hlen : off + len * inf.size + ys.length ≤ xs.length) (hone : ys.all Value.oneCell' = true)
    (hk : KW P S H0 Q n1 (T1.set j (id, ⟨ty, true, splice xs (off + len * inf.size) ys⟩)) k1 (put1 e1 d1 (.slice (some ⟨id, off, some inf.size⟩) (len + m) c))) : KW P S H0 Q n T k e := by
  refine KW.go h hlr (KEvt.heap (c := ⟨_, _, _, _, _, _⟩) _ (T1.set j (id, ⟨ty, true, splice xs (off + len * inf.size) ys⟩)) n1 (by rw [ho]; exact .inr rfl) (fun H g => ⟨some 0, _, ?_, g.set hT _⟩) (by rw [hd, put1_eq]; exact hk))
  rw [ho]
  have h1 := hy H g
  have h2 := (g.blk hT).1
  simp only [hop, aapp, aappendI, hu, hi, hx, h1, h2]
  rw [if_pos trivial, if_pos ⟨trivial, trivial, hc, hlen, hone⟩]
theorem acells_seg {H : AH} {id off m c es : Nat} {b : Blk} (hb : H.m id = some b) (hl : off + m * es ≤ b.cells.length) : acells H (.slice (some ⟨id, off, some es⟩) m c) es = some (m, (b.cells.drop off).take (m * es)) := by
  cases m with
  | zero => simp [acells]
  | succ m =>
    simp only [acells, if_true, hb]
    rw [if_pos hl]
theorem acells_nil (H : AH) (a : Option Addr) (c es : Nat) : acells H (.slice a 0 c) es = some (0, []) := by
  simp [acells]
/-- x[lo:hi:max]: it is looked at and left. -/
theorem KW.cut3 {o : Oper} {dr : Bool} {t el : TypeId} {x y z w : Operand} {inf : TypeInfo} {id off es len c l h_ m : Nat} (h : Go1 P k e T n (.op o dr) k1 e1 T1 n1 l1 r1) (hlr : l1 = r1) (ho : o.op = .slice t x (some y) (some z) (some w)) (hd : o.dst = some d1) (hx : ev e1 x = .slice (some ⟨id, off, some es⟩) len c) {kl kh km : IntKind} {il ih im : Int} (hl : ev e1 y = .int kl il) (hh : ev e1 z = .int kh ih) (hm : ev e1 w = .int km im)
    (hu : P.underlying t = some (.slice el)) (hi : P.info? el = some inf) (he : inf.size = es) (e1_ : il = l) (e2_ : ih = h_) (e3_ : im = m) (h1 : l ≤ h_) (h2 : h_ ≤ m) (h3 : m ≤ c) (hk : ∀ v, KW P S H0 Q n1 T1 k1 (put1 e1 d1 v)) : KW P S H0 Q n T k e := by
  subst e1_ e2_ e3_
  have hp : ∃ v, acut3 P t (ev e1 x) (ev e1 y) (ev e1 z) (ev e1 w) = some v := by
    unfold acut3
    simp only [hu, hx, hi, hl, hh, hm, abound]
    rw [if_pos ⟨by omega, by omega⟩]
    simp only
    rw [if_pos ⟨by omega, by omega⟩]
    simp only
    rw [if_pos ⟨by omega, by omega⟩]
    simp only
    rw [if_pos he.symm]
    split <;> exact ⟨_, rfl⟩
  obtain ⟨v, hv⟩ := hp
  exact KW.pure h hlr ho hd rfl v (by simp only [pop]; exact hv) (hk v)
/-- x[lo:hi], where something or room is left behind lo. -/
theorem KW.cutM {o : Oper} {dr : Bool} {t el : TypeId} {x y z : Operand} {inf : TypeInfo} {id off es len c l h_ : Nat} (h : Go1 P k e T n (.op o dr) k1 e1 T1 n1 l1 r1) (hlr : l1 = r1) (ho : o.op = .slice t x (some y) (some z) none) (hd : o.dst = some d1) (hx : ev e1 x = .slice (some ⟨id, off, some es⟩) len c) {kl kh : IntKind} {il ih : Int} (hl : ev e1 y = .int kl il) (hh : ev e1 z = .int kh ih)
    (hu : P.underlying t = some (.slice el)) (hi : P.info? el = some inf) (he : inf.size = es) (e1_ : il = l) (e2_ : ih = h_) (h1 : l ≤ h_) (h2 : h_ ≤ c) (h0 : l < c) (hk : KW P S H0 Q n1 T1 k1 (put1 e1 d1 (.slice (some ⟨id, off + l * es, some es⟩) (h_ - l) (c - l)))) : KW P S H0 Q n T k e := by
  subst e1_ e2_
  refine KW.pure h hlr ho hd rfl _ ?_ hk
  simp only [pop, Option.map, acut, hu, hx, hi, hl, hh, bHi, bLo, abound]
  rw [if_pos ⟨by omega, by omega⟩]
  simp only
  rw [if_pos ⟨by omega, by omega⟩]
  simp only
  rw [if_pos he.symm]
  by_cases hl0 : l = 0
  · subst hl0
    rw [if_pos (by simp)]
    simp [he]
  · rw [if_neg (by simpa using hl0), if_neg (by simp; omega)]
    simp [he]
/-- x[lo:]: a cell or none is left. -/
theorem KW.cutF {o : Oper} {dr : Bool} {t el : TypeId} {x y : Operand} {inf : TypeInfo} {id off es len c l : Nat} (h : Go1 P k e T n (.op o dr) k1 e1 T1 n1 l1 r1) (hlr : l1 = r1) (ho : o.op = .slice t x (some y) none none) (hd : o.dst = some d1) (hx : ev e1 x = .slice (some ⟨id, off, some es⟩) len c) {kl : IntKind} {il : Int} (hl : ev e1 y = .int kl il)
    (hu : P.underlying t = some (.slice el)) (hi : P.info? el = some inf) (he : inf.size = es) (e1_ : il = l) (h1 : l ≤ len) (hc : len ≤ c) (hk : ∀ v, (v = .slice (some ⟨id, off + l * es, some es⟩) (len - l) (c - l) ∨ (len - l = 0 ∧ ∃ a q, v = .slice a 0 q)) → KW P S H0 Q n1 T1 k1 (put1 e1 d1 v)) : KW P S H0 Q n T k e := by
  subst e1_
  by_cases hl0 : l = 0
  · subst hl0
    refine KW.pure h hlr ho hd rfl (.slice (some ⟨id, off, some es⟩) len c) ?_ (hk _ (.inl (by simp)))
    simp only [pop, Option.map, acut, hu, hx, hi, hl, bHi, bLo, abound]
    rw [if_pos ⟨by omega, by omega⟩]
    simp [he]
  · by_cases hlc : c = l
    · refine KW.pure h hlr ho hd rfl (.slice (some ⟨id, off, none⟩) 0 0) ?_ (hk _ (.inr ⟨by omega, _, _, rfl⟩))
      simp only [pop, Option.map, acut, hu, hx, hi, hl, bHi, bLo, abound]
      rw [if_pos ⟨by omega, by omega⟩]
      simp only
      rw [if_pos he.symm, if_neg (by simpa using hl0), if_pos (by simpa using hlc)]
    · refine KW.pure h hlr ho hd rfl (.slice (some ⟨id, off + l * es, some es⟩) (len - l) (c - l)) ?_ (hk _ (.inl rfl))
      simp only [pop, Option.map, acut, hu, hx, hi, hl, bHi, bLo, abound]
      rw [if_pos ⟨by omega, by omega⟩]
      simp only
      rw [if_pos he.symm, if_neg (by simpa using hl0), if_neg (by simpa using hlc)]
      simp [he]
/-- x[:hi] of what is one's own. -/
theorem KW.cutT {o : Oper} {dr : Bool} {t el : TypeId} {x y : Operand} {inf : TypeInfo} {id off es len c m : Nat} {kh : IntKind} {ih : Int} (h : Go1 P k e T n (.op o dr) k1 e1 T1 n1 l1 r1) (hlr : l1 = r1) (ho : o.op = .slice t x none (some y) none) (hd : o.dst = some d1) (hx : ev e1 x = .slice (some ⟨id, off, some es⟩) len c) (hy : ev e1 y = .int kh ih)
    (hu : P.underlying t = some (.slice el)) (hi : P.info? el = some inf) (he : inf.size = es) (e1_ : ih = m) (hm : m ≤ c) (hk : KW P S H0 Q n1 T1 k1 (put1 e1 d1 (.slice (some ⟨id, off, some es⟩) m c))) : KW P S H0 Q n T k e := by
  subst e1_
  refine KW.pure h hlr ho hd rfl _ ?_ hk
  simp only [pop, acut, hu, hx, hi, Option.map, hy, bHi, bLo, abound]
  rw [if_pos ⟨by omega, by omega⟩]
  simp [he]
/-- clear of what is one's own. -/
theorem KW.clr {o : Oper} {dr : Bool} {t el : TypeId} {x : Operand} {inf : TypeInfo} {z : Value} {len c id off : Nat} {ty : TypeId} {xs : List Value} (j : Nat) (h : Go1 P k e T n (.op o dr) k1 e1 T1 n1 l1 r1) (hlr : l1 = r1) (ho : o.op = .call { callee := .builtin .clear, args := #[x], argTypes := #[t] }) (hd : o.dst = none) (hu : P.underlying t = some (.slice el)) (hi : P.info? el = some inf) (hz : inf.zero = some z) (hx : ev e1 x = .slice (some ⟨id, off, some inf.size⟩) len c) (hT : T1[j]? = some (id, ⟨ty, true, xs⟩)) (hzo : zeroOkL P el = true) (hzs : z.cells.size = inf.size)
    (hn : len ≠ 0) (hlen : off + len * inf.size ≤ xs.length) (hone : (zarr z (len * z.cells.size)).all Value.oneCell' = true)
    (hk : KW P S H0 Q n1 (T1.set j (id, ⟨ty, true, splice xs off (zarr z (len * z.cells.size)).toList⟩)) k1 e1) : KW P S H0 Q n T k e := by
  refine KW.go h hlr (KEvt.heap (c := ⟨_, _, _, _, _, _⟩) (.tuple #[]) (T1.set j (id, ⟨ty, true, splice xs off (zarr z (len * z.cells.size)).toList⟩)) n1 (by rw [ho]; exact .inr rfl) (fun H g => ⟨none, H.set id ⟨ty, true, splice xs off (zarr z (len * z.cells.size)).toList⟩, ?_, g.set hT _⟩) (by rw [hd]; exact hk))
  rw [ho]
  have h2 := (g.blk hT).1
  simp only [hop, aclear, hu, hi, hz, hx, h2]
  rw [if_neg hn, if_pos ⟨zeroOkL_ok hzo, trivial, trivial, hzs, hlen, hone⟩]
end
end Go.Proofs.YtijmkfnmdhpakaaGreat.Am
/- The ceremony in memory: blocks of elements, a hall and what it leads to. For every program. No condition beyond each theorem's own. -/
set_option linter.unusedSimpArgs false
set_option linter.unusedVariables false
namespace Go.Proofs.YtijmkfnmdhpakaaGreat.Am
open Go Go.RowKit
/-- Cells bear a list's elements. -/
def Cl {α : Type} (d : Kn α) (X : Ids) (A : AH) (xs : List α) (cs : List Value) : Prop := xs.length * d.es ≤ cs.length ∧ ∀ (i : Nat) x, xs[i]? = some x → d.R X A x ((cs.drop (i * d.es)).take d.es)
section
variable {α : Type} {d : Kn α} {X X' S : Ids} {A A' : AH} {xs : List α} {cs : List Value}
theorem Cl.mv (h : Cl d X A xs cs) (hA : ∀ id, X id → A'.m id = A.m id) (hX : ∀ id, X id → X' id) : Cl d X' A' xs cs :=
  ⟨h.1, fun i x hx => d.more hX (d.same hA (h.2 i x hx))⟩
theorem Cl.nil (d : Kn α) (X : Ids) (A : AH) (cs : List Value) : Cl d X A [] cs := ⟨by simp, fun i x h => by simp at h⟩
theorem Cl.sl {id c : Nat} {b : Blk} (h : Cl d X A xs cs) (hS : S id) (hm : A.m id = some b) (hb : b.cells = cs) (hX : ∀ id, X id → S id) (hc : xs.length ≤ c) : d.Sl S A (.slice (some ⟨id, 0, some d.es⟩) xs.length c) xs :=
  .inr ⟨id, 0, c, b, rfl, hc, hS, hm, by rw [hb, Nat.zero_add]; exact h.1, fun i x hx => by rw [hb, Nat.zero_add]; exact d.more hX (h.2 i x hx)⟩
theorem seg_splice {l ys : List Value} {k q n : Nat} (hk : k + ys.length ≤ l.length) (h : q + n ≤ k ∨ k + ys.length ≤ q) : ((splice l k ys).drop q).take n = (l.drop q).take n := by
  refine List.ext_getElem? fun j => ?_
  rw [List.getElem?_take, List.getElem?_take]
  split
  · rename_i hj
    rw [List.getElem?_drop, List.getElem?_drop, splice_get l k ys hk]
    rcases h with h | h
    · rw [if_pos (by omega)]
    · rw [if_neg (by omega), if_neg (by omega)]
  · rfl
theorem seg_in {l ys : List Value} {k : Nat} (hk : k + ys.length ≤ l.length) : ((splice l k ys).drop k).take ys.length = ys := by
  refine List.ext_getElem? fun j => ?_
  rw [List.getElem?_take]
  by_cases hj : j < ys.length
  · rw [if_pos hj, List.getElem?_drop, splice_get l k ys hk, if_neg (by omega), if_pos (by omega)]
    congr 1
    omega
  · rw [if_neg hj, List.getElem?_eq_none (by omega)]
theorem mul_le' {i n e : Nat} (h : i < n) : i * e + e ≤ n * e := by rw [← Nat.succ_mul]; exact Nat.mul_le_mul_right _ h
/-- An element is written. -/
theorem Cl.set {i : Nat} {y : α} {ys : List Value} (h : Cl d X A xs cs) (hi : i < xs.length) (hy : d.R X A y ys) : Cl d X A (xs.set i y) (splice cs (i * d.es) ys) ∧ (splice cs (i * d.es) ys).length = cs.length := by
  have hl := d.len hy
  have h1 := mul_le' (e := d.es) hi
  have hk : i * d.es + ys.length ≤ cs.length := by have := h.1; omega
  have hlen := splice_length cs (i * d.es) ys hk
  refine ⟨⟨by rw [hlen, List.length_set]; exact h.1, fun j x hx => ?_⟩, hlen⟩
  rw [List.getElem?_set] at hx
  split at hx
  · rename_i e
    subst e
    cases hx
    have := seg_in hk
    rw [hl] at this
    rw [this]
    exact hy
  · rename_i e
    rw [seg_splice hk]
    · exact h.2 j x hx
    · rcases Nat.lt_or_gt_of_ne e with h2 | h2
      · right; have := mul_le' (e := d.es) h2; omega
      · left; have := mul_le' (e := d.es) h2; omega
/-- A part of an element is written. -/
theorem Cl.part {i : Nat} {x y : α} {a b b' r : List Value} (h : Cl d X A xs cs) (hx : xs[i]? = some x) (hseg : (cs.drop (i * d.es)).take d.es = a ++ (b ++ r)) (hb : b'.length = b.length) (hXX : ∀ id, X id → X' id) (hy : d.R X' A y (a ++ (b' ++ r))) : Cl d X' A (xs.set i y) (splice cs (i * d.es + a.length) b') ∧ (splice cs (i * d.es + a.length) b').length = cs.length := by
  have hi := (List.getElem?_eq_some_iff.1 hx).1
  have hl := d.len hy
  have h1 := mul_le' (e := d.es) hi
  have h0 := h.1
  simp only [List.length_append] at hl
  have hk : i * d.es + (a ++ (b' ++ r)).length ≤ cs.length := by simp only [List.length_append]; omega
  have hk2 : i * d.es + a.length + b'.length ≤ cs.length := by omega
  have e : splice cs (i * d.es + a.length) b' = splice cs (i * d.es) (a ++ (b' ++ r)) := by
    refine List.ext_getElem? fun j => ?_
    rw [splice_get _ _ _ hk, splice_get _ _ _ hk2]
    simp only [List.length_append]
    by_cases c1 : j < i * d.es
    · rw [if_pos (by omega), if_pos c1]
    · rw [if_neg c1]
      by_cases c2 : j < i * d.es + (a.length + (b'.length + r.length))
      · rw [if_pos c2]
        have old : ∀ (v : Value), (a ++ (b ++ r))[j - i * d.es]? = some v → cs[j]? = some v := fun v hv => by
          have := seg_at hseg hv
          rwa [show i * d.es + (j - i * d.es) = j by omega] at this
        by_cases c3 : j < i * d.es + a.length
        · rw [if_pos c3, List.getElem?_append_left (by omega)]
          have hg : a[j - i * d.es]? = some (a[j - i * d.es]'(by omega)) := List.getElem?_eq_getElem (by omega)
          rw [hg]
          exact old _ (by rw [List.getElem?_append_left (by omega)]; exact hg)
        · rw [if_neg c3]
          by_cases c4 : j < i * d.es + a.length + b'.length
          · rw [if_pos c4, List.getElem?_append_right (by omega), List.getElem?_append_left (by omega)]
            congr 1; omega
          · rw [if_neg c4, List.getElem?_append_right (by omega), List.getElem?_append_right (by omega)]
            have hg : r[j - i * d.es - a.length - b'.length]? = some (r[j - i * d.es - a.length - b'.length]'(by omega)) := List.getElem?_eq_getElem (by omega)
            rw [hg]
            exact old _ (by rw [List.getElem?_append_right (by omega), List.getElem?_append_right (by omega), ← hb]; exact hg)
      · rw [if_neg c2, if_neg (by omega), if_neg (by omega)]
  rw [e]
  exact (h.mv (fun _ _ => rfl) hXX).set hi hy
/-- An element more. -/
theorem Cl.snoc {y : α} {ys : List Value} (h : Cl d X A xs cs) (hy : d.R X A y ys) : Cl d X A (xs ++ [y]) ((cs.drop 0).take (xs.length * d.es) ++ ys) := by
  have hl := d.len hy
  have h1 := h.1
  have ht : ((cs.drop 0).take (xs.length * d.es)).length = xs.length * d.es := by rw [List.length_take, List.drop_zero]; omega
  refine ⟨by rw [List.length_append, List.length_append, List.length_singleton, ht, hl, Nat.add_mul]; omega, fun j x hx => ?_⟩
  by_cases hj : j < xs.length
  · rw [List.getElem?_append_left hj] at hx
    have h2 := mul_le' (e := d.es) hj
    have e : ((((cs.drop 0).take (xs.length * d.es)) ++ ys).drop (j * d.es)).take d.es = (cs.drop (j * d.es)).take d.es := by
      rw [List.drop_append_of_le_length (by omega), List.take_append_of_le_length (by rw [List.length_drop]; omega), List.drop_zero, List.drop_take, List.take_take]
      congr 1
      omega
    rw [e]
    exact h.2 j x hx
  · have hjl := (List.getElem?_eq_some_iff.1 hx).1
    simp at hjl
    obtain rfl : j = xs.length := by omega
    simp at hx
    subst hx
    have e : ((((cs.drop 0).take (xs.length * d.es)) ++ ys).drop (xs.length * d.es)).take d.es = ys := by
      have e1 := List.drop_left (l₁ := (cs.drop 0).take (xs.length * d.es)) (l₂ := ys)
      rw [ht] at e1
      rw [e1, List.take_of_length_le (by omega)]
    rw [e]
    exact hy
theorem Cl.one {y : α} {ys : List Value} (hy : d.R X A y ys) : Cl d X A [y] ys := by
  have hl := d.len hy
  refine ⟨by simp [hl], fun j x hx => ?_⟩
  cases j with
  | zero => cases hx; rw [Nat.zero_mul, List.drop_zero, List.take_of_length_le (by omega)]; exact hy
  | succ j => simp at hx
/-- An element is left out, those behind it come one place nearer; what stands behind them does not count. -/
theorem Cl.erase {i : Nat} {cs' : List Value} (h : Cl d X A xs cs) (hi : i < xs.length) (hl : (xs.length - 1) * d.es ≤ cs'.length) (h1 : ∀ j, j < i → (cs'.drop (j * d.es)).take d.es = (cs.drop (j * d.es)).take d.es) (h2 : ∀ j, i ≤ j → j + 1 < xs.length → (cs'.drop (j * d.es)).take d.es = (cs.drop ((j + 1) * d.es)).take d.es) : Cl d X A (xs.eraseIdx i) cs' := by
  have hle : (xs.eraseIdx i).length = xs.length - 1 := by rw [List.length_eraseIdx, if_pos hi]
  refine ⟨by rw [hle]; exact hl, fun j x hx => ?_⟩
  have hj := (List.getElem?_eq_some_iff.1 hx).1
  rw [hle] at hj
  rw [List.getElem?_eraseIdx] at hx
  split at hx
  · rename_i hlt
    rw [h1 j hlt]
    exact h.2 j x hx
  · rename_i hge
    rw [h2 j (by omega) (by omega)]
    exact h.2 (j + 1) x hx
end
abbrev KB : Kn Bool := Kn.bool
abbrev K_Purse : Kn T_Purse := Kn.pair KI (Kn.pair K_Int64S K_Int64S)
abbrev K_Seat : Kn T_Seat := Kn.pair K_Purse (Kn.pair K_Purse KI)
abbrev K_Packet : Kn T_Packet := Kn.pair KB (Kn.pair KI (Kn.pair KI (Kn.pair K_Int64S K_Int64S)))
section
variable {S X : Ids} {A : AH} {cs : List Value}
theorem KB_of {x : Bool} {cs : List Value} (h : KB.R S A x cs) : cs = [.bool x] := h
theorem split_Purse {x : T_Purse} (h : K_Purse.R S A x cs) : ∃ a1 c1 a2 c2, cs = [.int .i64 x.1, .slice a1 x.2.1.length c1, .slice a2 x.2.2.length c2] ∧ KI.Sl S A (.slice a1 x.2.1.length c1) x.2.1 ∧ KI.Sl S A (.slice a2 x.2.2.length c2) x.2.2 := by
  obtain ⟨e0, d0, rfl, h0, e1, d1, rfl, h1, h2⟩ := h
  obtain rfl := KI_of h0
  obtain ⟨a1, c1, rfl⟩ := slform h1
  obtain ⟨a2, c2, rfl⟩ := slform h2
  exact ⟨a1, c1, a2, c2, rfl, sl1 h1, sl1 h2⟩
theorem mk_Purse {x : T_Purse} {a1 c1 a2 c2} (h1 : KI.Sl S A (.slice a1 x.2.1.length c1) x.2.1) (h2 : KI.Sl S A (.slice a2 x.2.2.length c2) x.2.2) : K_Purse.R S A x [.int .i64 x.1, .slice a1 x.2.1.length c1, .slice a2 x.2.2.length c2] :=
  ⟨[_], [_, _], rfl, rfl, [_], [_], rfl, sl1' h1, sl1' h2⟩
theorem split_Packet {x : T_Packet} (h : K_Packet.R S A x cs) : ∃ a1 c1 a2 c2, cs = [.bool x.1, .int .i64 x.2.1, .int .i64 x.2.2.1, .slice a1 x.2.2.2.1.length c1, .slice a2 x.2.2.2.2.length c2] ∧ KI.Sl S A (.slice a1 x.2.2.2.1.length c1) x.2.2.2.1 ∧ KI.Sl S A (.slice a2 x.2.2.2.2.length c2) x.2.2.2.2 := by
  obtain ⟨e0, d0, rfl, h0, e1, d1, rfl, h1, e2, d2, rfl, h2, e3, d3, rfl, h3, h4⟩ := h
  obtain rfl := KB_of h0
  obtain rfl := KI_of h1
  obtain rfl := KI_of h2
  obtain ⟨a1, c1, rfl⟩ := slform h3
  obtain ⟨a2, c2, rfl⟩ := slform h4
  exact ⟨a1, c1, a2, c2, rfl, sl1 h3, sl1 h4⟩
theorem mk_Packet {x : T_Packet} {a1 c1 a2 c2} (h1 : KI.Sl S A (.slice a1 x.2.2.2.1.length c1) x.2.2.2.1) (h2 : KI.Sl S A (.slice a2 x.2.2.2.2.length c2) x.2.2.2.2) : K_Packet.R S A x [.bool x.1, .int .i64 x.2.1, .int .i64 x.2.2.1, .slice a1 x.2.2.2.1.length c1, .slice a2 x.2.2.2.2.length c2] :=
  ⟨[_], [_, _, _, _], rfl, rfl, [_], [_, _, _], rfl, rfl, [_], [_, _], rfl, rfl, [_], [_], rfl, sl1' h1, sl1' h2⟩
theorem split_Seat {x : T_Seat} (h : K_Seat.R S A x cs) : ∃ ps qs, cs = ps ++ (qs ++ [.int .i64 x.2.2]) ∧ K_Purse.R S A x.1 ps ∧ K_Purse.R S A x.2.1 qs := by
  obtain ⟨e0, d0, rfl, h0, e1, d1, rfl, h1, h2⟩ := h
  obtain rfl := KI_of h2
  exact ⟨e0, e1, rfl, h0, h1⟩
theorem mk_Seat {x : T_Seat} {ps qs : List Value} (h0 : K_Purse.R S A x.1 ps) (h1 : K_Purse.R S A x.2.1 qs) : K_Seat.R S A x (ps ++ (qs ++ [.int .i64 x.2.2])) := ⟨ps, _, rfl, h0, qs, _, rfl, h1, rfl⟩
end
/-- The types of a hall's blocks. -/
structure HT where
  h : TypeId
  s : TypeId
  g : TypeId
  b : TypeId
  p : TypeId
/-- Where a hall's blocks lie; the wire's, with its room, if there is one. -/
structure HD where
  hid : Nat
  sid : Nat
  gid : Nat
  bid : Nat
  nid : Nat
  w : Option (Nat × Nat)
def HD.L (d : HD) : List Nat := [d.hid, d.sid, d.gid, d.bid, d.nid] ++ (match d.w with | some (i, _) => [i] | none => [])
def HD.W (d : HD) : Ids := fun id => id ∈ d.L
def HD.wv (d : HD) (n : Nat) : Value := match d.w with | some (i, c) => .slice (some ⟨i, 0, some 5⟩) n c | none => .slice none 0 0
/-- The hall's cells. -/
def HD.cells (d : HD) (pre post : List Value) (c : Cer) : List Value :=
  pre ++ ([.int .i64 c.ep, .slice (some ⟨d.sid, 0, some 7⟩) c.seats.length c.seats.length, .int .i64 c.oe, .slice (some ⟨d.gid, 0, some 1⟩) c.got.length c.got.length, .slice (some ⟨d.bid, 0, some 1⟩) c.has.length c.has.length, .slice (some ⟨d.nid, 0, some 1⟩) c.named.length c.named.length, d.wv c.wire.length] ++ post)
def SeatsB (t : HT) (S : Ids) (A : AH) (X : Ids) (id : Nat) (xs : List T_Seat) : Prop := S id ∧ ∃ cs, A.m id = some ⟨t.s, true, cs⟩ ∧ Cl K_Seat X A xs cs
def GotB (t : HT) (S : Ids) (A : AH) (X : Ids) (id : Nat) (xs : List (List Int)) : Prop := S id ∧ ∃ cs, A.m id = some ⟨t.g, true, cs⟩ ∧ cs.length = xs.length ∧ Cl KI.sl X A xs cs
def BoolB (t : HT) (S : Ids) (A : AH) (id : Nat) (xs : List Bool) : Prop := S id ∧ A.m id = some ⟨t.b, true, xs.map Value.bool⟩
def WireB (t : HT) (S : Ids) (A : AH) (X : Ids) : Option (Nat × Nat) → List T_Packet → Prop
  | none, xs => xs = []
  | some (i, q), xs => S i ∧ xs.length ≤ q ∧ ∃ cs, A.m i = some ⟨t.p, true, cs⟩ ∧ Cl K_Packet X A xs cs
/-- A ceremony stands in memory, its rows in X. -/
structure Hl (t : HT) (pre post : List Value) (S : Ids) (A : AH) (X : Ids) (d : HD) (c : Cer) : Prop where
  sx : ∀ id, X id → S id
  hall : S d.hid ∧ A.m d.hid = some ⟨t.h, true, d.cells pre post c⟩
  seats : SeatsB t S A X d.sid c.seats
  got : GotB t S A X d.gid c.got
  has : BoolB t S A d.bid c.has
  named : BoolB t S A d.nid c.named
  wire : WireB t S A X d.w c.wire
  dist : d.L.Nodup
  out : ∀ id, X id → ¬ d.W id
section
variable {t : HT} {S S' X X' : Ids} {A A' : AH} {i : Nat}
theorem SeatsB.mv {xs : List T_Seat} (h : SeatsB t S A X i xs) (hi : S' i ∧ A'.m i = A.m i) (hX : ∀ id, X id → A'.m id = A.m id) (hXX : ∀ id, X id → X' id) : SeatsB t S' A' X' i xs := by
  obtain ⟨_, cs, s1, s2⟩ := h
  exact ⟨hi.1, cs, hi.2.trans s1, s2.mv hX hXX⟩
theorem GotB.mv {xs : List (List Int)} (h : GotB t S A X i xs) (hi : S' i ∧ A'.m i = A.m i) (hX : ∀ id, X id → A'.m id = A.m id) (hXX : ∀ id, X id → X' id) : GotB t S' A' X' i xs := by
  obtain ⟨_, cs, s1, s2, s3⟩ := h
  exact ⟨hi.1, cs, hi.2.trans s1, s2, s3.mv hX hXX⟩
theorem BoolB.mv {xs : List Bool} (h : BoolB t S A i xs) (hi : S' i ∧ A'.m i = A.m i) : BoolB t S' A' i xs := ⟨hi.1, hi.2.trans h.2⟩
theorem WireB.mv {w : Option (Nat × Nat)} {xs : List T_Packet} (h : WireB t S A X w xs) (hi : ∀ i q, w = some (i, q) → S' i ∧ A'.m i = A.m i) (hX : ∀ id, X id → A'.m id = A.m id) (hXX : ∀ id, X id → X' id) : WireB t S' A' X' w xs := by
  match w, h with
  | none, h => exact h
  | some (i, q), h =>
    obtain ⟨_, w1, cs, w2, w3⟩ := h
    exact ⟨(hi i q rfl).1, w1, cs, (hi i q rfl).2.trans w2, w3.mv hX hXX⟩
end
section
variable {t : HT} {pre post : List Value} {S S' X X' : Ids} {A A' : AH} {d : HD} {c : Cer}
theorem HD.Win {d : HD} : d.W d.hid ∧ d.W d.sid ∧ d.W d.gid ∧ d.W d.bid ∧ d.W d.nid ∧ ∀ i q, d.w = some (i, q) → d.W i := by
  refine ⟨by simp [HD.W, HD.L], by simp [HD.W, HD.L], by simp [HD.W, HD.L], by simp [HD.W, HD.L], by simp [HD.W, HD.L], fun i q e => by simp [HD.W, HD.L, e]⟩
/-- What S and A speak of goes over. -/
theorem Hl.mv (h : Hl t pre post S A X d c) (hA : ∀ id, (d.W id ∨ X id) → S' id ∧ A'.m id = A.m id) : Hl t pre post S' A' X d c := by
  obtain ⟨l1, l2, l3, l4, l5, l6⟩ := HD.Win (d := d)
  have L : ∀ id, d.W id → S' id ∧ A'.m id = A.m id := fun id hid => hA id (.inl hid)
  have hX : ∀ id, X id → A'.m id = A.m id := fun id hid => (hA id (.inr hid)).2
  exact ⟨fun id hid => (hA id (.inr hid)).1, ⟨(L _ l1).1, (L _ l1).2.trans h.hall.2⟩, h.seats.mv (L _ l2) hX (fun _ p => p), h.got.mv (L _ l3) hX (fun _ p => p), h.has.mv (L _ l4), h.named.mv (L _ l5), h.wire.mv (fun i q e => L _ (l6 i q e)) hX (fun _ p => p), h.dist, h.out⟩
theorem Hl.w (h : Hl t pre post S A X d c) : ∀ id, d.W id → S id := fun id hid => by
  have hw := h.wire
  have hid : id ∈ d.L := hid
  simp only [HD.L, List.mem_append, List.mem_cons, List.not_mem_nil, or_false] at hid
  rcases hid with (e | e | e | e | e) | e
  · rw [e]; exact h.hall.1
  · rw [e]; exact h.seats.1
  · rw [e]; exact h.got.1
  · rw [e]; exact h.has.1
  · rw [e]; exact h.named.1
  · split at e
    · rename_i i q e2
      rw [e2] at hw
      rw [List.mem_singleton.1 e]
      exact hw.1
    · simp at e
theorem Hl.on [o : On S A S' A'] (h : Hl t pre post S A X d c) : Hl t pre post S' A' X d c := h.mv fun id hid => o.st id (hid.elim (h.w id) (h.sx id))
theorem Hl.cellsH (h : Hl t pre post S A X d c) : Has3 S A d.hid 0 (d.cells pre post c) := ⟨h.hall.1, _, h.hall.2, fun i v hi => by rw [Nat.zero_add]; exact hi⟩
end
/-- What a writer of a hall leaves: the hall at a later state; what is in it stood there or is new. -/
def HlPost (t : HT) (pre post : List Value) (X : Ids) (d : HD) (c : Cer) (n : Nat) (H1 : AH) : Prop :=
  ∃ (X' : Ids) (d' : HD), Hl t pre post (fun id => d.W id ∨ X id ∨ New n H1.n id) H1 X' d' c ∧ d'.hid = d.hid ∧ (∀ id, X' id → X id ∨ New n H1.n id) ∧ (∀ id, d'.W id → d.W id ∨ New n H1.n id)
end Go.Proofs.YtijmkfnmdhpakaaGreat.Am
