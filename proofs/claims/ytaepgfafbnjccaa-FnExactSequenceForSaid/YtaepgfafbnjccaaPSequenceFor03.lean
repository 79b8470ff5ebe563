/- Contracts and laws on abstract memory, merged. Each holds under its own conditions. -/
import Derived.Test.YtaepgfafbnjccaaPSequenceFor02
/- Contracts: rows held, products, shares, values and tags, of the program and of the reference. Each holds under its own conditions. -/
set_option linter.unusedVariables false
set_option maxRecDepth 20000
namespace Go.Proofs.Ytaepgfafbnjccaa.Am
open Go Go.RowKit Go.Proofs
/-- The places below n of which q tells true. -/
def rowsP (q : Nat → Bool) (n : Nat) : List Int := ((List.range n).filter q).map fun (i : Nat) => (i : Int)
theorem rowsP_next (q : Nat → Bool) (n : Nat) : rowsP q (n + 1) = if q n = true then rowsP q n ++ [(n : Int)] else rowsP q n := by
  unfold rowsP
  rw [List.range_succ, List.filter_append, List.map_append]
  by_cases hc : q n = true
  · simp [hc]
  · have hc : q n = false := by simpa using hc
    simp [hc]
theorem rowsP_len (q : Nat → Bool) (n : Nat) : (rowsP q n).length ≤ n := by
  unfold rowsP
  rw [List.length_map]
  exact Nat.le_trans (List.length_filter_le _ _) (by simp)
theorem rowsP_mem {q : Nat → Bool} {n : Nat} {x : Int} (hx : x ∈ rowsP q n) : 0 ≤ x ∧ x < n := by
  unfold rowsP at hx
  obtain ⟨i, hi, rfl⟩ := List.mem_map.1 hx
  have := List.mem_range.1 (List.mem_filter.1 hi).1
  omega
theorem rowsP_congr {q q' : Nat → Bool} {n : Nat} (h : ∀ i, i < n → q i = q' i) : rowsP q n = rowsP q' n := by
  unfold rowsP
  congr 1
  exact List.filter_congr fun i hi => h i (List.mem_range.1 hi)
abbrev rowsOf (ow : List Int) (h : Int) : List Int := rowsP (fun i => decide (ow.getD i 0 = h)) ow.length
/-- Sums of products. -/
def dotN (a b : List Int) : Nat → Int
  | 0 => 0
  | n + 1 => dotN a b n + a.getD n 0 * b.getD n 0
def dotS (p : Int) (a b : List Int) : Int := dotN a b a.length % p
theorem elem_at {p : Int} {a : List Int} (h : Elems p a) (hp : 2 ≤ p) (i : Nat) : 0 ≤ a.getD i 0 ∧ a.getD i 0 ≤ p - 1 := by
  rcases Nat.lt_or_ge i a.length with hi | hi
  · rw [List.getD_eq_getElem?_getD, List.getElem?_eq_getElem hi]
    exact h _ (List.getElem_mem hi)
  · rw [List.getD_eq_getElem?_getD, List.getElem?_eq_none hi]
    show 0 ≤ (0 : Int) ∧ (0 : Int) ≤ p - 1
    omega
theorem mul_small {p x y : Int} (hp : p ≤ 31) (hx : 0 ≤ x ∧ x ≤ p - 1) (hy : 0 ≤ y ∧ y ≤ p - 1) : 0 ≤ x * y ∧ x * y ≤ 900 := by
  refine ⟨Int.mul_nonneg hx.1 hy.1, ?_⟩
  have h1 : x * y ≤ 30 * 30 := Int.mul_le_mul (by omega) (by omega) hy.1 (by omega)
  omega
theorem dotN_in {p : Int} {a b : List Int} (hp : PrimeP p) (ha : Elems p a) (hb : Elems p b) : ∀ n, 0 ≤ dotN a b n ∧ dotN a b n ≤ 900 * n
  | 0 => by simp [dotN]
  | n + 1 => by
    have h1 := dotN_in hp ha hb n
    have h2 := mul_small hp.2.1 (elem_at ha hp.1 n) (elem_at hb hp.1 n)
    simp only [dotN]
    omega
def shares (p : Int) (rows : List (List Int)) (all : List Int) : List Int := rows.map fun r => dotS p r all
theorem map_take_succ {α β : Type} (f : α → β) {xs : List α} {i : Nat} {x : α} (h : xs[i]? = some x) : (xs.take (i + 1)).map f = (xs.take i).map f ++ [f x] := by
  obtain ⟨hi, rfl⟩ := List.getElem?_eq_some_iff.1 h
  rw [List.take_succ_eq_append_getElem hi, List.map_append]; rfl
section
variable {S : Ids} {H0 : AH}
theorem dot (p : Int) (hp : PrimeP p) {a1 c1 a2 c2} {a b : List Int} (hl : a.length = b.length) (h12 : a.length ≤ 1048576) (ea : Elems p a) (eb : Elems p b) (ha : KI.Sl S H0 (.slice a1 a.length c1) a) (hb : KI.Sl S H0 (.slice a2 b.length c2) b) :
    Spec Try.prog S H0 160 [.int .i64 p, .slice a1 a.length c1, .slice a2 b.length c2] (fun v => v = .int .i64 (dotS p a b)) := by
  refine Spec.of1 Try.func160 rfl (by kernel_rfl) rfl (fun H _ => ?_)
  refine KW.lp rfl rfl (fun i : Nat => [(0, .int .i64 p), (2, .slice a2 b.length c2), (7, .int .i64 (dotN a b i)), (10, .slice a1 a.length c1), (11, .int .i64 a.length), (12, .int .i64 i)]) (fun i => i ≤ a.length) (fun i => a.length - i) (0) (by omega) ⟨rfl, rfl, rfl, rfl, rfl, rfl, trivial⟩ (fun i hi bE n => ?_)
  refine KW.cnd rfl rfl (fun h => ?_) (fun h => ?_)
  · refine KW.getI ha.up rfl rfl rfl rfl rfl rfl rfl rfl rfl rfl rfl rfl rfl rfl rfl rfl (by omega) (h) (fun x hx => ?_)
    refine KW.getI hb.up rfl rfl rfl rfl rfl rfl rfl rfl rfl rfl rfl rfl rfl rfl rfl rfl (by omega) (by omega) (fun y hy => ?_)
    have hx : a.getD i 0 = x := getD_of hx
    have hy : b.getD i 0 = y := getD_of hy
    have h1 := dotN_in hp ea eb i
    have h2 := mul_small hp.2.1 (elem_at ea hp.1 i) (elem_at eb hp.1 i)
    have e : dotN a b (i + 1) = dotN a b i + a.getD i 0 * b.getD i 0 := rfl
    rw [hx, hy] at h2 e
    have e2 : Value.int .i64 (IntKind.i64.wrap (dotN a b i + IntKind.i64.wrap (x * y))) = .int .i64 (dotN a b (i + 1)) := by
      rw [wr (x := x * y) (by omega) (by omega), wr (by omega) (by omega), e]
    refine KW.nxt rfl rfl (fun H' g => ⟨i + 1, by omega, by first | omega | (simp only; omega), ⟨rfl, rfl, e2, rfl, rfl, congrArg (Value.int .i64) (inc64 (by omega)), trivial⟩, g⟩)
  · obtain rfl : i = a.length := by omega
    have h1 := dotN_in hp ea eb a.length
    refine KW.rem rfl rfl rfl rfl rfl rfl (h1.1) (by have := hp.1; omega) ?_
    exact KW.ret rfl rfl rfl rfl (rfl)
theorem l03Dot (p : Int) (hp : PrimeP p) {a1 c1 a2 c2} {a b : List Int} (hl : a.length = b.length) (h12 : a.length ≤ 1048576) (ea : Elems p a) (eb : Elems p b) (ha : KI.Sl S H0 (.slice a1 a.length c1) a) (hb : KI.Sl S H0 (.slice a2 b.length c2) b) :
    Spec Try.prog S H0 159 [.int .i64 p, .slice a1 a.length c1, .slice a2 b.length c2] (fun v => v = .int .i64 (dotS p a b)) := by
  refine Spec.of1 Try.func159 rfl (by kernel_rfl) rfl (fun H _ => ?_)
  refine KW.lp rfl rfl (fun i : Nat => [(0, .int .i64 p), (1, .slice a1 a.length c1), (2, .slice a2 b.length c2), (7, .int .i64 (dotN a b i)), (8, .int .i64 i)]) (fun i => i ≤ a.length) (fun i => a.length - i) (0) (by omega) ⟨rfl, rfl, rfl, rfl, rfl, trivial⟩ (fun i hi bE n => ?_)
  refine KW.cnd rfl rfl (fun h => ?_) (fun h => ?_)
  · refine KW.getI ha.up rfl rfl rfl rfl rfl rfl rfl rfl rfl rfl rfl rfl rfl rfl rfl rfl (by omega) (h) (fun x hx => ?_)
    refine KW.getI hb.up rfl rfl rfl rfl rfl rfl rfl rfl rfl rfl rfl rfl rfl rfl rfl rfl (by omega) (by omega) (fun y hy => ?_)
    have hx : a.getD i 0 = x := getD_of hx
    have hy : b.getD i 0 = y := getD_of hy
    have h1 := dotN_in hp ea eb i
    have h2 := mul_small hp.2.1 (elem_at ea hp.1 i) (elem_at eb hp.1 i)
    have e : dotN a b (i + 1) = dotN a b i + a.getD i 0 * b.getD i 0 := rfl
    rw [hx, hy] at h2 e
    have e2 : Value.int .i64 (IntKind.i64.wrap (dotN a b i + IntKind.i64.wrap (x * y))) = .int .i64 (dotN a b (i + 1)) := by
      rw [wr (x := x * y) (by omega) (by omega), wr (by omega) (by omega), e]
    refine KW.nxt rfl rfl (fun H' g => ⟨i + 1, by omega, by first | omega | (simp only; omega), ⟨rfl, rfl, rfl, e2, congrArg (Value.int .i64) (inc64 (by omega)), trivial⟩, g⟩)
  · obtain rfl : i = a.length := by omega
    have h1 := dotN_in hp ea eb a.length
    refine KW.rem rfl rfl rfl rfl rfl rfl (h1.1) (by have := hp.1; omega) ?_
    exact KW.ret rfl rfl rfl rfl (rfl)
/-- What a maker of a list of numbers yields. -/
def MkL (xs : List Int) (n : Nat) (v : Value) (H1 : AH) : Prop := ∃ a c, v = .slice a xs.length c ∧ KI.Ml (New n H1.n) H1 (.slice a xs.length c) xs
theorem MkL.of {S0 : Ids} {H0 H1 : AH} {T : List Var} {n j id n0 : Nat} {ty : TypeId} {xs : List Int} (g : Good S0 H0 T n H1) (hj : T[j]? = some (id, ⟨ty, true, xs.map (Value.int .i64)⟩)) (hn : n0 ≤ id) : MkL xs n0 (.slice (some ⟨id, 0, some 1⟩) xs.length xs.length) H1 :=
  ⟨_, _, rfl, int_ml ⟨hn, (g.blk hj).2⟩ (g.blk hj).1 rfl rfl (Nat.le_refl _)⟩
theorem rowsHeld (h p c : Int) (x : Nat) (hx : x < 4611686018427387904) {a1 c1} {v2 : Option Addr} {n2 c2 : Nat} {ow : List Int} (hO : B_Int64S ow) (hown : ∀ x ∈ ow, 0 ≤ x ∧ x ≤ h - 1) (hh : h ≤ 7) (ho : KI.Sl S H0 (.slice a1 ow.length c1) ow) :
    SpecM Try.prog S H0 83 [.agg #[.int .i64 h, .slice a1 ow.length c1, .int .i64 p, .int .i64 c, .slice v2 n2 c2], .int .u64 (x : Int)] (MkL (rowsP (fun i => x.testBit (ow.getD i 0).toNat) ow.length)) := by
  refine SpecM.of1 Try.func83 rfl (by kernel_rfl) rfl (fun H _ => ?_)
  have hO' : ow.length ≤ 1048576 := hO
  refine KW.lit rfl rfl rfl rfl rfl rfl rfl rfl rfl rfl [] rfl rfl (fun v hv => by simp at hv) rfl ?_
  refine KW.lpM rfl rfl (fun s : Nat × Nat => [(1, .int .u64 (x : Int)), (5, .slice (some ⟨s.2, 0, some 1⟩) (rowsP (fun i => x.testBit (ow.getD i 0).toNat) s.1).length (rowsP (fun i => x.testBit (ow.getD i 0).toNat) s.1).length), (10, .slice a1 ow.length c1), (11, .int .i64 ow.length), (12, .int .i64 s.1)]) (fun s => Low H.n) (fun s => H) (fun s => [(H.n, ⟨_, true, _⟩), (s.2, ⟨_, true, (rowsP (fun i => x.testBit (ow.getD i 0).toNat) s.1).map (Value.int .i64)⟩)]) (fun s => s.1 ≤ ow.length) (fun s => ow.length - s.1) ((0, H.n + 1)) (by simp) ⟨rfl, rfl, rfl, rfl, rfl, trivial⟩ rfl rfl rfl (fun s hi bE n => ?_)
  obtain ⟨q, o⟩ := s
  simp only at hi
  have hq : (rowsP (fun i => x.testBit (ow.getD i 0).toNat) q).length ≤ q := rowsP_len _ q
  refine KW.cnd rfl rfl (fun k1 => ?_) (fun k1 => ?_)
  · refine KW.getI ho.up rfl rfl rfl rfl rfl rfl rfl rfl rfl rfl rfl rfl rfl rfl rfl rfl (by omega) (k1) (fun y hy => ?_)
    have hy' : ow[q]? = some y := hy
    have hyb := hown y (List.mem_of_getElem? hy')
    obtain ⟨z, rfl⟩ : ∃ z : Nat, y = z := ⟨y.toNat, by omega⟩
    have hyd : ow.getD q 0 = z := getD_of hy'
    have e := rowsP_next (fun i => x.testBit (ow.getD i 0).toNat) q
    simp only [hyd, Int.toNat_natCast] at e
    refine KW.callE rfl rfl rfl rfl rfl (has (x := x) (h := z) hx (by omega)) (fun _ _ => ?_)
    refine KW.cndB rfl rfl (fun k2 => ?_) (fun k2 => ?_)
    · rw [if_pos k2] at e
      refine KW.app1 (xs := (rowsP (fun i => x.testBit (ow.getD i 0).toNat) q).map (Value.int .i64)) (v := .int .i64 q) 1 2 rfl rfl rfl rfl rfl rfl rfl rfl rfl rfl rfl rfl rfl rfl rfl rfl rfl rfl rfl rfl rfl rfl rfl (by simp) (by show (_ + 1) * 8 ≤ _; first | omega | (simp only; omega)) (by first | omega | (simp only; omega)) ?_
      refine KW.nxt rfl rfl (fun H' g => ⟨(q + 1, _), by simp only; omega, by first | omega | (simp only; omega), ⟨rfl, by simp only [e, List.length_append, List.length_singleton]; rfl, rfl, rfl, congrArg (Value.int .i64) (inc64 (by omega)), trivial⟩, g.eqT (by simp only [e, List.map_append]; rfl)⟩)
    · rw [if_neg (by rw [k2]; decide)] at e
      refine KW.nxt rfl rfl (fun H' g => ⟨(q + 1, o), by simp only; omega, by first | omega | (simp only; omega), ⟨rfl, by simp only [e]; rfl, rfl, rfl, congrArg (Value.int .i64) (inc64 (by omega)), trivial⟩, g.eqT (by simp only [e])⟩)
  · obtain rfl : q = ow.length := by simp only at k1; omega
    refine KW.retM1 rfl rfl rfl rfl (fun H1 g => MkL.of g (j := 1) rfl (g.ge (H1 := H) (j := 1) rfl))
theorem l00Has (n0 : Int) {a c} {xs : List Int} (hl : xs.length ≤ 1048576) (hs : KI.Sl S H0 (.slice a xs.length c) xs) : Spec Try.prog S H0 138 [.slice a xs.length c, .int .i64 n0] (fun v => v = .bool (decide (n0 ∈ xs))) := by
  refine Spec.of1 Try.func138 rfl (by kernel_rfl) rfl (fun H _ => ?_)
  refine KW.lp rfl rfl (fun i : Nat => [(0, .slice a xs.length c), (1, .int .i64 n0), (5, .int .i64 i)]) (fun i => i ≤ xs.length ∧ ∀ j, j < i → ∀ x, xs[j]? = some x → x ≠ n0) (fun i => xs.length - i) (0) (⟨by omega, fun j h => absurd h (by omega)⟩) ⟨rfl, rfl, rfl, trivial⟩ (fun i hi bE n => ?_)
  obtain ⟨hi, hj⟩ := hi
  refine KW.cnd rfl rfl (fun k1 => ?_) (fun k1 => ?_)
  · refine KW.getI hs.up rfl rfl rfl rfl rfl rfl rfl rfl rfl rfl rfl rfl rfl rfl rfl rfl (by omega) (k1) (fun y hy => ?_)
    have hy : xs[i]? = some y := hy
    refine KW.cndB rfl rfl (fun k2 => ?_) (fun k2 => ?_)
    · have k2 : y = n0 := by simpa using k2
      exact KW.ret rfl rfl rfl rfl (by rw [← k2, decide_eq_true (List.mem_of_getElem? hy)]; rfl)
    · have k2 : y ≠ n0 := by simpa using k2
      refine KW.nxt rfl rfl (fun H' g => ⟨i + 1, ⟨by omega, upto hj (fun z hz => by rw [hy] at hz; cases hz; exact k2)⟩, by first | omega | (simp only; omega), ⟨rfl, rfl, congrArg (Value.int .i64) (inc64 (by omega)), trivial⟩, g⟩)
  · exact KW.ret rfl rfl rfl rfl (by rw [decide_eq_false (fun hm => all_of (fun j hjl => hj j (by omega)) n0 hm rfl)]; rfl)
theorem l04Held (h p c : Int) {id k : Nat} {a1 c1 a c2} {ow g0 : List Int} {v2 : Value} (hO : B_Int64S ow) (hG : g0.length ≤ 1048576) (hv : Has3 S H0 id k [.int .i64 h, .slice a1 ow.length c1, .int .i64 p, .int .i64 c, v2]) (ho : KI.Sl S H0 (.slice a1 ow.length c1) ow) (hg : KI.Sl S H0 (.slice a g0.length c2) g0) :
    SpecM Try.prog S H0 78 [.pointer (some ⟨id, k, none⟩), .slice a g0.length c2] (MkL (rowsP (fun i => decide (ow.getD i 0 ∈ g0)) ow.length)) := by
  refine SpecM.of1 Try.func78 rfl (by kernel_rfl) rfl (fun H _ => ?_)
  have hO' : ow.length ≤ 1048576 := hO
  have hv := hv.up (S' := Low H.n) (H' := H)
  refine KW.lit rfl rfl rfl rfl rfl rfl rfl rfl rfl rfl [] rfl rfl (fun v hv => by simp at hv) rfl ?_
  refine KW.lpM rfl rfl (fun s : Nat × Nat => [(0, .pointer (some ⟨id, k, none⟩)), (1, .slice a g0.length c2), (5, .slice (some ⟨s.2, 0, some 1⟩) (rowsP (fun i => decide (ow.getD i 0 ∈ g0)) s.1).length (rowsP (fun i => decide (ow.getD i 0 ∈ g0)) s.1).length), (6, .int .i64 s.1)]) (fun s => Low H.n) (fun s => H) (fun s => [(s.2, ⟨_, true, (rowsP (fun i => decide (ow.getD i 0 ∈ g0)) s.1).map (Value.int .i64)⟩)]) (fun s => s.1 ≤ ow.length) (fun s => ow.length - s.1) ((0, H.n)) (by simp) ⟨rfl, rfl, rfl, rfl, trivial⟩ rfl rfl rfl (fun s hi bE n => ?_)
  obtain ⟨q, o⟩ := s
  simp only at hi
  have hq : (rowsP (fun i => decide (ow.getD i 0 ∈ g0)) q).length ≤ q := rowsP_len _ q
  refine KW.ldF 1 hv rfl rfl rfl rfl rfl rfl rfl rfl rfl ?_
  refine KW.cnd rfl rfl (fun k1 => ?_) (fun k1 => ?_)
  · refine KW.ldF 1 hv rfl rfl rfl rfl rfl rfl rfl rfl rfl ?_
    refine KW.getI ho.up rfl rfl rfl rfl rfl rfl rfl rfl rfl rfl rfl rfl rfl rfl rfl rfl (by omega) (k1) (fun y hy => ?_)
    have hy' : ow[q]? = some y := hy
    have hyd : ow.getD q 0 = y := getD_of hy'
    have e := rowsP_next (fun i => decide (ow.getD i 0 ∈ g0)) q
    simp only [hyd] at e
    refine KW.callE rfl rfl rfl rfl rfl (l00Has y hG hg.up) (fun _ _ => ?_)
    refine KW.cndB rfl rfl (fun k2 => ?_) (fun k2 => ?_)
    · rw [if_pos k2] at e
      refine KW.app1 (xs := (rowsP (fun i => decide (ow.getD i 0 ∈ g0)) q).map (Value.int .i64)) (v := .int .i64 q) 0 1 rfl rfl rfl rfl rfl rfl rfl rfl rfl rfl rfl rfl rfl rfl rfl rfl rfl rfl rfl rfl rfl rfl rfl (by simp) (by show (_ + 1) * 8 ≤ _; first | omega | (simp only; omega)) (by first | omega | (simp only; omega)) ?_
      refine KW.nxt rfl rfl (fun H' g => ⟨(q + 1, _), by simp only; omega, by first | omega | (simp only; omega), ⟨rfl, rfl, by simp only [e, List.length_append, List.length_singleton]; rfl, congrArg (Value.int .i64) (inc64 (by omega)), trivial⟩, g.eqT (by simp only [e, List.map_append]; rfl)⟩)
    · rw [if_neg (by rw [k2]; decide)] at e
      refine KW.nxt rfl rfl (fun H' g => ⟨(q + 1, o), by simp only; omega, by first | omega | (simp only; omega), ⟨rfl, rfl, by simp only [e]; rfl, congrArg (Value.int .i64) (inc64 (by omega)), trivial⟩, g.eqT (by simp only [e])⟩)
  · obtain rfl : q = ow.length := by simp only at k1; omega
    refine KW.retM1 rfl rfl rfl rfl (fun H1 g => MkL.of g (j := 0) rfl (g.ge (H1 := H) (j := 0) rfl))
end
end Go.Proofs.Ytaepgfafbnjccaa.Am
/- Contracts: shares, values, tags; copies and equality of rows. Each holds under its own conditions. -/
set_option linter.unusedVariables false
set_option maxRecDepth 20000
namespace Go.Proofs.Ytaepgfafbnjccaa.Am
open Go Go.RowKit Go.Proofs
theorem elems_cons {p s : Int} {bl : List Int} (hs : 0 ≤ s ∧ s ≤ p - 1) (hb : Elems p bl) : Elems p (s :: bl) := fun x hx => by
  rcases List.mem_cons.1 hx with rfl | h
  · exact hs
  · exact hb x h
section
variable {S : Ids} {H0 : AH}
theorem sharesOf (h p c s : Int) {a1 c1 a2 c2 a3 c3} {ow bl : List Int} {rows : List (List Int)} (hO : B_Int64S ow) (hB : B_Int64SS rows) (hk : OkSch h ow p c rows) (hs : 0 ≤ s ∧ s ≤ p - 1) (hbl : (bl.length : Int) = c - 1) (hbe : Elems p bl)
    (h1 : KI.Sl S H0 (.slice a1 ow.length c1) ow) (h2 : KI.sl.Sl S H0 (.slice a2 rows.length c2) rows) (h3 : KI.Sl S H0 (.slice a3 bl.length c3) bl) :
    SpecM Try.prog S H0 141 [.agg #[.int .i64 h, .slice a1 ow.length c1, .int .i64 p, .int .i64 c, .slice a2 rows.length c2], .int .i64 s, .slice a3 bl.length c3] (fun n v H1 => ∃ v', v = .tuple #[v', .int .i64 0] ∧ MkL (shares p rows (s :: bl)) n v' H1) := by
  refine SpecM.of1 Try.func141 rfl (by kernel_rfl) rfl (fun H _ => ?_)
  have hp : I64 p := by unfold I64; have := hk.mat.pr.1; have := hk.mat.pr.2.1; omega
  have hc12 := hk.mat.c1
  have hc1 := hk.c1
  have hrl := hk.mat.len
  have ec : IntKind.i64.wrap (c - 1) = c - 1 := wr (by omega) (by omega)
  refine KW.callE rfl rfl rfl rfl rfl (validScheme h p c hp hO hB h1.up h2.up) (fun _ _ => ?_)
  rw [tv_true hk]
  refine KW.cF rfl rfl (by first | (simp; done) | decide) ?_
  refine KW.lit rfl rfl rfl rfl rfl rfl rfl rfl rfl rfl [.int .i64 s] rfl rfl (fun v hv => by simp at hv; subst hv; rfl) rfl ?_
  refine KW.callV1 rfl rfl rfl rfl rfl (fun H1 g _ => areElements p hp (xs := [s]) (by simp) (g.ints (j := 1) rfl rfl (by simp))) (fun _ _ => ?_)
  rw [tv_true (p := PrimeP p ∧ Elems p [s]) ⟨hk.mat.pr, fun x hx => by rw [List.mem_singleton.1 hx]; exact hs⟩]
  refine KW.tF rfl rfl (by first | (simp; done) | decide) ?_
  refine KW.callE rfl rfl rfl rfl rfl (areElements p hp (by omega) h3.up) (fun _ _ => ?_)
  rw [tv_true (p := PrimeP p ∧ Elems p bl) ⟨hk.mat.pr, hbe⟩]
  refine KW.tF rfl rfl (by first | (simp; done) | decide) ?_
  refine KW.cndB rfl rfl (fun k1 => ?_) (fun k1 => ?_)
  · rw [ec, hbl] at k1; simp at k1
  refine KW.lit rfl rfl rfl rfl rfl rfl rfl rfl rfl rfl [.int .i64 s] rfl rfl (fun v hv => by simp at hv; subst hv; rfl) rfl ?_
  refine KW.appV 2 rfl rfl rfl rfl rfl rfl rfl rfl rfl rfl (fun H1 g => acells_I h3.up g) (by simp) (by simp) (fun v hv => by obtain ⟨_, _, rfl⟩ := List.mem_map.1 hv; rfl) (by show (_ + _) * 8 ≤ _; simp only [List.length_cons, List.length_nil]; omega) (by simp only [List.length_cons, List.length_nil]; omega) (show 1 + bl.length = (s :: bl).length from by simp; omega) (fun oa _ _ => ?_)
  refine KW.lit rfl rfl rfl rfl rfl rfl rfl rfl rfl rfl [] rfl rfl (fun v hv => by simp at hv) rfl ?_
  refine KW.fact (p := ¬ oa < H.n) (fun _ g => (g.vars 2 _ rfl).2.2) (fun hoa => ?_)
  refine KW.lpM rfl rfl (fun q : Nat × Nat => [(3, .pointer (some ⟨H.n, 0, some 0⟩)), (8, .slice (some ⟨oa, 0, some 1⟩) (s :: bl).length (s :: bl).length), (9, .slice (some ⟨q.2, 0, some 1⟩) (shares p (rows.take q.1) (s :: bl)).length (shares p (rows.take q.1) (s :: bl)).length), (46, .slice a2 rows.length c2), (47, .int .i64 rows.length), (48, .int .i64 q.1)]) (fun q => Low H.n) (fun q => H) (fun q => [_, _, (oa, ⟨_, true, (s :: bl).map (Value.int .i64)⟩), (q.2, ⟨_, true, (shares p (rows.take q.1) (s :: bl)).map (Value.int .i64)⟩)]) (fun q => q.1 ≤ rows.length) (fun q => rows.length - q.1) ((0, _)) (by simp) ⟨rfl, rfl, rfl, rfl, rfl, rfl, trivial⟩ rfl rfl rfl (fun q hi bE n => ?_)
  obtain ⟨q, o⟩ := q
  simp only at hi
  have hq : (shares p (rows.take q) (s :: bl)).length ≤ q := by unfold shares; rw [List.length_map, List.length_take]; omega
  refine KW.cnd rfl rfl (fun k2 => ?_) (fun k2 => ?_)
  · refine KW.getL h2.up rfl rfl rfl rfl rfl rfl rfl rfl rfl rfl rfl rfl rfl rfl rfl rfl (by omega) (k2) (fun y a' m' hy hsy => ?_)
    have hy : rows[q]? = some y := hy
    have hym := hk.mat.row y (List.mem_of_getElem? hy)
    refine KW.callV1 rfl rfl rfl rfl rfl (fun H1 g _ => dot p hk.mat.pr (by simp; omega) (by omega) hym.2 (elems_cons hs hbe) hsy.up (g.ints (j := 2) rfl rfl (Nat.le_refl _))) (fun _ _ => ?_)
    have e : shares p (rows.take (q + 1)) (s :: bl) = shares p (rows.take q) (s :: bl) ++ [dotS p y (s :: bl)] := map_take_succ _ hy
    refine KW.app1 (xs := (shares p (rows.take q) (s :: bl)).map (Value.int .i64)) (v := .int .i64 (dotS p y (s :: bl))) 3 4 rfl rfl rfl rfl rfl rfl rfl rfl rfl rfl rfl rfl rfl rfl rfl rfl rfl rfl rfl rfl rfl rfl rfl (by simp) (by show (_ + 1) * 8 ≤ _; first | omega | (simp only; omega)) (by first | omega | (simp only; omega)) ?_
    refine KW.nxt rfl rfl (fun H' g => ⟨(q + 1, _), by simp only; omega, by first | omega | (simp only; omega), ⟨rfl, rfl, by simp only [e, List.length_append, List.length_singleton]; rfl, rfl, rfl, congrArg (Value.int .i64) (inc64 (by omega)), trivial⟩, g.eqT (by simp only [e, List.map_append]; rfl)⟩)
  · obtain rfl : q = rows.length := by simp only at k2; omega
    rw [List.take_of_length_le (Nat.le_refl _)]
    refine KW.retM1 rfl rfl rfl rfl (fun H1 g => ⟨_, rfl, MkL.of g (j := 3) rfl (g.ge (H1 := H) (j := 3) rfl)⟩)
theorem l04Shares (h p c s : Int) {id k : Nat} {a1 c1 a2 c2 a3 c3} {ow bl : List Int} {rows : List (List Int)} (hB : B_Int64SS rows) (hk : OkSch h ow p c rows) (hs : 0 ≤ s ∧ s ≤ p - 1) (hbl : (bl.length : Int) = c - 1) (hbe : Elems p bl)
    (hv : Has3 S H0 id k [.int .i64 h, .slice a1 ow.length c1, .int .i64 p, .int .i64 c, .slice a2 rows.length c2]) (h2 : KI.sl.Sl S H0 (.slice a2 rows.length c2) rows) (h3 : KI.Sl S H0 (.slice a3 bl.length c3) bl) :
    SpecM Try.prog S H0 140 [.pointer (some ⟨id, k, none⟩), .int .i64 s, .slice a3 bl.length c3] (MkL (shares p rows (s :: bl))) := by
  refine SpecM.of1 Try.func140 rfl (by kernel_rfl) rfl (fun H _ => ?_)
  have hv := hv.up (S' := Low H.n) (H' := H)
  have hc12 := hk.mat.c1
  have hc1 := hk.c1
  have hrl := hk.mat.len
  refine KW.lit rfl rfl rfl rfl rfl rfl rfl rfl rfl rfl [.int .i64 s] rfl rfl (fun v hv => by simp at hv; subst hv; rfl) rfl ?_
  refine KW.appV 0 rfl rfl rfl rfl rfl rfl rfl rfl rfl rfl (fun H1 g => acells_I h3.up g) (by simp) (by simp) (fun v hv => by obtain ⟨_, _, rfl⟩ := List.mem_map.1 hv; rfl) (by show (_ + _) * 8 ≤ _; simp only [List.length_cons, List.length_nil]; omega) (by simp only [List.length_cons, List.length_nil]; omega) (show 1 + bl.length = (s :: bl).length from by simp; omega) (fun oa _ _ => ?_)
  refine KW.lit rfl rfl rfl rfl rfl rfl rfl rfl rfl rfl [] rfl rfl (fun v hv => by simp at hv) rfl ?_
  refine KW.lpM rfl rfl (fun q : Nat × Nat => [(0, .pointer (some ⟨id, k, none⟩)), (7, .slice (some ⟨oa, 0, some 1⟩) (s :: bl).length (s :: bl).length), (8, .slice (some ⟨q.2, 0, some 1⟩) (shares p (rows.take q.1) (s :: bl)).length (shares p (rows.take q.1) (s :: bl)).length), (9, .int .i64 q.1)]) (fun q => Low H.n) (fun q => H) (fun q => [(oa, ⟨_, true, (s :: bl).map (Value.int .i64)⟩), (q.2, ⟨_, true, (shares p (rows.take q.1) (s :: bl)).map (Value.int .i64)⟩)]) (fun q => q.1 ≤ rows.length) (fun q => rows.length - q.1) ((0, _)) (by simp) ⟨rfl, rfl, rfl, rfl, trivial⟩ rfl rfl rfl (fun q hi bE n => ?_)
  obtain ⟨q, o⟩ := q
  simp only at hi
  have hq : (shares p (rows.take q) (s :: bl)).length ≤ q := by unfold shares; rw [List.length_map, List.length_take]; omega
  refine KW.ldF 4 hv rfl rfl rfl rfl rfl rfl rfl rfl rfl ?_
  refine KW.cnd rfl rfl (fun k2 => ?_) (fun k2 => ?_)
  · refine KW.ldF 2 hv rfl rfl rfl rfl rfl rfl rfl rfl rfl ?_
    refine KW.ldF 4 hv rfl rfl rfl rfl rfl rfl rfl rfl rfl ?_
    refine KW.getL h2.up rfl rfl rfl rfl rfl rfl rfl rfl rfl rfl rfl rfl rfl rfl rfl rfl (by omega) (k2) (fun y a' m' hy hsy => ?_)
    have hy : rows[q]? = some y := hy
    have hym := hk.mat.row y (List.mem_of_getElem? hy)
    refine KW.callV1 rfl rfl rfl rfl rfl (fun H1 g _ => l03Dot p hk.mat.pr (by simp; omega) (by omega) hym.2 (elems_cons hs hbe) hsy.up (g.ints (j := 0) rfl rfl (Nat.le_refl _))) (fun _ _ => ?_)
    have e : shares p (rows.take (q + 1)) (s :: bl) = shares p (rows.take q) (s :: bl) ++ [dotS p y (s :: bl)] := map_take_succ _ hy
    refine KW.app1 (xs := (shares p (rows.take q) (s :: bl)).map (Value.int .i64)) (v := .int .i64 (dotS p y (s :: bl))) 1 2 rfl rfl rfl rfl rfl rfl rfl rfl rfl rfl rfl rfl rfl rfl rfl rfl rfl rfl rfl rfl rfl rfl rfl (by simp) (by show (_ + 1) * 8 ≤ _; first | omega | (simp only; omega)) (by first | omega | (simp only; omega)) ?_
    refine KW.nxt rfl rfl (fun H' g => ⟨(q + 1, _), by simp only; omega, by first | omega | (simp only; omega), ⟨rfl, rfl, by simp only [e, List.length_append, List.length_singleton]; rfl, congrArg (Value.int .i64) (inc64 (by omega)), trivial⟩, g.eqT (by simp only [e, List.map_append]; rfl)⟩)
  · obtain rfl : q = rows.length := by simp only at k2; omega
    rw [List.take_of_length_le (Nat.le_refl _)]
    refine KW.retM1 rfl rfl rfl rfl (fun H1 g => MkL.of g (j := 1) rfl (g.ge (H1 := H) (j := 1) rfl))
end
/-- The shares of the rows of a holder. -/
def valsOf (p : Int) (rows : List (List Int)) (ow : List Int) (s : Int) (bl : List Int) (j : Int) : List Int := (rowsOf ow j).map fun i => (shares p rows (s :: bl)).getD i.toNat 0
theorem rows_bit {ow : List Int} (h : ∀ x ∈ ow, 0 ≤ x) (j : Nat) : rowsP (fun i => (2 ^ j : Nat).testBit (ow.getD i 0).toNat) ow.length = rowsOf ow j := rowsP_congr fun i hi => by
  have h1 : 0 ≤ ow.getD i 0 := by rw [List.getD_eq_getElem?_getD, List.getElem?_eq_getElem hi]; exact h _ (List.getElem_mem hi)
  rw [Nat.testBit_two_pow]
  exact decide_eq_decide.2 ⟨fun h => by omega, fun h => by omega⟩
theorem rows_one (ow : List Int) (j : Int) : rowsP (fun i => decide (ow.getD i 0 ∈ [j])) ow.length = rowsOf ow j := rowsP_congr fun i hi => by simp
theorem dotS_in {p : Int} {a b : List Int} (hp : PrimeP p) : 0 ≤ dotS p a b ∧ dotS p a b ≤ p - 1 := by
  unfold dotS
  have h1 := hp.1
  have := Int.emod_nonneg (dotN a b a.length) (show p ≠ 0 by omega)
  have := Int.emod_lt_of_pos (dotN a b a.length) (show 0 < p by omega)
  omega
theorem shares_in {p : Int} {rows : List (List Int)} {all : List Int} (hp : PrimeP p) : Elems p (shares p rows all) := fun x hx => by
  obtain ⟨r, _, rfl⟩ := List.mem_map.1 hx
  exact dotS_in hp
theorem vals_in {p s j : Int} {rows : List (List Int)} {ow bl : List Int} (hp : PrimeP p) : Elems p (valsOf p rows ow s bl j) := fun x hx => by
  obtain ⟨i, _, rfl⟩ := List.mem_map.1 hx
  exact elem_at (shares_in hp) hp.1 _
theorem vals_len {p s j : Int} {rows : List (List Int)} {ow bl : List Int} : (valsOf p rows ow s bl j).length = (rowsOf ow j).length := by simp [valsOf]
/-- The tags of values for the rows R, by the keys kk. -/
def tagAt (p : Int) (kk : List (List Int)) (R vals : List Int) (k : Nat) : Int := ((kk.getD (R.getD k 0).toNat []).getD 0 0 * vals.getD k 0 + (kk.getD (R.getD k 0).toNat []).getD 1 0) % p
def tagsOf (p : Int) (kk : List (List Int)) (R vals : List Int) : List Int := (List.range R.length).map (tagAt p kk R vals)
theorem range_map_succ {α : Type} (f : Nat → α) (n : Nat) : (List.range (n + 1)).map f = (List.range n).map f ++ [f n] := by rw [List.range_succ, List.map_append]; rfl
section
variable {S : Ids} {H0 : AH}
theorem values (h p c s : Int) (e j : Nat) {a1 c1 a2 c2 a3 c3} {a4 : Option Addr} {n4 c4 : Nat} {ow bl : List Int} {rows bs : List (List Int)} (hO : B_Int64S ow) (hB : B_Int64SS rows) (hk : OkSch h ow p c rows) (hs : 0 ≤ s ∧ s ≤ p - 1) (he : bs[e]? = some bl) (hbl : (bl.length : Int) = c - 1) (hbe : Elems p bl) (hj : j ≤ 6)
    (h1 : KI.Sl S H0 (.slice a1 ow.length c1) ow) (h2 : KI.sl.Sl S H0 (.slice a2 rows.length c2) rows) (h3 : KI.sl.Sl S H0 (.slice a3 bs.length c3) bs) :
    SpecM Try.prog S H0 87 [.agg #[.int .i64 h, .slice a1 ow.length c1, .int .i64 p, .int .i64 c, .slice a2 rows.length c2, .int .i64 s, .slice a3 bs.length c3, .slice a4 n4 c4], .int .i64 e, .int .i64 j] (MkL (valsOf p rows ow s bl j)) := by
  refine SpecM.of1 Try.func87 rfl (by kernel_rfl) rfl (fun H _ => ?_)
  have hrl := hk.mat.len
  have hol := hk.len
  have hel := (List.getElem?_eq_some_iff.1 he).1
  refine KW.getL h3.up rfl rfl rfl rfl rfl rfl rfl rfl rfl rfl rfl rfl rfl rfl rfl rfl (by omega) (by omega) (fun y a' m' hy hsy => ?_)
  have hy : bs[e]? = some y := hy
  rw [he] at hy
  cases hy
  refine KW.callN1 rfl rfl rfl rfl rfl (sharesOf h p c s hO hB hk hs hbl hbe h1.up h2.up hsy) (fun v HA SA mA _ _ hv => ?_)
  obtain ⟨v', rfl, a5, c5, rfl, hA⟩ := hv
  refine KW.lit rfl rfl rfl rfl rfl rfl rfl rfl rfl rfl [] rfl rfl (fun v hv => by simp at hv) rfl ?_
  refine KW.shlU rfl rfl rfl rfl rfl rfl j rfl (by omega) ?_
  have hp := small_pow (m := j) (by omega)
  refine KW.callN1 rfl rfl rfl rfl rfl (rowsHeld h p c (2 ^ j) (by omega) hO hk.own hk.h7 h1.up) (fun v HR SR mR _ _ hv => ?_)
  obtain ⟨a6, c6, rfl, hR⟩ := hv
  rw [rows_bit (fun x hx => (hk.own x hx).1)] at hR ⊢
  have hRl : (rowsOf ow j).length ≤ ow.length := rowsP_len _ _
  have hRm : ∀ x ∈ rowsOf ow j, 0 ≤ x ∧ x < ow.length := fun x hx => rowsP_mem hx
  have hval : valsOf p rows ow s bl j = (rowsOf ow j).map fun i => (shares p rows (s :: bl)).getD i.toNat 0 := rfl
  rw [hval]
  have hsl : (shares p rows (s :: bl)).length = rows.length := by simp [shares]
  obtain ⟨R, hRe⟩ : ∃ R, rowsOf ow j = R := ⟨_, rfl⟩
  rw [hRe] at hR hRl hRm ⊢
  obtain ⟨A, hAe⟩ : ∃ A, shares p rows (s :: bl) = A := ⟨_, rfl⟩
  rw [hAe] at hA hsl ⊢
  refine KW.lpM rfl rfl (fun q : Nat × Nat => [(7, .slice a5 A.length c5), (9, .slice (some ⟨q.2, 0, some 1⟩) ((R.take q.1).map fun i => A.getD i.toNat 0).length ((R.take q.1).map fun i => A.getD i.toNat 0).length), (30, .slice a6 R.length c6), (31, .int .i64 R.length), (32, .int .i64 q.1)]) (fun q => SR) (fun q => HR) (fun q => [_, (q.2, ⟨_, true, ((R.take q.1).map fun i => A.getD i.toNat 0).map (Value.int .i64)⟩)]) (fun q => q.1 ≤ R.length) (fun q => R.length - q.1) ((0, _)) (by simp) ⟨rfl, rfl, rfl, rfl, rfl, trivial⟩ rfl rfl rfl (fun q hi bE n => ?_)
  obtain ⟨q, o⟩ := q
  simp only at hi
  have hq : ((R.take q).map fun i => A.getD i.toNat 0).length ≤ q := by rw [List.length_map, List.length_take]; omega
  refine KW.cnd rfl rfl (fun k2 => ?_) (fun k2 => ?_)
  · refine KW.getI hR.ups rfl rfl rfl rfl rfl rfl rfl rfl rfl rfl rfl rfl rfl rfl rfl rfl (by omega) (k2) (fun x hx => ?_)
    have hx : R[q]? = some x := hx
    have hxm := hRm x (List.mem_of_getElem? hx)
    refine KW.getI hA.ups rfl rfl rfl rfl rfl rfl rfl rfl rfl rfl rfl rfl rfl rfl rfl rfl (by omega) (by omega) (fun y hy => ?_)
    have hy : A.getD x.toNat 0 = y := getD_of hy
    have e1 := map_take_succ (fun i : Int => A.getD i.toNat 0) hx
    rw [hy] at e1
    refine KW.app1 (xs := ((R.take q).map fun i => A.getD i.toNat 0).map (Value.int .i64)) (v := .int .i64 y) 1 2 rfl rfl rfl rfl rfl rfl rfl rfl rfl rfl rfl rfl rfl rfl rfl rfl rfl rfl rfl rfl rfl rfl rfl (by simp) (by show (_ + 1) * 8 ≤ _; first | omega | (simp only; omega)) (by first | omega | (simp only; omega)) ?_
    refine KW.nxt rfl rfl (fun H' g => ⟨(q + 1, _), by simp only; omega, by first | omega | (simp only; omega), ⟨rfl, by simp only [e1, List.length_append, List.length_singleton]; rfl, rfl, rfl, congrArg (Value.int .i64) (inc64 (by omega)), trivial⟩, g.eqT (by simp only [e1, List.map_append]; rfl)⟩)
  · obtain rfl : q = R.length := by simp only at k2; omega
    rw [List.take_of_length_le (Nat.le_refl _)]
    refine KW.retM1 rfl rfl rfl rfl (fun H1 g => MkL.of g (j := 1) rfl (g.ge (H1 := H) (j := 1) rfl))
theorem l08Values (h p c s : Int) (e j : Nat) {id k : Nat} {a1 c1 a2 c2 a3 c3} {v4 : Value} {ow bl : List Int} {rows bs : List (List Int)} (hO : B_Int64S ow) (hB : B_Int64SS rows) (hk : OkSch h ow p c rows) (hs : 0 ≤ s ∧ s ≤ p - 1) (he : bs[e]? = some bl) (hbl : (bl.length : Int) = c - 1) (hbe : Elems p bl)
    (hv : Has3 S H0 id k [.int .i64 h, .slice a1 ow.length c1, .int .i64 p, .int .i64 c, .slice a2 rows.length c2, .int .i64 s, .slice a3 bs.length c3, v4])
    (h1 : KI.Sl S H0 (.slice a1 ow.length c1) ow) (h2 : KI.sl.Sl S H0 (.slice a2 rows.length c2) rows) (h3 : KI.sl.Sl S H0 (.slice a3 bs.length c3) bs) :
    SpecM Try.prog S H0 86 [.pointer (some ⟨id, k, none⟩), .int .i64 e, .int .i64 j] (MkL (valsOf p rows ow s bl j)) := by
  refine SpecM.of1 Try.func86 rfl (by kernel_rfl) rfl (fun H _ => ?_)
  have hv := hv.up (S' := Low H.n) (H' := H)
  have hrl := hk.mat.len
  have hol := hk.len
  have hel := (List.getElem?_eq_some_iff.1 he).1
  refine KW.ldF 5 hv rfl rfl rfl rfl rfl rfl rfl rfl rfl ?_
  refine KW.ldF 6 hv rfl rfl rfl rfl rfl rfl rfl rfl rfl ?_
  refine KW.getL h3.up rfl rfl rfl rfl rfl rfl rfl rfl rfl rfl rfl rfl rfl rfl rfl rfl (by omega) (by omega) (fun y a' m' hy hsy => ?_)
  have hy : bs[e]? = some y := hy
  rw [he] at hy
  cases hy
  refine KW.callN1 rfl rfl rfl rfl rfl (l04Shares h p c s hB hk hs hbl hbe (hv.take (vs := [_, _, _, _, _])) h2.up hsy) (fun v HA SA mA _ _ hv => ?_)
  obtain ⟨a5, c5, rfl, hA⟩ := hv
  refine KW.lit rfl rfl rfl rfl rfl rfl rfl rfl rfl rfl [.int .i64 j] rfl rfl (fun v hv => by simp at hv; subst hv; rfl) rfl ?_
  refine KW.callNV1 rfl rfl rfl rfl rfl (fun H1 g _ => l04Held h p c (g0 := [(j : Int)]) hO (by simp) ((hv.take (vs := [_, _, _, _, _])).up) h1.up (g.ints (j := 0) rfl rfl (by simp))) (fun v HR SR mR _ _ hv => ?_)
  obtain ⟨a6, c6, rfl, hR⟩ := hv
  rw [rows_one] at hR ⊢
  refine KW.lit rfl rfl rfl rfl rfl rfl rfl rfl rfl rfl [] rfl rfl (fun v hv => by simp at hv) rfl ?_
  have hRl : (rowsOf ow j).length ≤ ow.length := rowsP_len _ _
  have hRm : ∀ x ∈ rowsOf ow j, 0 ≤ x ∧ x < ow.length := fun x hx => rowsP_mem hx
  have hval : valsOf p rows ow s bl j = (rowsOf ow j).map fun i => (shares p rows (s :: bl)).getD i.toNat 0 := rfl
  rw [hval]
  have hsl : (shares p rows (s :: bl)).length = rows.length := by simp [shares]
  obtain ⟨R, hRe⟩ : ∃ R, rowsOf ow j = R := ⟨_, rfl⟩
  rw [hRe] at hR hRl hRm ⊢
  obtain ⟨A, hAe⟩ : ∃ A, shares p rows (s :: bl) = A := ⟨_, rfl⟩
  rw [hAe] at hA hsl ⊢
  refine KW.lpM rfl rfl (fun q : Nat × Nat => [(7, .slice a5 A.length c5), (8, .slice a6 R.length c6), (9, .slice (some ⟨q.2, 0, some 1⟩) ((R.take q.1).map fun i => A.getD i.toNat 0).length ((R.take q.1).map fun i => A.getD i.toNat 0).length), (10, .int .i64 q.1)]) (fun q => SR) (fun q => HR) (fun q => [_, (q.2, ⟨_, true, ((R.take q.1).map fun i => A.getD i.toNat 0).map (Value.int .i64)⟩)]) (fun q => q.1 ≤ R.length) (fun q => R.length - q.1) ((0, _)) (by simp) ⟨rfl, rfl, rfl, rfl, trivial⟩ rfl rfl rfl (fun q hi bE n => ?_)
  obtain ⟨q, o⟩ := q
  simp only at hi
  have hq : ((R.take q).map fun i => A.getD i.toNat 0).length ≤ q := by rw [List.length_map, List.length_take]; omega
  refine KW.cnd rfl rfl (fun k2 => ?_) (fun k2 => ?_)
  · refine KW.getI hR.ups rfl rfl rfl rfl rfl rfl rfl rfl rfl rfl rfl rfl rfl rfl rfl rfl (by omega) (k2) (fun x hx => ?_)
    have hx : R[q]? = some x := hx
    have hxm := hRm x (List.mem_of_getElem? hx)
    refine KW.getI hA.ups rfl rfl rfl rfl rfl rfl rfl rfl rfl rfl rfl rfl rfl rfl rfl rfl (by omega) (by omega) (fun y hy => ?_)
    have hy : A.getD x.toNat 0 = y := getD_of hy
    have e1 := map_take_succ (fun i : Int => A.getD i.toNat 0) hx
    rw [hy] at e1
    refine KW.app1 (xs := ((R.take q).map fun i => A.getD i.toNat 0).map (Value.int .i64)) (v := .int .i64 y) 1 2 rfl rfl rfl rfl rfl rfl rfl rfl rfl rfl rfl rfl rfl rfl rfl rfl rfl rfl rfl rfl rfl rfl rfl (by simp) (by show (_ + 1) * 8 ≤ _; first | omega | (simp only; omega)) (by first | omega | (simp only; omega)) ?_
    refine KW.nxt rfl rfl (fun H' g => ⟨(q + 1, _), by simp only; omega, by first | omega | (simp only; omega), ⟨rfl, rfl, by simp only [e1, List.length_append, List.length_singleton]; rfl, congrArg (Value.int .i64) (inc64 (by omega)), trivial⟩, g.eqT (by simp only [e1, List.map_append]; rfl)⟩)
  · obtain rfl : q = R.length := by simp only at k2; omega
    rw [List.take_of_length_le (Nat.le_refl _)]
    refine KW.retM1 rfl rfl rfl rfl (fun H1 g => MkL.of g (j := 1) rfl (g.ge (H1 := H) (j := 1) rfl))
theorem tag_val {p k0 k1 v : Int} (hp : PrimeP p) (h0 : 0 ≤ k0 ∧ k0 ≤ p - 1) (h1 : 0 ≤ k1 ∧ k1 ≤ p - 1) (hv : 0 ≤ v ∧ v ≤ p - 1) : IntKind.i64.wrap (IntKind.i64.wrap (k0 * v) + k1) = k0 * v + k1 ∧ 0 ≤ k0 * v + k1 := by
  have h2 := mul_small hp.2.1 h0 hv
  have h3 := hp.2.1
  rw [wr (x := k0 * v) (by omega) (by omega), wr (by omega) (by omega)]
  exact ⟨rfl, by omega⟩
theorem tags (h p c s : Int) (e j : Nat) {a1 c1 a2 c2 a4 c4 a5 c5} {a3 : Option Addr} {n3 c3 : Nat} {ow vals : List Int} {rows kk : List (List Int)} {ks : List (List (List Int))} (hO : B_Int64S ow) (hBk : B_Int64SSS ks) (hk : OkSch h ow p c rows) (he : ks[e]? = some kk) (hkk : KeysOk p rows.length kk) (hj : j ≤ 6) (hvl : vals.length = (rowsOf ow j).length) (hve : Elems p vals)
    (h1 : KI.Sl S H0 (.slice a1 ow.length c1) ow) (h4 : KI.sl.sl.Sl S H0 (.slice a4 ks.length c4) ks) (h5 : KI.Sl S H0 (.slice a5 vals.length c5) vals) :
    SpecM Try.prog S H0 85 [.agg #[.int .i64 h, .slice a1 ow.length c1, .int .i64 p, .int .i64 c, .slice a2 rows.length c2, .int .i64 s, .slice a3 n3 c3, .slice a4 ks.length c4], .int .i64 e, .int .i64 j, .slice a5 vals.length c5] (MkL (tagsOf p kk (rowsOf ow j) vals)) := by
  refine SpecM.of1 Try.func85 rfl (by kernel_rfl) rfl (fun H _ => ?_)
  have hrl := hk.mat.len
  have hol := hk.len
  have hel := (List.getElem?_eq_some_iff.1 he).1
  have hpr := hk.mat.pr
  refine KW.lit rfl rfl rfl rfl rfl rfl rfl rfl rfl rfl [] rfl rfl (fun v hv => by simp at hv) rfl ?_
  refine KW.shlU rfl rfl rfl rfl rfl rfl j rfl (by omega) ?_
  have hp := small_pow (m := j) (by omega)
  refine KW.callN1 rfl rfl rfl rfl rfl (rowsHeld h p c (2 ^ j) (by omega) hO hk.own hk.h7 h1.up) (fun v HR SR mR _ _ hv => ?_)
  obtain ⟨a6, c6, rfl, hR⟩ := hv
  rw [rows_bit (fun x hx => (hk.own x hx).1)] at hR ⊢
  have hRl : (rowsOf ow j).length ≤ ow.length := rowsP_len _ _
  have hRm : ∀ x ∈ rowsOf ow j, 0 ≤ x ∧ x < ow.length := fun x hx => rowsP_mem hx
  obtain ⟨R, hRe⟩ : ∃ R, rowsOf ow j = R := ⟨_, rfl⟩
  rw [hRe] at hR hRl hRm hvl ⊢
  refine KW.lpM rfl rfl (fun q : Nat × Nat => [(1, .int .i64 e), (3, .slice a5 vals.length c5), (4, .pointer (some ⟨H.n, 0, some 0⟩)), (9, .slice (some ⟨q.2, 0, some 1⟩) ((List.range q.1).map (tagAt p kk R vals)).length ((List.range q.1).map (tagAt p kk R vals)).length), (18, .slice a6 R.length c6), (19, .int .i64 R.length), (20, .int .i64 q.1)]) (fun q => SR) (fun q => HR) (fun q => [(H.n, ⟨37, true, [.int .i64 h, .slice a1 ow.length c1, .int .i64 p, .int .i64 c, .slice a2 rows.length c2, .int .i64 s, .slice a3 n3 c3, .slice a4 ks.length c4]⟩), (q.2, ⟨_, true, ((List.range q.1).map (tagAt p kk R vals)).map (Value.int .i64)⟩)]) (fun q => q.1 ≤ R.length) (fun q => R.length - q.1) ((0, _)) (by simp) ⟨rfl, rfl, rfl, rfl, rfl, rfl, rfl, trivial⟩ rfl rfl rfl (fun q hi bE n => ?_)
  obtain ⟨q, o⟩ := q
  simp only at hi
  have hq : ((List.range q).map (tagAt p kk R vals)).length ≤ q := by simp
  refine KW.cnd rfl rfl (fun k2 => ?_) (fun k2 => ?_)
  · refine KW.getI hR.ups rfl rfl rfl rfl rfl rfl rfl rfl rfl rfl rfl rfl rfl rfl rfl rfl (by omega) (k2) (fun x hx => ?_)
    have hx : R[q]? = some x := hx
    have hxm := hRm x (List.mem_of_getElem? hx)
    refine KW.getL h4.up rfl rfl rfl rfl rfl rfl rfl rfl rfl rfl rfl rfl rfl rfl rfl rfl (by omega) (by omega) (fun kk' b1 d1 hk1 hs1 => ?_)
    have hk1 : ks[e]? = some kk' := hk1
    rw [he] at hk1
    cases hk1
    have hkl := hkk.1
    refine KW.getL hs1 rfl rfl rfl rfl rfl rfl rfl rfl rfl rfl rfl rfl rfl rfl rfl rfl (by omega) (by omega) (fun ky b2 d2 hk2 hs2 => ?_)
    have hk2 : kk[x.toNat]? = some ky := hk2
    have hky := hkk.2 ky (List.mem_of_getElem? hk2)
    have hkyl := hky.1
    refine KW.getI hs2 rfl rfl rfl rfl rfl rfl rfl rfl rfl rfl rfl rfl rfl rfl rfl rfl (by omega) (by omega) (fun k0 hk0 => ?_)
    refine KW.getI h5.up rfl rfl rfl rfl rfl rfl rfl rfl rfl rfl rfl rfl rfl rfl rfl rfl (by omega) (by omega) (fun v hv => ?_)
    refine KW.getI hs2 rfl rfl rfl rfl rfl rfl rfl rfl rfl rfl rfl rfl rfl rfl rfl rfl (by omega) (by omega) (fun k1 hk1' => ?_)
    have ek0 : ky.getD 0 0 = k0 := getD_of hk0
    have ek1 : ky.getD 1 0 = k1 := getD_of hk1'
    have ev : vals.getD q 0 = v := getD_of hv
    have eR : R.getD q 0 = x := getD_of hx
    have ekk : kk.getD x.toNat [] = ky := by rw [List.getD_eq_getElem?_getD, hk2]; rfl
    have et : tagAt p kk R vals q = (k0 * v + k1) % p := by unfold tagAt; rw [eR, ekk, ek0, ek1, ev]
    obtain ⟨ew, e0⟩ := tag_val hpr (ek0 ▸ elem_at hky.2 hpr.1 0) (ek1 ▸ elem_at hky.2 hpr.1 1) (ev ▸ elem_at hve hpr.1 q)
    refine KW.rem rfl rfl rfl rfl rfl rfl (by rw [ew]; exact e0) (by have := hpr.1; omega) ?_
    rw [ew, ← et]
    have e1 := range_map_succ (tagAt p kk R vals) q
    refine KW.app1 (xs := ((List.range q).map (tagAt p kk R vals)).map (Value.int .i64)) (v := .int .i64 (tagAt p kk R vals q)) 1 2 rfl rfl rfl rfl rfl rfl rfl rfl rfl rfl rfl rfl rfl rfl rfl rfl rfl rfl rfl rfl rfl rfl rfl (by simp) (by show (_ + 1) * 8 ≤ _; first | omega | (simp only; omega)) (by first | omega | (simp only; omega)) ?_
    refine KW.nxt rfl rfl (fun H' g => ⟨(q + 1, _), by simp only; omega, by first | omega | (simp only; omega), ⟨rfl, rfl, rfl, by simp only [e1, List.length_append, List.length_singleton]; rfl, rfl, rfl, congrArg (Value.int .i64) (inc64 (by omega)), trivial⟩, g.eqT (by simp only [e1, List.map_append]; rfl)⟩)
  · obtain rfl : q = R.length := by simp only at k2; omega
    refine KW.retM1 rfl rfl rfl rfl (fun H1 g => MkL.of g (j := 1) rfl (g.ge (H1 := H) (j := 1) rfl))
theorem l08Tags (h p c s : Int) (e j : Nat) {id k : Nat} {a1 c1 a4 c4 a5 c5} {v2 v3 : Value} {ow vals : List Int} {rows kk : List (List Int)} {ks : List (List (List Int))} (hO : B_Int64S ow) (hBk : B_Int64SSS ks) (hk : OkSch h ow p c rows) (he : ks[e]? = some kk) (hkk : KeysOk p rows.length kk) (hvl : vals.length = (rowsOf ow j).length) (hve : Elems p vals)
    (hv : Has3 S H0 id k [.int .i64 h, .slice a1 ow.length c1, .int .i64 p, .int .i64 c, v2, .int .i64 s, v3, .slice a4 ks.length c4])
    (h1 : KI.Sl S H0 (.slice a1 ow.length c1) ow) (h4 : KI.sl.sl.Sl S H0 (.slice a4 ks.length c4) ks) (h5 : KI.Sl S H0 (.slice a5 vals.length c5) vals) :
    SpecM Try.prog S H0 81 [.pointer (some ⟨id, k, none⟩), .int .i64 e, .int .i64 j, .slice a5 vals.length c5] (MkL (tagsOf p kk (rowsOf ow j) vals)) := by
  refine SpecM.of1 Try.func81 rfl (by kernel_rfl) rfl (fun H _ => ?_)
  have hv := hv.up (S' := Low H.n) (H' := H)
  have hrl := hk.mat.len
  have hol := hk.len
  have hel := (List.getElem?_eq_some_iff.1 he).1
  have hpr := hk.mat.pr
  refine KW.lit rfl rfl rfl rfl rfl rfl rfl rfl rfl rfl [.int .i64 j] rfl rfl (fun v hv => by simp at hv; subst hv; rfl) rfl ?_
  refine KW.callNV1 rfl rfl rfl rfl rfl (fun H1 g _ => l04Held h p c (g0 := [(j : Int)]) hO (by simp) ((hv.take (vs := [_, _, _, _, _])).up) h1.up (g.ints (j := 0) rfl rfl (by simp))) (fun v HR SR mR _ _ hv => ?_)
  obtain ⟨a6, c6, rfl, hR⟩ := hv
  rw [rows_one] at hR ⊢
  refine KW.lit rfl rfl rfl rfl rfl rfl rfl rfl rfl rfl [] rfl rfl (fun v hv => by simp at hv) rfl ?_
  have hRl : (rowsOf ow j).length ≤ ow.length := rowsP_len _ _
  have hRm : ∀ x ∈ rowsOf ow j, 0 ≤ x ∧ x < ow.length := fun x hx => rowsP_mem hx
  obtain ⟨R, hRe⟩ : ∃ R, rowsOf ow j = R := ⟨_, rfl⟩
  rw [hRe] at hR hRl hRm hvl ⊢
  have hv := hv.up (S' := SR) (H' := HR)
  refine KW.lpM rfl rfl (fun q : Nat × Nat => [(0, .pointer (some ⟨id, k, none⟩)), (1, .int .i64 e), (3, .slice a5 vals.length c5), (9, .slice a6 R.length c6), (10, .slice (some ⟨q.2, 0, some 1⟩) ((List.range q.1).map (tagAt p kk R vals)).length ((List.range q.1).map (tagAt p kk R vals)).length), (11, .int .i64 q.1)]) (fun q => SR) (fun q => HR) (fun q => [_, (q.2, ⟨_, true, ((List.range q.1).map (tagAt p kk R vals)).map (Value.int .i64)⟩)]) (fun q => q.1 ≤ R.length) (fun q => R.length - q.1) ((0, _)) (by simp) ⟨rfl, rfl, rfl, rfl, rfl, rfl, trivial⟩ rfl rfl rfl (fun q hi bE n => ?_)
  obtain ⟨q, o⟩ := q
  simp only at hi
  have hq : ((List.range q).map (tagAt p kk R vals)).length ≤ q := by simp
  refine KW.cnd rfl rfl (fun k2 => ?_) (fun k2 => ?_)
  · refine KW.ldF 7 hv rfl rfl rfl rfl rfl rfl rfl rfl rfl ?_
    refine KW.getL h4.up rfl rfl rfl rfl rfl rfl rfl rfl rfl rfl rfl rfl rfl rfl rfl rfl (by omega) (by omega) (fun kk' b1 d1 hk1 hs1 => ?_)
    have hk1 : ks[e]? = some kk' := hk1
    rw [he] at hk1
    cases hk1
    have hkl := hkk.1
    refine KW.getI hR.ups rfl rfl rfl rfl rfl rfl rfl rfl rfl rfl rfl rfl rfl rfl rfl rfl (by omega) (k2) (fun x hx => ?_)
    have hx : R[q]? = some x := hx
    have hxm := hRm x (List.mem_of_getElem? hx)
    refine KW.getL hs1 rfl rfl rfl rfl rfl rfl rfl rfl rfl rfl rfl rfl rfl rfl rfl rfl (by omega) (by omega) (fun ky b2 d2 hk2 hs2 => ?_)
    have hk2 : kk[x.toNat]? = some ky := hk2
    have hky := hkk.2 ky (List.mem_of_getElem? hk2)
    have hkyl := hky.1
    refine KW.getI hs2 rfl rfl rfl rfl rfl rfl rfl rfl rfl rfl rfl rfl rfl rfl rfl rfl (by omega) (by omega) (fun k0 hk0 => ?_)
    refine KW.getI h5.up rfl rfl rfl rfl rfl rfl rfl rfl rfl rfl rfl rfl rfl rfl rfl rfl (by omega) (by omega) (fun v hv' => ?_)
    refine KW.getI hs2 rfl rfl rfl rfl rfl rfl rfl rfl rfl rfl rfl rfl rfl rfl rfl rfl (by omega) (by omega) (fun k1 hk1' => ?_)
    refine KW.ldF 2 hv rfl rfl rfl rfl rfl rfl rfl rfl rfl ?_
    have ek0 : ky.getD 0 0 = k0 := getD_of hk0
    have ek1 : ky.getD 1 0 = k1 := getD_of hk1'
    have ev : vals.getD q 0 = v := getD_of hv'
    have eR : R.getD q 0 = x := getD_of hx
    have ekk : kk.getD x.toNat [] = ky := by rw [List.getD_eq_getElem?_getD, hk2]; rfl
    have et : tagAt p kk R vals q = (k0 * v + k1) % p := by unfold tagAt; rw [eR, ekk, ek0, ek1, ev]
    obtain ⟨ew, e0⟩ := tag_val hpr (ek0 ▸ elem_at hky.2 hpr.1 0) (ek1 ▸ elem_at hky.2 hpr.1 1) (ev ▸ elem_at hve hpr.1 q)
    refine KW.rem rfl rfl rfl rfl rfl rfl (by rw [ew]; exact e0) (by have := hpr.1; omega) ?_
    rw [ew, ← et]
    have e1 := range_map_succ (tagAt p kk R vals) q
    refine KW.app1 (xs := ((List.range q).map (tagAt p kk R vals)).map (Value.int .i64)) (v := .int .i64 (tagAt p kk R vals q)) 1 2 rfl rfl rfl rfl rfl rfl rfl rfl rfl rfl rfl rfl rfl rfl rfl rfl rfl rfl rfl rfl rfl rfl rfl (by simp) (by show (_ + 1) * 8 ≤ _; first | omega | (simp only; omega)) (by first | omega | (simp only; omega)) ?_
    refine KW.nxt rfl rfl (fun H' g => ⟨(q + 1, _), by simp only; omega, by first | omega | (simp only; omega), ⟨rfl, rfl, rfl, rfl, by simp only [e1, List.length_append, List.length_singleton]; rfl, congrArg (Value.int .i64) (inc64 (by omega)), trivial⟩, g.eqT (by simp only [e1, List.map_append]; rfl)⟩)
  · obtain rfl : q = R.length := by simp only at k2; omega
    refine KW.retM1 rfl rfl rfl rfl (fun H1 g => MkL.of g (j := 1) rfl (g.ge (H1 := H) (j := 1) rfl))
end
end Go.Proofs.Ytaepgfafbnjccaa.Am
/- Contracts: values, tags and lies of a deal, of the program and of the reference. Each holds under its own conditions. -/
set_option linter.unusedVariables false
set_option maxRecDepth 20000
namespace Go.Proofs.Ytaepgfafbnjccaa.Am
open Go Go.RowKit Go.Proofs
/-- The code of a deal, an epoch and a holder. -/
noncomputable def codeD (x : T_Deal) (e j : Int) : Int := if tv (DealOk x) = true then (if (0 ≤ e ∧ e ≤ (x.2.2.1.length : Int) - 1) ∧ (0 ≤ j ∧ j ≤ x.1.1 - 1) then 0 else 2) else 1
abbrev blD (x : T_Deal) (e : Int) : List Int := x.2.2.1.getD e.toNat []
abbrev kkD (x : T_Deal) (e : Int) : List (List Int) := x.2.2.2.getD e.toNat []
/-- A deal at an epoch and a holder. -/
structure DealAt (x : T_Deal) (e j : Int) (E J : Nat) : Prop where
  ee : e = E
  jj : j = J
  j6 : J ≤ 6
  sch : OkSch x.1.1 x.1.2.1 x.1.2.2.1 x.1.2.2.2.1 x.1.2.2.2.2
  sec : 0 ≤ x.2.1 ∧ x.2.1 ≤ x.1.2.2.1 - 1
  hb : x.2.2.1[E]? = some (blD x e)
  hk : x.2.2.2[E]? = some (kkD x e)
  bl : ((blD x e).length : Int) = x.1.2.2.2.1 - 1 ∧ Elems x.1.2.2.1 (blD x e)
  key : KeysOk x.1.2.2.1 x.1.2.2.2.2.length (kkD x e)
theorem codeD_ok {x : T_Deal} {e j : Int} (h : codeD x e j = 0) : ∃ E J, DealAt x e j E J := by
  unfold codeD at h
  split at h
  · rename_i hd
    have hd : DealOk x := tv_iff.1 hd
    split at h
    · rename_i hr
      have hbl := hd.bl
      have hkl := hd.kl
      have h7 := hd.sch.h7
      have h1 : x.2.2.1[e.toNat]? = some (blD x e) := by
        show _ = some (x.2.2.1.getD e.toNat [])
        rw [List.getD_eq_getElem?_getD, List.getElem?_eq_getElem (by omega)]; rfl
      have h2 : x.2.2.2[e.toNat]? = some (kkD x e) := by
        show _ = some (x.2.2.2.getD e.toNat [])
        rw [List.getD_eq_getElem?_getD, List.getElem?_eq_getElem (by omega)]; rfl
      have h3 := hd.bk _ _ _ h1 h2
      exact ⟨e.toNat, j.toNat, by omega, by omega, by omega, hd.sch, hd.sec, h1, h2, h3.1, h3.2⟩
    · cases h
  · cases h
def valsD (x : T_Deal) (e j : Int) : List Int := valsOf x.1.2.2.1 x.1.2.2.2.2 x.1.2.1 x.2.1 (blD x e) j
def tagsD (x : T_Deal) (e j : Int) (vals : List Int) : List Int := tagsOf x.1.2.2.1 (kkD x e) (rowsOf x.1.2.1 j) vals
def lieOf (p : Int) (vals : List Int) (lie : Int) : List Int := match vals with
  | [] => []
  | v :: vs => ((v + lie) % p) :: vs
theorem lie_len {p : Int} {vals : List Int} {lie : Int} : (lieOf p vals lie).length = vals.length := by cases vals <;> rfl
theorem lie_in {p : Int} {vals : List Int} {lie : Int} (hp : PrimeP p) (h : Elems p vals) : Elems p (lieOf p vals lie) := fun x hx => by
  cases vals with
  | nil => exact h x hx
  | cons v vs =>
    rcases List.mem_cons.1 hx with rfl | hx
    · have h1 := hp.1
      have := Int.emod_nonneg (v + lie) (show p ≠ 0 by omega)
      have := Int.emod_lt_of_pos (v + lie) (show 0 < p by omega)
      omega
    · exact h x (List.mem_cons_of_mem _ hx)
section
variable {S : Ids} {H0 : AH}
theorem dealCode (x : T_Deal) (e j : Int) {cs : List Value} (hB : B_Deal x) (h : K_Deal.R S H0 x cs) : Spec Try.prog S H0 82 [.agg cs.toArray, .int .i64 e, .int .i64 j] (fun v => v = .int .i64 (codeD x e j)) := by
  obtain ⟨a1, c1, a2, c2, a3, c3, a4, c4, rfl, h1, h2, h3, h4⟩ := split2_Deal h
  refine Spec.of1 Try.func82 rfl (by kernel_rfl) rfl (fun H _ => ?_)
  have hbl := hB.2.2.1.len
  refine KW.callE rfl rfl rfl rfl rfl (impl_ValidDeal hB (On.R h)) (fun _ _ => ?_)
  by_cases hd : DealOk x
  · rw [tv_true hd]
    refine KW.cF rfl rfl (by first | (simp; done) | decide) ?_
    have h7 := hd.sch.h7
    have h1 := hd.sch.h1
    refine KW.callE rfl rfl rfl rfl rfl (within _ _ _) (fun _ _ => ?_)
    rw [wr (x := (x.2.2.1.length : Int) - 1) (by omega) (by omega)]
    refine KW.tstB rfl rfl (fun k1 => ?_) (fun k1 => ?_)
    · refine KW.cT rfl rfl (by first | (simp; done) | decide) ?_
      exact KW.ret rfl rfl rfl rfl (by unfold codeD; rw [if_pos (tv_true hd), if_neg (fun hc => by simp at k1; omega)]; rfl)
    have k1 : 0 ≤ e ∧ e ≤ (x.2.2.1.length : Int) - 1 := by simpa using k1
    refine KW.callE rfl rfl rfl rfl rfl (within _ _ _) (fun _ _ => ?_)
    rw [wr (x := x.1.1 - 1) (by omega) (by omega)]
    refine KW.cndB rfl rfl (fun k2 => ?_) (fun k2 => ?_)
    · exact KW.ret rfl rfl rfl rfl (by unfold codeD; rw [if_pos (tv_true hd), if_neg (fun hc => by simp at k2; omega)]; rfl)
    have k2 : 0 ≤ j ∧ j ≤ x.1.1 - 1 := by simpa using k2
    exact KW.ret rfl rfl rfl rfl (by unfold codeD; rw [if_pos (tv_true hd), if_pos ⟨k1, k2⟩]; rfl)
  · rw [tv_false hd]
    refine KW.cT rfl rfl (by first | (simp; done) | decide) ?_
    exact KW.ret rfl rfl rfl rfl (by unfold codeD; rw [if_neg (by rw [tv_false hd]; decide)]; rfl)
theorem l08Asked (x : T_Deal) (e j : Int) {id k : Nat} {cs : List Value} (hB : B_Deal x) (hv : Has3 S H0 id k cs) (h : K_Deal.R S H0 x cs) : Spec Try.prog S H0 77 [.pointer (some ⟨id, k, none⟩), .int .i64 e, .int .i64 j] (fun v => v = .int .i64 (codeD x e j)) := by
  obtain ⟨a1, c1, a2, c2, a3, c3, a4, c4, rfl, h1, h2, h3, h4⟩ := split2_Deal h
  refine Spec.of1 Try.func77 rfl (by kernel_rfl) rfl (fun H _ => ?_)
  have hv := hv.up (S' := Low H.n) (H' := H)
  have hbl := hB.2.2.1.len
  refine KW.callE rfl rfl rfl rfl rfl (l08Ok _ _ _ _ hB.1.2.2.1 hB.1.2.1 hB.1.2.2.2.2 hB.2.2.1 hB.2.2.2 hv h1.up h2.up h3.up h4.up) (fun _ _ => ?_)
  by_cases hd : DealOk x
  · rw [tv_true (p := OkDeal _ _ _ _ _ _ _ _) hd]
    refine KW.cF rfl rfl (by first | (simp; done) | decide) ?_
    have h7 := hd.sch.h7
    have h1 := hd.sch.h1
    refine KW.ldF 6 hv rfl rfl rfl rfl rfl rfl rfl rfl rfl ?_
    refine KW.callE rfl rfl rfl rfl rfl (l00In _ _ _) (fun _ _ => ?_)
    rw [wr (x := (x.2.2.1.length : Int) - 1) (by omega) (by omega)]
    refine KW.tstB rfl rfl (fun k1 => ?_) (fun k1 => ?_)
    · refine KW.cT rfl rfl (by first | (simp; done) | decide) ?_
      exact KW.ret rfl rfl rfl rfl (by unfold codeD; rw [if_pos (tv_true hd), if_neg (fun hc => by simp at k1; omega)]; rfl)
    have k1 : 0 ≤ e ∧ e ≤ (x.2.2.1.length : Int) - 1 := by simpa using k1
    refine KW.ldF 0 hv rfl rfl rfl rfl rfl rfl rfl rfl rfl ?_
    refine KW.callE rfl rfl rfl rfl rfl (l00In _ _ _) (fun _ _ => ?_)
    rw [wr (x := x.1.1 - 1) (by omega) (by omega)]
    refine KW.cndB rfl rfl (fun k2 => ?_) (fun k2 => ?_)
    · exact KW.ret rfl rfl rfl rfl (by unfold codeD; rw [if_pos (tv_true hd), if_neg (fun hc => by simp at k2; omega)]; rfl)
    have k2 : 0 ≤ j ∧ j ≤ x.1.1 - 1 := by simpa using k2
    exact KW.ret rfl rfl rfl rfl (by unfold codeD; rw [if_pos (tv_true hd), if_pos ⟨k1, k2⟩]; rfl)
  · rw [tv_false (p := OkDeal _ _ _ _ _ _ _ _) hd]
    refine KW.cT rfl rfl (by first | (simp; done) | decide) ?_
    exact KW.ret rfl rfl rfl rfl (by unfold codeD; rw [if_neg (by rw [tv_false hd]; decide)]; rfl)
theorem valuesD (x : T_Deal) (e j : Int) {E J : Nat} (hd : DealAt x e j E J) {cs : List Value} (hB : B_Deal x) (h : K_Deal.R S H0 x cs) : SpecM Try.prog S H0 87 [.agg cs.toArray, .int .i64 e, .int .i64 j] (MkL (valsD x e j)) := by
  obtain ⟨a1, c1, a2, c2, a3, c3, a4, c4, rfl, h1, h2, h3, h4⟩ := split2_Deal h
  have := values x.1.1 x.1.2.2.1 x.1.2.2.2.1 x.2.1 E J (c2 := c2) (a4 := a4) (n4 := x.2.2.2.length) (c4 := c4) hB.1.2.1 hB.1.2.2.2.2 hd.sch hd.sec hd.hb hd.bl.1 hd.bl.2 hd.j6 h1 h2 h3
  rw [hd.ee, hd.jj]
  rw [hd.ee] at this
  exact this
theorem l08ValuesD (x : T_Deal) (e j : Int) {E J : Nat} (hd : DealAt x e j E J) {id k : Nat} {cs : List Value} (hB : B_Deal x) (hv : Has3 S H0 id k cs) (h : K_Deal.R S H0 x cs) : SpecM Try.prog S H0 86 [.pointer (some ⟨id, k, none⟩), .int .i64 e, .int .i64 j] (MkL (valsD x e j)) := by
  obtain ⟨a1, c1, a2, c2, a3, c3, a4, c4, rfl, h1, h2, h3, h4⟩ := split2_Deal h
  have := l08Values x.1.1 x.1.2.2.1 x.1.2.2.2.1 x.2.1 E J hB.1.2.1 hB.1.2.2.2.2 hd.sch hd.sec hd.hb hd.bl.1 hd.bl.2 hv h1 h2 h3
  rw [hd.ee, hd.jj]
  rw [hd.ee] at this
  exact this
theorem tagsDD (x : T_Deal) (e j : Int) {E J : Nat} (hd : DealAt x e j E J) {cs : List Value} (hB : B_Deal x) (h : K_Deal.R S H0 x cs) {vals : List Int} {a c} (hl : vals.length = (rowsOf x.1.2.1 j).length) (he : Elems x.1.2.2.1 vals) (hs : KI.Sl S H0 (.slice a vals.length c) vals) : SpecM Try.prog S H0 85 [.agg cs.toArray, .int .i64 e, .int .i64 j, .slice a vals.length c] (MkL (tagsD x e j vals)) := by
  obtain ⟨a1, c1, a2, c2, a3, c3, a4, c4, rfl, h1, h2, h3, h4⟩ := split2_Deal h
  have := tags x.1.1 x.1.2.2.1 x.1.2.2.2.1 x.2.1 E J (a2 := a2) (c2 := c2) (a3 := a3) (n3 := x.2.2.1.length) (c3 := c3) hB.1.2.1 hB.2.2.2 hd.sch hd.hk hd.key hd.j6 (by rw [← hd.jj]; exact hl) he h1 h4 hs
  unfold tagsD
  rw [hd.ee, hd.jj]
  rw [hd.ee] at this
  exact this
theorem l08TagsD (x : T_Deal) (e j : Int) {E J : Nat} (hd : DealAt x e j E J) {id k : Nat} {cs : List Value} (hB : B_Deal x) (hv : Has3 S H0 id k cs) (h : K_Deal.R S H0 x cs) {vals : List Int} {a c} (hl : vals.length = (rowsOf x.1.2.1 j).length) (he : Elems x.1.2.2.1 vals) (hs : KI.Sl S H0 (.slice a vals.length c) vals) : SpecM Try.prog S H0 81 [.pointer (some ⟨id, k, none⟩), .int .i64 e, .int .i64 j, .slice a vals.length c] (MkL (tagsD x e j vals)) := by
  obtain ⟨a1, c1, a2, c2, a3, c3, a4, c4, rfl, h1, h2, h3, h4⟩ := split2_Deal h
  have := l08Tags x.1.1 x.1.2.2.1 x.1.2.2.2.1 x.2.1 E J hB.1.2.1 hB.2.2.2 hd.sch hd.hk hd.key (by rw [← hd.jj]; exact hl) he hv h1 h4 hs
  unfold tagsD
  rw [hd.ee, hd.jj]
  rw [hd.ee] at this
  exact this
/-- A list and a code. -/
def MkLC (xs : List Int) (code : Int) (n : Nat) (v : Value) (H1 : AH) : Prop := ∃ a c, v = .tuple #[.slice a xs.length c, .int .i64 code] ∧ M_Int64S.R (New n H1.n) H1 xs [.slice a xs.length c]
theorem MkLC.nil {code : Int} {n : Nat} {H1 : AH} {v : Value} (hv : v = .tuple #[.slice none 0 0, .int .i64 code]) : MkLC [] code n v H1 := ⟨none, 0, hv, ml1' (.inl ⟨rfl, _, _, rfl, fun _ => rfl⟩)⟩
theorem MkLC.nil' {code : Int} {n id : Nat} {H1 : AH} {v : Value} (hv : v = .tuple #[.slice (some ⟨id, 0, some 1⟩) 0 0, .int .i64 code]) : MkLC [] code n v H1 := ⟨_, 0, hv, ml1' (.inl ⟨rfl, _, _, rfl, fun h => by cases h⟩)⟩
/-- What a callee has made is handed on. -/
theorem Good.made {S0 : Ids} {H0 H1 H2 : AH} {T : List Var} {n lo m : Nat} {xs : List Int} {a : Option Addr} {c : Nat} (g : Good S0 H0 T n H2) [o : On (New m H1.n) H1 S0 H0] (hm : lo ≤ m) (h : KI.Ml (New m H1.n) H1 (.slice a xs.length c) xs) : KI.Ml (New lo H2.n) H2 (.slice a xs.length c) xs :=
  Kn.Ml.st h (g.out (fun id hid => by have := hid.1; omega)).st
noncomputable def r1_DealValues (x : T_Deal) (e j : Int) : Int := codeD x e j
noncomputable def r1_DealTags (x : T_Deal) (e j : Int) : Int := codeD x e j
noncomputable def r0_DealValues (x : T_Deal) (e j : Int) : List Int := if codeD x e j = 0 then valsD x e j else []
theorem impl_DealValues {x : T_Deal} (e j : Int) (he : I64 e) (hj : I64 j) {cs : List Value} (hB : B_Deal x) (h : K_Deal.R S H0 x cs) : SpecM Try.prog S H0 31 [.agg cs.toArray, .int .i64 e, .int .i64 j] (MkLC (r0_DealValues x e j) (codeD x e j)) := by
  obtain ⟨a1, c1, a2, c2, a3, c3, a4, c4, rfl, h1, h2, h3, h4⟩ := split2_Deal h
  refine SpecM.of1 Try.func31 rfl (by kernel_rfl) rfl (fun H _ => ?_)
  refine KW.callE rfl rfl rfl rfl rfl (dealCode x e j hB (On.R h)) (fun _ _ => ?_)
  unfold r0_DealValues
  by_cases hc : codeD x e j = 0
  · obtain ⟨E, J, hd⟩ := codeD_ok hc
    rw [if_pos hc, hc]
    refine KW.cF rfl rfl (by first | (simp; done) | decide) ?_
    refine KW.callN1 rfl rfl rfl rfl rfl (valuesD x e j hd hB (On.R h)) (fun v HA SA mA _ _ hv => ?_)
    obtain ⟨a5, c5, rfl, hA⟩ := hv
    refine KW.retM1 rfl rfl rfl rfl (fun H1 g => ⟨_, _, rfl, ml1' (g.made (by omega) hA)⟩)
  · rw [if_neg hc]
    refine KW.cndB rfl rfl (fun k1 => ?_) (fun k1 => ?_)
    · refine KW.retM1 rfl rfl rfl rfl (fun H1 g => MkLC.nil rfl)
    · exact absurd (by simpa using k1) hc
theorem spec_DealValues {x : T_Deal} (e j : Int) (he : I64 e) (hj : I64 j) {cs : List Value} (hB : B_Deal x) (h : K_Deal.R S H0 x cs) : SpecM Try.prog S H0 30 [.agg cs.toArray, .int .i64 e, .int .i64 j] (MkLC (r0_DealValues x e j) (codeD x e j)) := by
  obtain ⟨a1, c1, a2, c2, a3, c3, a4, c4, rfl, h1, h2, h3, h4⟩ := split2_Deal h
  refine SpecM.of1 Try.func30 rfl (by kernel_rfl) rfl (fun H _ => ?_)
  refine KW.callV1 rfl rfl rfl rfl rfl (fun H1 g _ => l08Asked x e j hB (g.has (j := 0) rfl rfl) (On.R h)) (fun _ _ => ?_)
  unfold r0_DealValues
  by_cases hc : codeD x e j = 0
  · obtain ⟨E, J, hd⟩ := codeD_ok hc
    rw [if_pos hc, hc]
    refine KW.cF rfl rfl (by first | (simp; done) | decide) ?_
    refine KW.fact (fun _ g => g.nle (H1 := H)) (fun hn0 => ?_)
    refine KW.callNV1 rfl rfl rfl rfl rfl (fun H1 g _ => l08ValuesD x e j hd hB (g.has (j := 0) rfl rfl) (On.R h)) (fun v HA SA mA _ _ hv => ?_)
    obtain ⟨a5, c5, rfl, hA⟩ := hv
    refine KW.retM1 rfl rfl rfl rfl (fun H1 g => ⟨_, _, rfl, ml1' (g.made (by omega) hA)⟩)
  · rw [if_neg hc]
    refine KW.cndB rfl rfl (fun k1 => ?_) (fun k1 => ?_)
    · refine KW.lit rfl rfl rfl rfl rfl rfl rfl rfl rfl rfl [] rfl rfl (fun v hv => by simp at hv) rfl ?_
      refine KW.retM1 rfl rfl rfl rfl (fun H1 g => MkLC.nil' rfl)
    · exact absurd (by simpa using k1) hc
noncomputable def r0_DealTags (x : T_Deal) (e j : Int) : List Int := if codeD x e j = 0 then tagsD x e j (valsD x e j) else []
theorem impl_DealTags {x : T_Deal} (e j : Int) (he : I64 e) (hj : I64 j) {cs : List Value} (hB : B_Deal x) (h : K_Deal.R S H0 x cs) : SpecM Try.prog S H0 40 [.agg cs.toArray, .int .i64 e, .int .i64 j] (MkLC (r0_DealTags x e j) (codeD x e j)) := by
  obtain ⟨a1, c1, a2, c2, a3, c3, a4, c4, rfl, h1, h2, h3, h4⟩ := split2_Deal h
  refine SpecM.of1 Try.func40 rfl (by kernel_rfl) rfl (fun H _ => ?_)
  refine KW.callE rfl rfl rfl rfl rfl (dealCode x e j hB (On.R h)) (fun _ _ => ?_)
  unfold r0_DealTags
  by_cases hc : codeD x e j = 0
  · obtain ⟨E, J, hd⟩ := codeD_ok hc
    rw [if_pos hc, hc]
    refine KW.cF rfl rfl (by first | (simp; done) | decide) ?_
    refine KW.fact (fun _ g => g.nle (H1 := H)) (fun hn0 => ?_)
    refine KW.callN1 rfl rfl rfl rfl rfl (valuesD x e j hd hB (On.R h)) (fun v HA SA mA _ _ hv => ?_)
    obtain ⟨a5, c5, rfl, hA⟩ := hv
    refine KW.callN1 rfl rfl rfl rfl rfl (tagsDD x e j hd hB (On.R h) vals_len (vals_in hd.sch.mat.pr) hA.ups) (fun v HC SC mC _ _ hv => ?_)
    obtain ⟨a6, c6, rfl, hC⟩ := hv
    refine KW.retM1 rfl rfl rfl rfl (fun H1 g => ⟨_, _, rfl, ml1' (g.made (by omega) hC)⟩)
  · rw [if_neg hc]
    refine KW.cndB rfl rfl (fun k1 => ?_) (fun k1 => ?_)
    · refine KW.retM1 rfl rfl rfl rfl (fun H1 g => MkLC.nil rfl)
    · exact absurd (by simpa using k1) hc
theorem spec_DealTags {x : T_Deal} (e j : Int) (he : I64 e) (hj : I64 j) {cs : List Value} (hB : B_Deal x) (h : K_Deal.R S H0 x cs) : SpecM Try.prog S H0 39 [.agg cs.toArray, .int .i64 e, .int .i64 j] (MkLC (r0_DealTags x e j) (codeD x e j)) := by
  obtain ⟨a1, c1, a2, c2, a3, c3, a4, c4, rfl, h1, h2, h3, h4⟩ := split2_Deal h
  refine SpecM.of1 Try.func39 rfl (by kernel_rfl) rfl (fun H _ => ?_)
  refine KW.callV1 rfl rfl rfl rfl rfl (fun H1 g _ => l08Asked x e j hB (g.has (j := 0) rfl rfl) (On.R h)) (fun _ _ => ?_)
  unfold r0_DealTags
  by_cases hc : codeD x e j = 0
  · obtain ⟨E, J, hd⟩ := codeD_ok hc
    rw [if_pos hc, hc]
    refine KW.cF rfl rfl (by first | (simp; done) | decide) ?_
    refine KW.fact (fun _ g => g.nle (H1 := H)) (fun hn0 => ?_)
    refine KW.callNV1 rfl rfl rfl rfl rfl (fun H1 g _ => l08ValuesD x e j hd hB (g.has (j := 0) rfl rfl) (On.R h)) (fun v HA SA mA _ _ hv => ?_)
    obtain ⟨a5, c5, rfl, hA⟩ := hv
    refine KW.callNV1 rfl rfl rfl rfl rfl (fun H1 g _ => l08TagsD x e j hd hB (g.has (j := 0) rfl rfl) (On.R h) vals_len (vals_in hd.sch.mat.pr) hA.ups) (fun v HC SC mC _ _ hv => ?_)
    obtain ⟨a6, c6, rfl, hC⟩ := hv
    refine KW.retM1 rfl rfl rfl rfl (fun H1 g => ⟨_, _, rfl, ml1' (g.made (by omega) hC)⟩)
  · rw [if_neg hc]
    refine KW.cndB rfl rfl (fun k1 => ?_) (fun k1 => ?_)
    · refine KW.lit rfl rfl rfl rfl rfl rfl rfl rfl rfl rfl [] rfl rfl (fun v hv => by simp at hv) rfl ?_
      refine KW.retM1 rfl rfl rfl rfl (fun H1 g => MkLC.nil' rfl)
    · exact absurd (by simpa using k1) hc
theorem bound_DealValues {x : T_Deal} (e j : Int) (he : I64 e) (hj : I64 j) (hB : B_Deal x) : B_Int64S (r0_DealValues x e j) := by
  unfold r0_DealValues
  split
  · rename_i hc
    obtain ⟨E, J, hd⟩ := codeD_ok hc
    show (valsD x e j).length ≤ 1048576
    have h1 : (valsD x e j).length = (rowsOf x.1.2.1 j).length := vals_len
    have h2 : (rowsOf x.1.2.1 j).length ≤ x.1.2.1.length := rowsP_len _ _
    have h3 : x.1.2.1.length ≤ 1048576 := hB.1.2.1
    omega
  · show 0 ≤ _; omega
theorem bound_DealTags {x : T_Deal} (e j : Int) (he : I64 e) (hj : I64 j) (hB : B_Deal x) : B_Int64S (r0_DealTags x e j) := by
  unfold r0_DealTags
  split
  · show (tagsD x e j _).length ≤ 1048576
    have h1 : (tagsD x e j (valsD x e j)).length = (rowsOf x.1.2.1 j).length := by simp [tagsD, tagsOf]
    have h2 : (rowsOf x.1.2.1 j).length ≤ x.1.2.1.length := rowsP_len _ _
    have h3 : x.1.2.1.length ≤ 1048576 := hB.1.2.1
    omega
  · show 0 ≤ _; omega
end
end Go.Proofs.Ytaepgfafbnjccaa.Am
/- Contracts: copies and equality of rows; lies. Each holds under its own conditions. -/
set_option linter.unusedVariables false
set_option linter.unusedSimpArgs false
set_option maxRecDepth 20000
namespace Go.Proofs.Ytaepgfafbnjccaa.Am
open Go Go.RowKit Go.Proofs
section
variable {S : Ids} {H0 : AH}
theorem l00Own {a c} {xs : List Int} (hl : xs.length ≤ 1048576) (hs : KI.Sl S H0 (.slice a xs.length c) xs) : SpecM Try.prog S H0 155 [.slice a xs.length c] (MkL xs) := by
  refine SpecM.of1 Try.func155 rfl (by kernel_rfl) rfl (fun H _ => ?_)
  refine KW.lit rfl rfl rfl rfl rfl rfl rfl rfl rfl rfl [] rfl rfl (fun v hv => by simp at hv) rfl ?_
  refine KW.appV 0 rfl rfl rfl rfl rfl rfl rfl rfl rfl rfl (fun H1 g => acells_I hs.up g) (by simp) (by simp) (fun v hv => by obtain ⟨_, _, rfl⟩ := List.mem_map.1 hv; rfl) (by show (_ + _) * 8 ≤ _; simp only [List.length_cons, List.length_nil]; omega) (by simp only [List.length_cons, List.length_nil]; omega) (show 0 + xs.length = xs.length from by omega) (fun oa _ _ => ?_)
  refine KW.retM1 rfl rfl rfl rfl (fun H1 g => MkL.of g (j := 0) rfl (g.ge (H1 := H) (j := 0) rfl))
theorem cloneI {a c} {xs : List Int} (hl : xs.length ≤ 1048576) (hs : KI.Sl S H0 (.slice a xs.length c) xs) : SpecM Try.prog S H0 103 [.slice a xs.length c] (MkL xs) := by
  refine SpecM.of1 Try.func103 rfl (by kernel_rfl) rfl (fun H _ => ?_)
  refine KW.cndB rfl rfl (fun h => ?_) (fun h => ?_)
  · have ha : a = none := by cases a with
      | none => rfl
      | some a => simp at h
    have hx : xs = [] := by
      rcases hs with ⟨hx, _⟩ | ⟨id, k, c1, b, h1, _⟩
      · exact hx
      · rw [ha] at h1; cases h1
    subst hx
    refine KW.retM1 rfl rfl rfl rfl (fun H1 g => ⟨none, 0, rfl, .inl ⟨rfl, _, _, rfl, fun _ => rfl⟩⟩)
  · refine KW.lit rfl rfl rfl rfl rfl rfl rfl rfl rfl rfl [] rfl rfl (fun v hv => by simp at hv) rfl ?_
    refine KW.appV 0 rfl rfl rfl rfl rfl rfl rfl rfl rfl rfl (fun H1 g => acells_I hs.up g) (by simp) (by simp) (fun v hv => by obtain ⟨_, _, rfl⟩ := List.mem_map.1 hv; rfl) (by show (_ + _) * 8 ≤ _; simp only [List.length_cons, List.length_nil]; omega) (by simp only [List.length_cons, List.length_nil]; omega) (show 0 + xs.length = xs.length from by omega) (fun oa _ _ => ?_)
    refine KW.retM1 rfl rfl rfl rfl (fun H1 g => MkL.of g (j := 0) rfl (g.ge (H1 := H) (j := 0) rfl))
theorem equalI {a c a' c'} {xs ys : List Int} (hl : xs.length ≤ 1048576) (hs : KI.Sl S H0 (.slice a xs.length c) xs) (hs' : KI.Sl S H0 (.slice a' ys.length c') ys) : Spec Try.prog S H0 84 [.slice a xs.length c, .slice a' ys.length c'] (fun v => v = .bool (tv (xs = ys))) := by
  refine Spec.of1 Try.func84 rfl (by kernel_rfl) rfl (fun H _ => ?_)
  refine KW.cndB rfl rfl (fun h => ?_) (fun h => ?_)
  · exact KW.ret rfl rfl rfl rfl (by rw [tv_false (fun hc => by rw [hc] at h; simp at h)]; rfl)
  have h : xs.length = ys.length := by simp at h; omega
  refine KW.lp rfl rfl (fun i : Nat => [(0, .slice a xs.length c), (1, .slice a' ys.length c'), (12, .int .i64 xs.length), (13, .int .i64 i)]) (fun i => i ≤ xs.length ∧ ∀ j, j < i → xs[j]? = ys[j]?) (fun i => xs.length - i) (0) (⟨by omega, fun j h => absurd h (by omega)⟩) ⟨rfl, rfl, rfl, rfl, trivial⟩ (fun i hi bE n => ?_)
  obtain ⟨hi, hj⟩ := hi
  refine KW.cnd rfl rfl (fun h2 => ?_) (fun h2 => ?_)
  · refine KW.getI hs.up rfl rfl rfl rfl rfl rfl rfl rfl rfl rfl rfl rfl rfl rfl rfl rfl (by omega) (h2) (fun x hx => ?_)
    refine KW.getI hs'.up rfl rfl rfl rfl rfl rfl rfl rfl rfl rfl rfl rfl rfl rfl rfl rfl (by omega) (by omega) (fun y hy => ?_)
    have hx : xs[i]? = some x := hx
    have hy : ys[i]? = some y := hy
    refine KW.cndB rfl rfl (fun h3 => ?_) (fun h3 => ?_)
    · exact KW.ret rfl rfl rfl rfl (by rw [tv_false (fun hc => by subst hc; rw [hx] at hy; cases hy; simp at h3)]; rfl)
    have h3 : x = y := by simpa using h3
    refine KW.nxt rfl rfl (fun H' g => ⟨i + 1, ⟨by omega, upto hj (by rw [hx, hy, h3])⟩, by first | omega | (simp only; omega), ⟨rfl, rfl, rfl, congrArg (Value.int .i64) (inc64 (by omega)), trivial⟩, g⟩)
  · have : xs = ys := List.ext_getElem? fun j => by
      rcases Nat.lt_or_ge j i with h | h
      · exact hj j h
      · rw [List.getElem?_eq_none (by omega), List.getElem?_eq_none (by omega)]
    exact KW.ret rfl rfl rfl rfl (by rw [tv_true this]; rfl)
theorem l00Same {a c a' c'} {xs ys : List Int} (hl : xs.length ≤ 1048576) (hs : KI.Sl S H0 (.slice a xs.length c) xs) (hs' : KI.Sl S H0 (.slice a' ys.length c') ys) : Spec Try.prog S H0 80 [.slice a xs.length c, .slice a' ys.length c'] (fun v => v = .bool (tv (xs = ys))) := by
  refine Spec.of1 Try.func80 rfl (by kernel_rfl) rfl (fun H _ => ?_)
  refine KW.cndB rfl rfl (fun h => ?_) (fun h => ?_)
  · exact KW.ret rfl rfl rfl rfl (by rw [tv_false (fun hc => by rw [hc] at h; simp at h)]; rfl)
  have h : xs.length = ys.length := by simp at h; omega
  refine KW.lp rfl rfl (fun i : Nat => [(0, .slice a xs.length c), (1, .slice a' ys.length c'), (5, .int .i64 i)]) (fun i => i ≤ xs.length ∧ ∀ j, j < i → xs[j]? = ys[j]?) (fun i => xs.length - i) (0) (⟨by omega, fun j h => absurd h (by omega)⟩) ⟨rfl, rfl, rfl, trivial⟩ (fun i hi bE n => ?_)
  obtain ⟨hi, hj⟩ := hi
  refine KW.cnd rfl rfl (fun h2 => ?_) (fun h2 => ?_)
  · refine KW.getI hs.up rfl rfl rfl rfl rfl rfl rfl rfl rfl rfl rfl rfl rfl rfl rfl rfl (by omega) (h2) (fun x hx => ?_)
    refine KW.getI hs'.up rfl rfl rfl rfl rfl rfl rfl rfl rfl rfl rfl rfl rfl rfl rfl rfl (by omega) (by omega) (fun y hy => ?_)
    have hx : xs[i]? = some x := hx
    have hy : ys[i]? = some y := hy
    refine KW.cndB rfl rfl (fun h3 => ?_) (fun h3 => ?_)
    · exact KW.ret rfl rfl rfl rfl (by rw [tv_false (fun hc => by subst hc; rw [hx] at hy; cases hy; simp at h3)]; rfl)
    have h3 : x = y := by simpa using h3
    refine KW.nxt rfl rfl (fun H' g => ⟨i + 1, ⟨by omega, upto hj (by rw [hx, hy, h3])⟩, by first | omega | (simp only; omega), ⟨rfl, rfl, congrArg (Value.int .i64) (inc64 (by omega)), trivial⟩, g⟩)
  · have : xs = ys := List.ext_getElem? fun j => by
      rcases Nat.lt_or_ge j i with h | h
      · exact hj j h
      · rw [List.getElem?_eq_none (by omega), List.getElem?_eq_none (by omega)]
    exact KW.ret rfl rfl rfl rfl (by rw [tv_true this]; rfl)
theorem lie_at {p : Int} {vals : List Int} {lie : Int} {i : Nat} {x : Int} (hi : (lieOf p vals lie)[i]? = some x) : (i = 0 ∧ x = (vals.getD 0 0 + lie) % p) ∨ (0 < i ∧ vals[i]? = some x) := by
  cases vals with
  | nil => simp [lieOf] at hi
  | cons v vs =>
    cases i with
    | zero => exact .inl ⟨rfl, by simpa [lieOf] using hi.symm⟩
    | succ i => exact .inr ⟨by omega, by simpa [lieOf] using hi⟩
theorem lied (h p c s : Int) (hp : PrimeP p) (lie : Int) (hlie : 0 ≤ lie ∧ lie ≤ p) {a1 c1 a2 c2 a3 c3 a4 c4 a5 c5} {n1 n2 n3 n4 : Nat} {vals : List Int} (hl : vals.length ≤ 1048576) (hv : Elems p vals) (hs : KI.Sl S H0 (.slice a5 vals.length c5) vals) :
    SpecM Try.prog S H0 124 [.agg #[.int .i64 h, .slice a1 n1 c1, .int .i64 p, .int .i64 c, .slice a2 n2 c2, .int .i64 s, .slice a3 n3 c3, .slice a4 n4 c4], .slice a5 vals.length c5, .int .i64 lie] (MkL (lieOf p vals lie)) := by
  refine SpecM.of1 Try.func124 rfl (by kernel_rfl) rfl (fun H _ => ?_)
  refine KW.fact (fun _ g => g.nle (H1 := H)) (fun hn0 => ?_)
  refine KW.callN1 rfl rfl rfl rfl rfl (cloneI hl hs.up) (fun v HA SA mA _ _ hv => ?_)
  obtain ⟨a6, c6, rfl, hA⟩ := hv
  refine KW.cnd rfl rfl (fun k1 => ?_) (fun k1 => ?_)
  · have k1 : 0 < vals.length := by have : (0 : Int) < vals.length := k1; omega
    obtain ⟨o, c7, b, e1, e2, e3, e4, e5, e6, e7⟩ := hA.ints (fun hx => by rw [hx] at k1; simp at k1)
    cases e1
    obtain ⟨ty, rw, cells⟩ := b
    obtain rfl : rw = true := e5
    obtain ⟨v0, hv0⟩ : ∃ v, vals[0]? = some v := ⟨vals[0], List.getElem?_eq_getElem k1⟩
    have hvd : vals.getD 0 0 = v0 := getD_of hv0
    have hvb := hv v0 (List.mem_of_getElem? hv0)
    have hp2 := hp.1
    have hp31 := hp.2.1
    have oS := (inferInstance : On (New _ HA.n) HA SA HA).st o e3
    refine KW.thaw o ⟨ty, true, cells⟩ oS.1 e4 ?_
    haveI : On (Low H.n) H (fun id => SA id ∧ id ≠ o) HA := On.thaw (fun id hid => by have : id < H.n := hid; have := e3.1; omega)
    refine KW.idx0 rfl rfl rfl rfl rfl rfl rfl rfl rfl (by omega) (by omega) ?_
    refine KW.ldT 1 rfl rfl rfl rfl rfl rfl (bload_at (e7 0 v0 hv0) rfl rfl) ?_
    refine KW.rem rfl rfl rfl rfl rfl rfl (by rw [wr (by omega) (by omega)]; omega) (by omega) ?_
    rw [wr (by omega) (by omega), ← hvd]
    refine KW.idx0 rfl rfl rfl rfl rfl rfl rfl rfl rfl (by omega) (by omega) ?_
    refine KW.st1 1 rfl rfl rfl rfl rfl rfl rfl rfl rfl rfl rfl rfl (by simp only; simp only at e6; omega) ?_
    refine KW.retM1 rfl rfl rfl rfl (fun H1 g => ?_)
    have hb := g.blk (j := 1) rfl
    have el : (lieOf p vals lie).length = vals.length := lie_len
    refine ⟨_, _, by rw [el]; rfl, ?_⟩
    refine mlI_of ⟨by have := e3.1; omega, hb.2⟩ hb.1 rfl (by rw [el]; exact e2) (by rw [el]; simp only [List.length_set]; exact e6) (fun i x hi => ?_)
    rcases lie_at hi with ⟨rfl, rfl⟩ | ⟨h0, h1⟩
    · show (cells.set 0 (Value.int .i64 _))[0]? = _
      rw [List.getElem?_set_self (by simp only at e6; omega)]
    · show (cells.set 0 (Value.int .i64 _))[i]? = _
      rw [List.getElem?_set_ne (by omega)]; exact e7 i x h1
  · have hx : vals = [] := List.eq_nil_of_length_eq_zero (by have k1 : ¬ (0 : Int) < vals.length := k1; omega)
    subst hx
    refine KW.retM1 rfl rfl rfl rfl (fun H1 g => ⟨_, _, rfl, g.made (by omega) hA⟩)
theorem l08Lying (p : Int) (hp : PrimeP p) (lie : Int) (hlie : 0 ≤ lie ∧ lie ≤ p) {a5 c5} {vals : List Int} (hl : vals.length ≤ 1048576) (hv : Elems p vals) (hs : KI.Sl S H0 (.slice a5 vals.length c5) vals) :
    SpecM Try.prog S H0 123 [.int .i64 p, .slice a5 vals.length c5, .int .i64 lie] (MkL (lieOf p vals lie)) := by
  refine SpecM.of1 Try.func123 rfl (by kernel_rfl) rfl (fun H _ => ?_)
  refine KW.fact (fun _ g => g.nle (H1 := H)) (fun hn0 => ?_)
  refine KW.callN1 rfl rfl rfl rfl rfl (l00Own hl hs.up) (fun v HA SA mA _ _ hv => ?_)
  obtain ⟨a6, c6, rfl, hA⟩ := hv
  refine KW.cnd rfl rfl (fun k1 => ?_) (fun k1 => ?_)
  · have k1 : 0 < vals.length := by have : (0 : Int) < vals.length := k1; omega
    obtain ⟨o, c7, b, e1, e2, e3, e4, e5, e6, e7⟩ := hA.ints (fun hx => by rw [hx] at k1; simp at k1)
    cases e1
    obtain ⟨ty, rw, cells⟩ := b
    obtain rfl : rw = true := e5
    obtain ⟨v0, hv0⟩ : ∃ v, vals[0]? = some v := ⟨vals[0], List.getElem?_eq_getElem k1⟩
    have hvd : vals.getD 0 0 = v0 := getD_of hv0
    have hvb := hv v0 (List.mem_of_getElem? hv0)
    have hp2 := hp.1
    have hp31 := hp.2.1
    have oS := (inferInstance : On (New _ HA.n) HA SA HA).st o e3
    refine KW.thaw o ⟨ty, true, cells⟩ oS.1 e4 ?_
    haveI : On (Low H.n) H (fun id => SA id ∧ id ≠ o) HA := On.thaw (fun id hid => by have : id < H.n := hid; have := e3.1; omega)
    refine KW.idx0 rfl rfl rfl rfl rfl rfl rfl rfl rfl (by omega) (by omega) ?_
    refine KW.ldT 0 rfl rfl rfl rfl rfl rfl (bload_at (e7 0 v0 hv0) rfl rfl) ?_
    refine KW.rem rfl rfl rfl rfl rfl rfl (by rw [wr (by omega) (by omega)]; omega) (by omega) ?_
    rw [wr (by omega) (by omega), ← hvd]
    refine KW.idx0 rfl rfl rfl rfl rfl rfl rfl rfl rfl (by omega) (by omega) ?_
    refine KW.st1 0 rfl rfl rfl rfl rfl rfl rfl rfl rfl rfl rfl rfl (by simp only; simp only at e6; omega) ?_
    refine KW.retM1 rfl rfl rfl rfl (fun H1 g => ?_)
    have hb := g.blk (j := 0) rfl
    have el : (lieOf p vals lie).length = vals.length := lie_len
    refine ⟨_, _, by rw [el]; rfl, ?_⟩
    refine mlI_of ⟨by have := e3.1; omega, hb.2⟩ hb.1 rfl (by rw [el]; exact e2) (by rw [el]; simp only [List.length_set]; exact e6) (fun i x hi => ?_)
    rcases lie_at hi with ⟨rfl, rfl⟩ | ⟨h0, h1⟩
    · show (cells.set 0 (Value.int .i64 _))[0]? = _
      rw [List.getElem?_set_self (by simp only at e6; omega)]
    · show (cells.set 0 (Value.int .i64 _))[i]? = _
      rw [List.getElem?_set_ne (by omega)]; exact e7 i x h1
  · have hx : vals = [] := List.eq_nil_of_length_eq_zero (by have k1 : ¬ (0 : Int) < vals.length := k1; omega)
    subst hx
    refine KW.retM1 rfl rfl rfl rfl (fun H1 g => ⟨_, _, rfl, g.made (by omega) hA⟩)
end
end Go.Proofs.Ytaepgfafbnjccaa.Am
/- Dual ranks, plain: they are ranks if none is too great. No condition beyond each lemma's own. -/
set_option linter.unusedVariables false
namespace Go.Proofs.Ytaepgfafbnjccaa.Am
open Go Go.RowKit
def dif (a b : Nat) : Nat := a ^^^ (a &&& b)
theorem dif_bit (a b i : Nat) : (dif a b).testBit i = (a.testBit i && !b.testBit i) := by
  unfold dif
  rw [Nat.testBit_xor, Nat.testBit_and]
  cases a.testBit i <;> cases b.testBit i <;> rfl
theorem dif_lt {a b m : Nat} (ha : a < 2 ^ m) : dif a b < 2 ^ m := by
  refine Nat.lt_pow_two_of_testBit _ fun i hi => ?_
  rw [dif_bit, Nat.testBit_lt_two_pow (Nat.lt_of_lt_of_le ha (Nat.pow_le_pow_right (by decide) hi))]; rfl
theorem dif_or (A a b : Nat) : dif A (a ||| b) = dif A a &&& dif A b := by
  apply Nat.eq_of_testBit_eq; intro i
  rw [Nat.testBit_and, dif_bit, dif_bit, dif_bit, Nat.testBit_or]
  cases A.testBit i <;> cases a.testBit i <;> cases b.testBit i <;> rfl
theorem dif_and (A a b : Nat) : dif A (a &&& b) = dif A a ||| dif A b := by
  apply Nat.eq_of_testBit_eq; intro i
  rw [Nat.testBit_or, dif_bit, dif_bit, dif_bit, Nat.testBit_and]
  cases A.testBit i <;> cases a.testBit i <;> cases b.testBit i <;> rfl
theorem dif_zero (A : Nat) : dif A 0 = A := by
  apply Nat.eq_of_testBit_eq; intro i
  rw [dif_bit]; simp
/-- The sum of the single ranks of the holders below n in a set. -/
def sumH (l : List Int) (c : Nat) : Nat → Int
  | 0 => 0
  | n + 1 => sumH l c n + (if c.testBit n = true then l.getD (2 ^ n) 0 else 0)
theorem sumH_mod (l : List Int) (a b : Nat) : ∀ n, sumH l a n + sumH l b n = sumH l (a ||| b) n + sumH l (a &&& b) n
  | 0 => rfl
  | n + 1 => by
    have h := sumH_mod l a b n
    simp only [sumH, Nat.testBit_or, Nat.testBit_and]
    cases a.testBit n <;> cases b.testBit n <;> simp <;> omega
theorem sumH_zero (l : List Int) : ∀ n, sumH l 0 n = 0
  | 0 => rfl
  | n + 1 => by simp only [sumH, sumH_zero l n, Nat.zero_testBit]; rfl
section
variable {l : List Int} {m : Nat}
theorem getD_nonneg (hw : Within l) (i : Nat) : 0 ≤ l.getD i 0 := by
  rcases Nat.lt_or_ge i l.length with h | h
  · exact (hw i h).1
  · rw [List.getD_eq_getElem?_getD, List.getElem?_eq_none h]; exact Int.le_refl _
theorem meets_at (hM : Meets l) {a b : Nat} (ha : a < l.length) (hb : b < l.length) : l.getD (a ||| b) 0 + l.getD (a &&& b) 0 ≤ l.getD a 0 + l.getD b 0 := by
  have := hM a ha b hb
  unfold Bad at this
  omega
/-- Added holders raise a rank by no more than their own. -/
theorem rank_add (hl : l.length = 2 ^ m) (hw : Within l) (hM : Meets l) {z c : Nat} (hz : z < 2 ^ m) (hc : c < 2 ^ m) : ∀ n, n ≤ m → l.getD (z ||| c % 2 ^ n) 0 ≤ l.getD z 0 + sumH l c n
  | 0, _ => by
    have : c % 2 ^ 0 = 0 := by rw [Nat.pow_zero]; exact Nat.mod_one c
    rw [this, Nat.or_zero]; simp [sumH]
  | n + 1, hn => by
    have ih := rank_add hl hw hM hz hc n (by omega)
    have hlt : c % 2 ^ n < 2 ^ m := Nat.lt_of_le_of_lt (Nat.mod_le _ _) hc
    have hpn : 2 ^ n < 2 ^ m := Nat.pow_lt_pow_right (by decide) (by omega)
    by_cases hb : c.testBit n = true
    · have e : z ||| c % 2 ^ (n + 1) = (z ||| c % 2 ^ n) ||| 2 ^ n := by
        apply Nat.eq_of_testBit_eq; intro i
        rw [Nat.testBit_or, Nat.testBit_or, Nat.testBit_or, Nat.testBit_mod_two_pow, Nat.testBit_mod_two_pow, Nat.testBit_two_pow]
        by_cases h1 : n = i
        · subst h1; simp [hb]
        · by_cases h2 : i < n
          · have : i < n + 1 := by omega
            simp [h2, this, h1]
          · have : ¬ i < n + 1 := by omega
            simp [h2, this, h1]
      have h1 := meets_at hM (a := z ||| c % 2 ^ n) (b := 2 ^ n) (by rw [hl]; exact Nat.or_lt_two_pow hz hlt) (by rw [hl]; exact hpn)
      have h2 := getD_nonneg hw ((z ||| c % 2 ^ n) &&& 2 ^ n)
      rw [e]
      simp only [sumH, if_pos hb]
      omega
    · have e : c % 2 ^ (n + 1) = c % 2 ^ n := by
        apply Nat.eq_of_testBit_eq; intro i
        rw [Nat.testBit_mod_two_pow, Nat.testBit_mod_two_pow]
        by_cases h1 : n = i
        · subst h1; simp at hb; simp [hb]
        · by_cases h2 : i < n
          · have : i < n + 1 := by omega
            simp [h2, this]
          · have : ¬ i < n + 1 := by omega
            simp [h2, this]
      rw [e]
      simp only [sumH, if_neg hb]
      omega
theorem opens_up {gs : List (List Int)} {a b : Nat} (h : Opens gs a) (hab : a &&& b = a) : Opens gs b := by
  obtain ⟨g, hg, h1⟩ := h
  refine ⟨g, hg, ?_⟩
  apply Nat.eq_of_testBit_eq; intro i
  have h2 := congrArg (fun x => x.testBit i) h1
  have h3 := congrArg (fun x => x.testBit i) hab
  simp only [Nat.testBit_and] at h2 h3 ⊢
  revert h2 h3
  cases a.testBit i <;> cases b.testBit i <;> cases (bitsOf g).testBit i <;> simp
end
/-- What the unit adds for a set that does not open. -/
noncomputable def uO (u : Int) (gs : List (List Int)) (x : Nat) : Int := if tv (Opens gs x) = true then 0 else u
noncomputable def dualAt (l : List Int) (u : Int) (gs : List (List Int)) (m c : Nat) : Int := l.getD (dif (2 ^ m - 1) c) 0 - l.getD (2 ^ m - 1) 0 + sumH l c m + uO u gs (dif (2 ^ m - 1) c)
noncomputable def dualL (l : List Int) (u : Int) (gs : List (List Int)) (m n : Nat) : List Int := (List.range n).map (dualAt l u gs m)
theorem dualL_len (l : List Int) (u : Int) (gs : List (List Int)) (m n : Nat) : (dualL l u gs m n).length = n := by simp [dualL]
theorem dualL_at {l : List Int} {u : Int} {gs : List (List Int)} {m n i : Nat} (h : i < n) : (dualL l u gs m n).getD i 0 = dualAt l u gs m i := by
  rw [List.getD_eq_getElem?_getD]
  simp [dualL, h]
section
variable {l : List Int} {u : Int} {gs : List (List Int)} {m : Nat}
theorem uO_mono {a b : Nat} (hu : 0 ≤ u) (hab : a &&& b = a) : uO u gs b ≤ uO u gs a := by
  unfold uO
  by_cases ha : Opens gs a
  · rw [tv_true ha, tv_true (opens_up ha hab)]; exact Int.le_refl _
  · rw [tv_false ha]
    by_cases hb : Opens gs b
    · rw [tv_true hb]; simpa using hu
    · rw [tv_false hb]; exact Int.le_refl _
theorem dual_mono (hl : l.length = 2 ^ m) (hw : Within l) (hM : Meets l) (hu : 0 ≤ u) {a b : Nat} (ha : a < 2 ^ m) (hb : b < 2 ^ m) (hab : a &&& b = a) : dualAt l u gs m a ≤ dualAt l u gs m b := by
  have hA : 2 ^ m - 1 < 2 ^ m := by have := Nat.two_pow_pos m; omega
  have full : ∀ i, (2 ^ m - 1).testBit i = decide (i < m) := fun i => Nat.testBit_two_pow_sub_one m i
  -- what stands outside a is what stands outside b, with d = b without a
  have e1 : dif (2 ^ m - 1) b ||| dif b a % 2 ^ m = dif (2 ^ m - 1) a := by
    have hd : dif b a % 2 ^ m = dif b a := Nat.mod_eq_of_lt (dif_lt hb)
    rw [hd]
    apply Nat.eq_of_testBit_eq; intro i
    have h3 := congrArg (fun x => x.testBit i) hab
    have h4 : i ≥ m → b.testBit i = false := fun hi => Nat.testBit_lt_two_pow (Nat.lt_of_lt_of_le hb (Nat.pow_le_pow_right (by decide) hi))
    simp only [Nat.testBit_and, Nat.testBit_or, dif_bit, full] at h3 ⊢
    by_cases hi : i < m
    · revert h3
      cases a.testBit i <;> cases b.testBit i <;> simp [hi]
    · rw [h4 (by omega)] at h3 ⊢
      revert h3
      cases a.testBit i <;> simp [hi]
  have h1 := rank_add hl hw hM (z := dif (2 ^ m - 1) b) (c := dif b a) (dif_lt hA) (dif_lt hb) m (Nat.le_refl _)
  rw [e1] at h1
  -- the single ranks
  have e2 : sumH l a m + sumH l (dif b a) m = sumH l b m := by
    have h := sumH_mod l a (dif b a) m
    have e3 : a ||| dif b a = b := by
      apply Nat.eq_of_testBit_eq; intro i
      have h3 := congrArg (fun x => x.testBit i) hab
      simp only [Nat.testBit_and, Nat.testBit_or, dif_bit] at h3 ⊢
      revert h3
      cases a.testBit i <;> cases b.testBit i <;> simp
    have e4 : a &&& dif b a = 0 := by
      apply Nat.eq_of_testBit_eq; intro i
      simp only [Nat.testBit_and, dif_bit, Nat.zero_testBit]
      cases a.testBit i <;> cases b.testBit i <;> rfl
    rw [e3, e4, sumH_zero] at h
    omega
  have h2 := uO_mono (gs := gs) hu (a := dif (2 ^ m - 1) b) (b := dif (2 ^ m - 1) a) (by
    apply Nat.eq_of_testBit_eq; intro i
    have h3 := congrArg (fun x => x.testBit i) hab
    simp only [Nat.testBit_and, dif_bit] at h3 ⊢
    revert h3
    cases a.testBit i <;> cases b.testBit i <;> cases (2 ^ m - 1).testBit i <;> simp)
  unfold dualAt
  omega
theorem dual_meets (hl : l.length = 2 ^ m) (hM : Meets l) (hu : 0 ≤ u) (hfit : ∀ a, a < l.length → ∀ b, b < l.length → ¬ Mis l u gs a b) {a b : Nat} (ha : a < 2 ^ m) (hb : b < 2 ^ m) :
    dualAt l u gs m (a ||| b) + dualAt l u gs m (a &&& b) ≤ dualAt l u gs m a + dualAt l u gs m b := by
  have hA : 2 ^ m - 1 < 2 ^ m := by have := Nat.two_pow_pos m; omega
  unfold dualAt
  rw [dif_or, dif_and]
  have hs := sumH_mod l a b m
  have hX : dif (2 ^ m - 1) a < l.length := by rw [hl]; exact dif_lt hA
  have hY : dif (2 ^ m - 1) b < l.length := by rw [hl]; exact dif_lt hA
  generalize dif (2 ^ m - 1) a = X at *
  generalize dif (2 ^ m - 1) b = Y at *
  have h1 := meets_at hM hX hY
  have m1 := uO_mono (gs := gs) hu (a := X &&& Y) (b := X) (by apply Nat.eq_of_testBit_eq; intro i; simp only [Nat.testBit_and]; cases X.testBit i <;> cases Y.testBit i <;> rfl)
  have m2 := uO_mono (gs := gs) hu (a := X) (b := X ||| Y) (by apply Nat.eq_of_testBit_eq; intro i; simp only [Nat.testBit_and, Nat.testBit_or]; cases X.testBit i <;> cases Y.testBit i <;> rfl)
  have m3 := uO_mono (gs := gs) hu (a := X &&& Y) (b := Y) (by apply Nat.eq_of_testBit_eq; intro i; simp only [Nat.testBit_and]; cases X.testBit i <;> cases Y.testBit i <;> rfl)
  have m4 := uO_mono (gs := gs) hu (a := Y) (b := X ||| Y) (by apply Nat.eq_of_testBit_eq; intro i; simp only [Nat.testBit_and, Nat.testBit_or]; cases X.testBit i <;> cases Y.testBit i <;> rfl)
  have v : ∀ z, (uO u gs z = 0 ∧ Opens gs z) ∨ (uO u gs z = u ∧ ¬ Opens gs z) := fun z => by
    unfold uO
    by_cases hz : Opens gs z
    · rw [tv_true hz]; exact .inl ⟨rfl, hz⟩
    · rw [tv_false hz]; exact .inr ⟨rfl, hz⟩
  have hf := hfit X hX Y hY
  rcases v X with ⟨x1, x2⟩ | ⟨x1, x2⟩ <;> rcases v Y with ⟨y1, y2⟩ | ⟨y1, y2⟩ <;> rcases v (X &&& Y) with ⟨z1, z2⟩ | ⟨z1, z2⟩ <;> first
    | omega
    | (have : ¬ (l.getD X 0 + l.getD Y 0 < l.getD (X ||| Y) 0 + l.getD (X &&& Y) 0 + u) := fun hc => hf (.inr ⟨x2, y2, z2, hc⟩)
       omega)
/-- Dual ranks are ranks if none is too great. -/
theorem dual_ok (hr : OkR m u l) (hop : Opens gs (2 ^ m - 1)) (hfit : ∀ a, a < l.length → ∀ b, b < l.length → ¬ Mis l u gs a b) : OkR m u (dualL l u gs m (2 ^ m)) ↔ ∀ x ∈ dualL l u gs m (2 ^ m), x ≤ 100000 := by
  obtain ⟨h1, h2, h3, h4, h5, h6⟩ := hr
  have h3 : l.length = 2 ^ m := by simpa using h3
  have hpos := Nat.two_pow_pos m
  have len := dualL_len l u gs m (2 ^ m)
  have z0 : dualAt l u gs m 0 = 0 := by
    unfold dualAt uO
    rw [dif_zero, sumH_zero, tv_true hop]; simp
  have mono := fun {a b : Nat} (ha : a < 2 ^ m) (hb : b < 2 ^ m) (hab : a &&& b = a) => dual_mono (gs := gs) h3 h5 h6 (by omega : 0 ≤ u) ha hb hab
  constructor
  · intro h x hx
    obtain ⟨i, hi⟩ := List.getElem?_of_mem hx
    have hil := (List.getElem?_eq_some_iff.1 hi).1
    have := (h.2.2.2.2.1 i hil).2
    rw [getD_of hi] at this
    exact this
  · intro h
    refine ⟨h1, h2, by simpa using len, by rw [dualL_at hpos, z0], fun i hi => ?_, fun a ha b hb hbad => ?_⟩
    · rw [len] at hi
      have h7 := mono hpos hi (Nat.zero_and i)
      rw [z0] at h7
      rw [dualL_at hi]
      refine ⟨h7, h _ ?_⟩
      rw [← dualL_at (l := l) (u := u) (gs := gs) (m := m) hi, List.getD_eq_getElem?_getD, List.getElem?_eq_getElem (by omega)]
      exact List.getElem_mem _
    · rw [len] at ha hb
      have hab := Nat.or_lt_two_pow ha hb
      have hcd := Nat.and_lt_two_pow a hb
      unfold Bad at hbad
      rw [dualL_at ha, dualL_at hb, dualL_at hab, dualL_at hcd] at hbad
      have h7 := dual_meets h3 h6 (by omega : 0 ≤ u) hfit ha hb
      rcases hbad with ⟨h8, h9⟩ | h8
      · have := mono ha hb h8; omega
      · omega
end
end Go.Proofs.Ytaepgfafbnjccaa.Am
/- What the laws' own functions do at Ranks: sizes, copies, equality, marks. Each holds under its own conditions. -/
set_option linter.unusedVariables false
set_option maxRecDepth 20000
namespace Go.Proofs.Ytaepgfafbnjccaa.Am
open Go Go.RowKit Go.Proofs
abbrev T_Ranks : Type := (Int) × (Int) × (List Int)
abbrev K_Ranks : Kn T_Ranks := Kn.pair (KI) (Kn.pair (KI) (K_Int64S))
abbrev M_Ranks : Kn T_Ranks := Kn.mp (KI) (Kn.mp (KI) (M_Int64S))
theorem le_Ranks : KLe M_Ranks K_Ranks := KLe.pair ((KLe.refl KI)) (KLe.pair ((KLe.refl KI)) (le_Int64S))
abbrev B_Ranks (x : T_Ranks) : Prop := I64 x.1 ∧ I64 x.2.1 ∧ B_Int64S x.2.2
abbrev W_Ranks (x : T_Ranks) : Prop := I64 x.1 ∧ I64 x.2.1 ∧ W_Int64S x.2.2
abbrev sz_Ranks (x : T_Ranks) : Nat := sz_Int64S x.2.2
abbrev mk_Ranks (k : Int) (x : T_Ranks) : T_Ranks := (x.1, x.2.1, mk_Int64S (k) x.2.2)
theorem size_Ranks {x : T_Ranks} (hB : B_Ranks x) : sz_Ranks x ≤ 1048576 := by have := size_Int64S hB.2.2; simp only [sz_Ranks]; omega
section
variable {S : Ids} {H0 : AH} {W : Ids} {left k : Int}
theorem form_Ranks {x : T_Ranks} {cs : List Value} (h : K_Ranks.R S H0 x cs) : ∃ a1 c1, cs = [.int .i64 x.1, .int .i64 x.2.1, .slice a1 x.2.2.length c1] := by
  obtain ⟨e0, d0, rfl, h0, h0_⟩ := h
  obtain ⟨e1, d1, rfl, h1, h1_⟩ := h0_
  have h2 := h1_
  obtain rfl := KI_of h0
  obtain rfl := KI_of h1
  obtain ⟨a1, c1, rfl⟩ := slform h2
  exact ⟨a1, c1, rfl⟩
theorem formM_Ranks {x : T_Ranks} {cs : List Value} (h : M_Ranks.R S H0 x cs) : ∃ a1 c1, cs = [.int .i64 x.1, .int .i64 x.2.1, .slice a1 x.2.2.length c1] := form_Ranks (le_Ranks.2 _ _ _ _ h)
theorem split_Ranks {x : T_Ranks} {cs : List Value} (h : K_Ranks.R S H0 x cs) : ∃ a1 c1, cs = [.int .i64 x.1, .int .i64 x.2.1, .slice a1 x.2.2.length c1] ∧ K_Int64S.R S H0 x.2.2 [.slice a1 x.2.2.length c1] := by
  obtain ⟨e0, d0, rfl, h0, h0_⟩ := h
  obtain ⟨e1, d1, rfl, h1, h1_⟩ := h0_
  have h2 := h1_
  obtain rfl := KI_of h0
  obtain rfl := KI_of h1
  obtain ⟨a1, c1, rfl⟩ := slform h2
  exact ⟨a1, c1, rfl, h2⟩
theorem splitM_Ranks {x : T_Ranks} {cs : List Value} (h : M_Ranks.R S H0 x cs) : ∃ (a1 : Option Addr) (c1 : Nat) (X2 : Ids), cs = [.int .i64 x.1, .int .i64 x.2.1, .slice a1 x.2.2.length c1] ∧ M_Int64S.R X2 H0 x.2.2 [.slice a1 x.2.2.length c1] ∧ (∀ id, X2 id → S id) := by
  obtain ⟨e0, d0, X0, Y0, rfl, i0, j0, q0, h0, h0_⟩ := h
  obtain ⟨e1, d1, X1, Y1, rfl, i1, j1, q1, h1, h1_⟩ := h0_
  have h2 := h1_
  obtain rfl := KI_of h0
  obtain rfl := KI_of h1
  obtain ⟨a1, c1, rfl⟩ := mlform h2
  exact ⟨a1, c1, Y1, rfl, h2, fun _ p => j0 _ (j1 _ p)⟩
theorem to_Ranks {x : T_Ranks} {cs : List Value} (hB : B_Ranks x) (h : K_Ranks.R S H0 x cs) : SpecM Try.prog S H0 21 [.agg cs.toArray] (fun n v H1 => ∃ cs, v = .agg cs.toArray ∧ M_Ranks.R (New n H1.n) H1 x cs) := by
  obtain ⟨a1, c1, rfl, h2⟩ := split_Ranks h
  refine SpecM.of1 Try.func21 rfl (by kernel_rfl) rfl (fun H _ => ?_)
  refine KW.callN1 rfl rfl rfl rfl rfl (to_Int64S hB.2.2 (On.R h2)) (fun v G2 S2 m2 _ _ hv => ?_)
  obtain ⟨b2, d2, rfl, g2⟩ := hv
  refine KW.retM1 rfl rfl rfl rfl (fun H1 g => ?_)
  refine ⟨_, rfl, ?_⟩
  have k2 : M_Int64S.R (New H.n H1.n) H1 x.2.2 [.slice b2 x.2.2.length d2] := (M_Int64S).more (g.inn (H := G2) (fun _ p => by have := p.1; omega)) (g.keep g2)
  have k1 : (Kn.mp (KI) (M_Int64S)).R (New H.n H1.n) H1 (x.2) [.int .i64 x.2.1, .slice b2 x.2.2.length d2] := mpR (X := None_) (show KI.R None_ H1 _ [.int .i64 x.2.1] from rfl) k2 (fun _ p => p.elim) (fun _ p => p) (fun _ p _ => p.elim)
  have k0 : (Kn.mp (KI) (Kn.mp (KI) (M_Int64S))).R (New H.n H1.n) H1 (x) [.int .i64 x.1, .int .i64 x.2.1, .slice b2 x.2.2.length d2] := mpR (X := None_) (show KI.R None_ H1 _ [.int .i64 x.1] from rfl) k1 (fun _ p => p.elim) (fun _ p => p) (fun _ p _ => p.elim)
  exact k0
theorem eq_Ranks {x : T_Ranks} {cs cs' : List Value} (hB : B_Ranks x) (h : K_Ranks.R S H0 x cs) (h' : K_Ranks.R S H0 x cs') : Spec Try.prog S H0 24 [.agg cs.toArray, .agg cs'.toArray] (fun v => v = .bool true) := by
  obtain ⟨a1, c1, rfl, h2⟩ := split_Ranks h
  obtain ⟨b1, d1, rfl, k2⟩ := split_Ranks h'
  refine Spec.of1 Try.func24 rfl (by kernel_rfl) rfl (fun H _ => ?_)
  refine KW.cF rfl rfl (by first | (simp; done) | decide) ?_
  refine KW.cF rfl rfl (by first | (simp; done) | decide) ?_
  refine KW.callE rfl rfl rfl rfl rfl (eq_Int64S hB.2.2 (On.R h2) (On.R k2)) (fun _ _ => ?_)
  refine KW.cF rfl rfl (by first | (simp; done) | decide) ?_
  exact KW.ret rfl rfl rfl rfl (rfl)
theorem sz_Ranks' {x : T_Ranks} {cs : List Value} (l0 : 0 ≤ left) (l1 : left ≤ 1048576) (hW : W_Ranks x) (h : K_Ranks.R S H0 x cs) : Spec Try.prog S H0 18 [.agg cs.toArray, .int .i64 left] (SzPost left (B_Ranks x)) := by
  obtain ⟨a1, c1, rfl, h2⟩ := split_Ranks h
  refine Spec.of1 Try.func18 rfl (by kernel_rfl) rfl (fun H _ => ?_)
  refine KW.call rfl rfl rfl rfl rfl (sz_Int64S' l0 l1 hW.2.2 (On.R h2)) (fun v _ _ hv => ?_)
  obtain ⟨r2, rfl, k2⟩ := hv
  refine KW.cnd rfl rfl (fun h => KW.ret rfl rfl rfl rfl ⟨-1, rfl, .inl rfl⟩) (fun h => ?_)
  have k2 := k2.resolve_left (by omega)
  exact KW.ret rfl rfl rfl rfl (⟨_, rfl, .inr ⟨k2.1, by have := k2.2.1; omega, hW.1, hW.2.1, k2.2.2⟩⟩)
theorem mark_Ranks {x : T_Ranks} {cs : List Value} (hB : B_Ranks x) (hk : Mk k (sz_Ranks x)) (hW : ∀ id, W id → S id) (h : M_Ranks.R W H0 x cs) : SpecW Try.prog S H0 W 37 [.agg cs.toArray, .int .i64 k] (fun n v H1 => v = .int .i64 (k + (sz_Ranks x : Nat)) ∧ M_Ranks.R W H1 (mk_Ranks k x) cs) := by
  obtain ⟨a1, c1, X2, rfl, h2, i2⟩ := splitM_Ranks h
  refine SpecW.of0 Try.func37 rfl (by kernel_rfl) rfl (fun H hfin hfz => ?_)
  have F2 : Fk M_Int64S X2 (Low H.n) H _ _ := ⟨(M_Int64S).same (fun id hid => (hfz id (hW id (i2 id hid))).2) h2, fun id hid => (hfz id (hW id (i2 id hid))).1⟩
  have T : ∀ id, id < H.n → Low H.n id ∧ (¬ W id → H.m id = H.m id) := fun id hid => ⟨hid, fun _ => rfl⟩
  refine KW.callW F2.i rfl rfl rfl rfl rfl (mark_Int64S hB.2.2 (k := k) (by have := hk.1; have := hk.2; simp only [sz_Ranks] at this; constructor <;> omega) F2.i F2.r) (fun v H2 S2 m2 t2 w2 hv => ?_)
  obtain ⟨rfl, g2⟩ := hv
  have F2 : Fk M_Int64S X2 S2 H2 _ _ := ⟨g2, fun id hid => (t2 id (F2.i id hid)).1⟩
  have T : ∀ id, id < H.n → S2 id ∧ (¬ W id → H2.m id = H.m id) := fun id hid => ⟨(t2 id (T id hid).1).1, fun hw => ((t2 id (T id hid).1).2 (fun o => hw (i2 id o))).trans ((T id hid).2 hw)⟩
  refine KW.retW rfl rfl rfl rfl (fun H1 g => by have := g.n_; omega) (fun id hid hw => ⟨(T id hid).1, (T id hid).2 hw⟩) (fun H1 g => ?_)
  refine ⟨rfl, ?_⟩
  have G2 := (M_Int64S).same (H' := H1) (fun id hid => (g.froz id (F2.i id hid)).2) F2.r
  have k2 : M_Int64S.R (fun id => X2 id) H1 (mk_Int64S (k) x.2.2) [.slice a1 x.2.2.length c1] := G2
  have k1 : (Kn.mp (KI) (M_Int64S)).R (fun id => X2 id) H1 (x.2.1, (mk_Int64S (k) x.2.2)) [.int .i64 x.2.1, .slice a1 x.2.2.length c1] := mpR (X := None_) (show KI.R None_ H1 _ [.int .i64 x.2.1] from rfl) k2 (fun _ p => p.elim) (fun _ p => p) (fun _ p _ => p.elim)
  have k0 : (Kn.mp (KI) (Kn.mp (KI) (M_Int64S))).R (fun id => X2 id) H1 (x.1, x.2.1, (mk_Int64S (k) x.2.2)) [.int .i64 x.1, .int .i64 x.2.1, .slice a1 x.2.2.length c1] := mpR (X := None_) (show KI.R None_ H1 _ [.int .i64 x.1] from rfl) k1 (fun _ p => p.elim) (fun _ p => p) (fun _ p _ => p.elim)
  exact (M_Ranks).more (fun id p => i2 id p) k0
theorem held_Ranks {x : T_Ranks} {cs : List Value} (hB : B_Ranks x) (hk : Mk k (sz_Ranks x)) (h : K_Ranks.R S H0 (mk_Ranks k x) cs) : Spec Try.prog S H0 52 [.agg cs.toArray, .int .i64 k] (fun v => v = .int .i64 (k + (sz_Ranks x : Nat))) := by
  obtain ⟨a1, c1, rfl, h2⟩ := split_Ranks h
  refine Spec.of1 Try.func52 rfl (by kernel_rfl) rfl (fun H _ => ?_)
  refine KW.callE rfl rfl rfl rfl rfl (held_Int64S hB.2.2 (k := k) (by have := hk.1; have := hk.2; simp only [sz_Ranks] at this; constructor <;> omega) (On.R h2)) (fun _ _ => ?_)
  refine KW.no rfl rfl (by have := hk.1; omega) ?_
  exact KW.ret rfl rfl rfl rfl (rfl)
end
end Go.Proofs.Ytaepgfafbnjccaa.Am
/- Contracts: DualRanks, of the program and of the reference. Each holds under its own conditions. -/
set_option linter.unusedVariables false
set_option linter.unusedSimpArgs false
set_option maxRecDepth 20000
namespace Go.Proofs.Ytaepgfafbnjccaa.Am
open Go Go.RowKit Go.Proofs
theorem andnot_nat (a b i : Nat) : ((BitVec.ofNat 64 a &&& ~~~BitVec.ofNat 64 b).toNat).testBit i = (decide (i < 64) && (a.testBit i && !b.testBit i)) := by
  rw [BitVec.testBit_toNat, BitVec.getLsbD_and, BitVec.getLsbD_not, BitVec.getLsbD_ofNat, BitVec.getLsbD_ofNat]
  by_cases h : i < 64 <;> simp [h]
theorem dif_small {a b : Nat} (ha : a < 4611686018427387904) : dif a b < 4611686018427387904 := dif_lt (m := 62) ha
theorem andnot_eq {a b : Nat} (ha : a < 4611686018427387904) : (BitVec.ofNat 64 a &&& ~~~BitVec.ofNat 64 b).toNat = dif a b := by
  apply Nat.eq_of_testBit_eq; intro i
  rw [andnot_nat, dif_bit]
  by_cases h : i < 64
  · simp [h]
  · have : a.testBit i = false := Nat.testBit_lt_two_pow (Nat.lt_of_lt_of_le (show a < 2 ^ 62 from ha) (Nat.pow_le_pow_right (by decide) (by omega)))
    simp [h, this]
theorem andnot_u64 {a b : Nat} (ha : a < 4611686018427387904) (hb : b < 4611686018427387904) : IntKind.u64.wrap ((BitVec.ofInt IntKind.u64.bits (a : Int) &&& ~~~BitVec.ofInt IntKind.u64.bits (b : Int)).toNat : Int) = ((dif a b : Nat) : Int) := by
  show IntKind.u64.wrap ((BitVec.ofInt 64 (a : Int) &&& ~~~BitVec.ofInt 64 (b : Int)).toNat : Int) = _
  rw [bv_nat ha, bv_nat hb, andnot_eq ha]
  have := dif_small (b := b) ha
  exact wru (by omega) (by omega)
theorem andnot_i64 {a b : Nat} (ha : a < 4611686018427387904) (hb : b < 4611686018427387904) : IntKind.i64.wrap ((BitVec.ofInt IntKind.i64.bits (a : Int) &&& ~~~BitVec.ofInt IntKind.i64.bits (b : Int)).toNat : Int) = ((dif a b : Nat) : Int) := by
  show IntKind.i64.wrap ((BitVec.ofInt 64 (a : Int) &&& ~~~BitVec.ofInt 64 (b : Int)).toNat : Int) = _
  rw [bv_nat ha, bv_nat hb, andnot_eq ha]
  have := dif_small (b := b) ha
  exact wr (by omega) (by omega)
/-- The sum of the single ranks of some holders. -/
def sumL (l : List Int) : List Int → Int
  | [] => 0
  | h :: hs => l.getD (2 ^ h.toNat) 0 + sumL l hs
theorem sumL_app (l : List Int) (xs : List Int) (h : Int) : sumL l (xs ++ [h]) = sumL l xs + l.getD (2 ^ h.toNat) 0 := by
  induction xs with
  | nil => simp [sumL]
  | cons x xs ih => simp only [List.cons_append, sumL, ih]; omega
theorem sumL_hold (l : List Int) (c : Nat) : ∀ n, sumL l (hold c n) = sumH l c n
  | 0 => rfl
  | n + 1 => by
    rw [hold_next]
    simp only [sumH]
    by_cases h : c.testBit n = true
    · rw [if_pos h, if_pos h, sumL_app, sumL_hold l c n]; rfl
    · rw [if_neg h, if_neg h, sumL_hold l c n]; omega
theorem hold_mem {c n : Nat} {x : Int} (h : x ∈ hold c n) : ∃ i : Nat, x = i ∧ i < n ∧ c.testBit i = true := by
  unfold hold at h
  obtain ⟨i, hi, rfl⟩ := List.mem_map.1 h
  obtain ⟨h1, h2⟩ := List.mem_filter.1 hi
  exact ⟨i, rfl, List.mem_range.1 h1, h2⟩
theorem sumL_in {l : List Int} (hw : Within l) : ∀ xs : List Int, 0 ≤ sumL l xs ∧ sumL l xs ≤ 100000 * xs.length
  | [] => by simp [sumL]
  | x :: xs => by
    have h := sumL_in hw xs
    have h1 : 0 ≤ l.getD (2 ^ x.toNat) 0 ∧ l.getD (2 ^ x.toNat) 0 ≤ 100000 := by
      rcases Nat.lt_or_ge (2 ^ x.toNat) l.length with h | h
      · exact hw _ h
      · rw [List.getD_eq_getElem?_getD, List.getElem?_eq_none h]; show 0 ≤ (0 : Int) ∧ (0 : Int) ≤ 100000; omega
    simp only [sumL, List.length_cons]
    omega
theorem getD_in {l : List Int} (hw : Within l) (i : Nat) : 0 ≤ l.getD i 0 ∧ l.getD i 0 ≤ 100000 := by
  rcases Nat.lt_or_ge i l.length with h | h
  · exact hw _ h
  · rw [List.getD_eq_getElem?_getD, List.getElem?_eq_none h]; show 0 ≤ (0 : Int) ∧ (0 : Int) ≤ 100000; omega
theorem sumL_take {l xs : List Int} {i : Nat} {x : Int} (h : xs[i]? = some x) : sumL l (xs.take (i + 1)) = sumL l (xs.take i) + l.getD (2 ^ x.toNat) 0 := by
  obtain ⟨hi, rfl⟩ := List.getElem?_eq_some_iff.1 h
  rw [List.take_succ_eq_append_getElem hi, sumL_app]
theorem sumH_in {l : List Int} (hw : Within l) (c : Nat) : ∀ n, 0 ≤ sumH l c n ∧ sumH l c n ≤ 100000 * n
  | 0 => by simp [sumH]
  | n + 1 => by
    have h := sumH_in hw c n
    have h1 := getD_in hw (2 ^ n)
    simp only [sumH]
    split <;> omega
theorem ranksM {X : Ids} {H : AH} {v : Value} {m u : Int} {xs : List Int} (h : KI.Ml X H v xs) : M_Ranks.R X H (m, u, xs) [.int .i64 m, .int .i64 u, v] :=
  mpR (X := None_) (cs := [.int .i64 m]) (show KI.R None_ H m _ from rfl) (mpR (X := None_) (cs := [.int .i64 u]) (show KI.R None_ H u _ from rfl) (ml1' h) (fun _ p => p.elim) (fun _ p => p) (fun _ p _ => p.elim)) (fun _ p => p.elim) (fun _ p => p) (fun _ p _ => p.elim)
theorem familyOpens {m : Int} {gs : List (List Int)} {q : Nat} (hq : m = q) (h : codeF m gs = 0) : FamOk m gs ∧ Opens gs (2 ^ q - 1) := by
  unfold codeF at h
  split at h
  · rename_i h1
    have h1 := tv_iff.1 h1
    refine ⟨h1, ?_⟩
    have h2 : gs.length ≠ 0 := fun hc => by
      rw [if_pos hc] at h
      split at h <;> cases h
    obtain ⟨g, hg⟩ : ∃ g, gs[0]? = some g := ⟨gs[0]'(by omega), List.getElem?_eq_getElem (by omega)⟩
    have hgm := List.mem_of_getElem? hg
    refine ⟨g, hgm, ?_⟩
    have hb : bitsOf g < 2 ^ q := bitsOf_lt (fun x hx => by have := h1.below g hgm x hx; omega)
    rw [Nat.and_comm, Nat.and_two_pow_sub_one_eq_mod, Nat.mod_eq_of_lt hb]
  · cases h
theorem range_map_succ' {α : Type} (f : Nat → α) (n : Nat) : (List.range (n + 1)).map f = (List.range n).map f ++ [f n] := by rw [List.range_succ, List.map_append]; rfl
/-- The code of dual ranks. -/
noncomputable def r1_DualRanks (x : T_Ranks) (y : T_Family) : Int :=
  if fitC x.1 x.2.1 x.2.2 y.1 y.2 = 0 then (if tv (∀ a, a < x.2.2.length → ∀ b, b < x.2.2.length → ¬ Mis x.2.2 x.2.1 y.2 a b) = true then (if tv (∀ z ∈ dualL x.2.2 x.2.1 y.2 x.1.toNat (2 ^ x.1.toNat), z ≤ 100000) = true then 0 else 3) else 8) else fitC x.1 x.2.1 x.2.2 y.1 y.2
noncomputable def r0_DualRanks (x : T_Ranks) (y : T_Family) : T_Ranks := if r1_DualRanks x y = 0 then (x.1, x.2.1, dualL x.2.2 x.2.1 y.2 x.1.toNat (2 ^ x.1.toNat)) else (0, 0, [])
/-- Ranks and a code. -/
def MkRC (r : T_Ranks) (code : Int) (n : Nat) (v : Value) (H1 : AH) : Prop := ∃ cs : List Value, v = .tuple #[.agg cs.toArray, .int .i64 code] ∧ M_Ranks.R (New n H1.n) H1 r cs
theorem MkRC.nil {code : Int} {n : Nat} {v : Value} {H1 : AH} (hv : v = .tuple #[.agg #[.int .i64 0, .int .i64 0, .slice none 0 0], .int .i64 code]) : MkRC (0, 0, []) code n v H1 := ⟨_, hv, ranksM (.inl ⟨rfl, _, _, rfl, fun _ => rfl⟩)⟩
theorem built_Ranks (a b : Int) : Try.prog.built 49 [(0, .int .i64 a), (1, .int .i64 b)] = some #[.int .i64 a, .int .i64 b, .slice none 0 0] := by kernel_rfl
theorem built_Ranks0 : Try.prog.built 49 [] = some #[.int .i64 0, .int .i64 0, .slice none 0 0] := by kernel_rfl
section
variable {S : Ids} {H0 : AH}
theorem maxI {a c} {xs : List Int} (h0 : xs ≠ []) (hl : xs.length ≤ 1048576) (hs : KI.Sl S H0 (.slice a xs.length c) xs) : Spec Try.prog S H0 111 [.slice a xs.length c] (fun v => ∃ r : Int, v = .int .i64 r ∧ r ∈ xs ∧ ∀ x ∈ xs, x ≤ r) := by
  refine Spec.of1 Try.func111 rfl (by kernel_rfl) rfl (fun H _ => ?_)
  have hp : 0 < xs.length := List.length_pos_iff.2 h0
  refine KW.no rfl rfl (by omega) ?_
  refine KW.getI hs.up rfl rfl rfl rfl rfl rfl rfl rfl rfl rfl rfl rfl rfl rfl rfl rfl (by omega) (by omega) (fun x0 hx0 => ?_)
  have hx0 : xs[0]? = some x0 := hx0
  refine KW.lp rfl rfl (fun s : Nat × Int => [(0, .slice a xs.length c), (3, .int .i64 s.2), (4, .int .i64 s.1)]) (fun s => s.1 ≤ xs.length ∧ s.2 ∈ xs ∧ ∀ j, j < s.1 → ∀ x, xs[j]? = some x → x ≤ s.2) (fun s => xs.length - s.1) ((1, x0)) (⟨by simp only; omega, List.mem_of_getElem? hx0, fun j hj x hx => by have e : j = 0 := (by simp only at hj; omega); subst e; rw [hx0] at hx; cases hx; exact Int.le_refl _⟩) ⟨rfl, rfl, rfl, trivial⟩ (fun s hi bE n => ?_)
  obtain ⟨i, r⟩ := s
  obtain ⟨hi, hr, hj⟩ := hi
  simp only at hi hr hj
  refine KW.cnd rfl rfl (fun k1 => ?_) (fun k1 => ?_)
  · refine KW.getI hs.up rfl rfl rfl rfl rfl rfl rfl rfl rfl rfl rfl rfl rfl rfl rfl rfl (by simp only; omega) (k1) (fun y hy => ?_)
    have hy : xs[i]? = some y := hy
    have hym := List.mem_of_getElem? hy
    refine KW.nxt rfl rfl (fun H' g => ⟨(i + 1, if y > r then y else r), ⟨by simp only; omega, by simp only; split <;> assumption, upto (fun j hjl x hx => by have := hj j hjl x hx; simp only; split <;> omega) (fun x hx => by rw [hy] at hx; cases hx; simp only; split <;> omega)⟩, by first | omega | (simp only; omega), ⟨rfl, rfl, congrArg (Value.int .i64) (inc64 (by omega)), trivial⟩, g⟩)
  · exact KW.ret rfl rfl rfl rfl (⟨r, rfl, hr, all_of (fun j hjl => hj j (by simp only at k1; omega))⟩)
theorem impl_DualRanks {x : T_Ranks} {y : T_Family} {cs ds : List Value} (hB : B_Ranks x) (hF : B_Family y) (h : K_Ranks.R S H0 x cs) (k : K_Family.R S H0 y ds) : SpecM Try.prog S H0 51 [.agg cs.toArray, .agg ds.toArray] (MkRC (r0_DualRanks x y) (r1_DualRanks x y)) := by
  obtain ⟨a1, c1, rfl, h1⟩ := split_Ranks h
  obtain ⟨a2, c2, rfl, k1⟩ := split_Family k
  have s1 := sl1 h1
  have s2 := sl1 k1
  obtain ⟨m, u, l⟩ := x
  obtain ⟨h', gs⟩ := y
  simp only at s1 s2 ⊢
  have hl : l.length ≤ 1048576 := hB.2.2
  have hsm : Sml gs := hF.2
  refine SpecM.of1 Try.func51 rfl (by kernel_rfl) rfl (fun H _ => ?_)
  have hfit := fitsFamily (S := Low H.n) (H0 := H) m u h' hl hsm s1.up s2.up
  by_cases hc : fitC m u l h' gs = 0
  · rw [fits_yes hc] at hfit
    refine KW.callE rfl rfl rfl rfl rfl (hfit) (fun _ _ => ?_)
    refine KW.cF rfl rfl (by first | (simp; done) | decide) ?_
    obtain ⟨ho, hf, rfl⟩ := fitC_zero hc
    have hcf : codeF m gs = 0 := by
      unfold fitC at hc
      rw [if_pos (tv_true ho)] at hc
      by_cases hz : codeF m gs = 0
      · exact hz
      · rw [if_neg hz] at hc; exact absurd hc hz
    obtain ⟨q, hq⟩ : ∃ q : Nat, m = q := ⟨m.toNat, by have := hf.h1; omega⟩
    have hop := (familyOpens hq hcf).2
    subst hq
    have hq7 : q ≤ 7 := by have := hf.h2; omega
    have hq5 : q ≤ 5 := by have := ho.1.2; omega
    have hp := small_pow (m := q) (by omega)
    have hpos := Nat.two_pow_pos q
    have hll : l.length = 2 ^ q := by have := ho.2.2.1; simpa using this
    have hw := ho.2.2.2.2.1
    have hu := ho.2.1
    by_cases hmis : ∀ a, a < l.length → ∀ b, b < l.length → ¬ Mis l u gs a b
    · rw [tv_true hmis]
      refine KW.cF rfl rfl (by first | (simp; done) | decide) ?_
      refine KW.callE rfl rfl rfl rfl rfl (everybody (m := q) (by omega)) (fun n9 m9 => ?_)
      refine KW.build rfl rfl rfl rfl rfl (built_Ranks _ _) ?_
      have hA : 2 ^ q - 1 < l.length := by omega
      have hb : Below' q gs := by simpa using hf.below
      refine KW.lpM rfl rfl (fun s : Nat × Value × List Var => [(2, .pointer (some ⟨H.n, 0, some 0⟩)), (3, .pointer (some ⟨H.n + 1, 0, some 1⟩)), (4, .pointer (some ⟨H.n + 2, 0, some 2⟩)), (8, .int .u64 ((2 ^ q - 1 : Nat) : Int)), (9, .pointer (some ⟨n9, 0, some 3⟩)), (10, .int .u64 s.1)]) (fun s => Low H.n) (fun s => H) (fun s => [(H.n, ⟨49, true, [.int .i64 q, .int .i64 u, .slice a1 l.length c1]⟩), (H.n + 1, ⟨51, true, [.int .i64 q, .slice a2 gs.length c2]⟩), (H.n + 2, ⟨49, true, [.int .i64 0, .int .i64 0, .slice none 0 0]⟩), (n9, ⟨49, true, [.int .i64 q, .int .i64 u, s.2.1]⟩)] ++ s.2.2) (fun s => s.1 ≤ 2 ^ q ∧ ((s.1 = 0 ∧ s.2.1 = .slice none 0 0 ∧ s.2.2 = []) ∨ (0 < s.1 ∧ ∃ o, s.2.1 = .slice (some ⟨o, 0, some 1⟩) (dualL l u gs q s.1).length (dualL l u gs q s.1).length ∧ s.2.2 = [(o, ⟨2, true, (dualL l u gs q s.1).map (Value.int .i64)⟩)]))) (fun s => 2 ^ q - s.1) ((0, .slice none 0 0, [])) (⟨by simp only; omega, .inl ⟨rfl, rfl, rfl⟩⟩) ⟨rfl, rfl, rfl, rfl, rfl, rfl, trivial⟩ rfl rfl rfl (fun s hi bE n => ?_)
      obtain ⟨c, lv, tail⟩ := s
      obtain ⟨hi, hcase⟩ := hi
      simp only at hi hcase
      have hX : dif (2 ^ q - 1) c < l.length := by rw [hll]; exact dif_lt (by omega)
      have hXs : dif (2 ^ q - 1) c < 4611686018427387904 := by omega
      have hXe : IntKind.u64.wrap ((BitVec.ofInt IntKind.u64.bits ((2 ^ q - 1 : Nat) : Int) &&& ~~~BitVec.ofInt IntKind.u64.bits (c : Int)).toNat : Int) = ((dif (2 ^ q - 1) c : Nat) : Int) := andnot_u64 (by omega) (by omega)
      have r1 := getD_in hw (dif (2 ^ q - 1) c)
      have r2 := getD_in hw (2 ^ q - 1)
      have hhl := hold_len c 7
      have hsx := sumL_in hw (hold c 7)
      have hlen := dualL_len l u gs q c
      rcases hcase with ⟨hc0, rfl, rfl⟩ | ⟨hc0, o, rfl, rfl⟩
      all_goals
        refine KW.cnd rfl rfl (fun k2 => ?gin) (fun k2 => ?gout)
        case gin =>
          have k2 : (c : Int) ≤ ((2 ^ q - 1 : Nat) : Int) := k2
          refine KW.callE rfl rfl rfl rfl rfl ((by show Spec _ _ _ _ [ranksV q u (.slice a1 l.length c1), .int .u64 (IntKind.u64.wrap _)] _; rw [hXe]; exact rank _ _ _ hX s1.up)) (fun _ _ => ?_)
          refine KW.callE rfl rfl rfl rfl rfl (rank q u (2 ^ q - 1) hA s1.up) (fun _ _ => ?_)
          refine KW.callN1 rfl rfl rfl rfl rfl (group (x := c) (by omega)) (fun v HG SG mG _ _ hv => ?_)
          obtain ⟨a5, c5, rfl, hG⟩ := hv
          have hB0 : IntKind.i64.wrap (l.getD (dif (2 ^ q - 1) c) 0 - l.getD (2 ^ q - 1) 0) = l.getD (dif (2 ^ q - 1) c) 0 - l.getD (2 ^ q - 1) 0 := wr (by omega) (by omega)
          obtain ⟨B, hBe⟩ : ∃ B, l.getD (dif (2 ^ q - 1) c) 0 - l.getD (2 ^ q - 1) 0 = B := ⟨_, rfl⟩
          rw [hBe] at hB0
          refine KW.lp rfl rfl (fun i : Nat => [(2, .pointer (some ⟨H.n, 0, some 0⟩)), (3, .pointer (some ⟨H.n + 1, 0, some 1⟩)), (4, .pointer (some ⟨H.n + 2, 0, some 2⟩)), (8, .int .u64 ((2 ^ q - 1 : Nat) : Int)), (9, .pointer (some ⟨n9, 0, some 3⟩)), (10, .int .u64 c), (11, .int .i64 (B + sumL l ((hold c 7).take i))), (50, .slice a5 (hold c 7).length c5), (51, .int .i64 (hold c 7).length), (52, .int .i64 i)]) (fun i => i ≤ (hold c 7).length) (fun i => (hold c 7).length - i) (0) (by omega) ⟨rfl, rfl, rfl, rfl, rfl, rfl, congrArg (Value.int .i64) (by rw [hBe, hB0]; simp [sumL]), rfl, rfl, rfl, trivial⟩ (fun i hi bE n => ?_)
          have hst := sumL_in hw ((hold c 7).take i)
          have hsl : ((hold c 7).take i).length ≤ 7 := by rw [List.length_take]; omega
          refine KW.cnd rfl rfl (fun k3 => ?gin2) (fun k3 => ?gout2)
          case gin2 =>
            refine KW.getI hG.ups rfl rfl rfl rfl rfl rfl rfl rfl rfl rfl rfl rfl rfl rfl rfl rfl (by omega) (k3) (fun z hz => ?_)
            have hz' : (hold c 7)[i]? = some z := hz
            obtain ⟨j, rfl, hj7, hjb⟩ := hold_mem (List.mem_of_getElem? hz')
            have hjq : j < q := by
              rcases Nat.lt_or_ge j q with h | h
              · exact h
              · rw [Nat.testBit_lt_two_pow (Nat.lt_of_lt_of_le (show c < 2 ^ q by omega) (Nat.pow_le_pow_right (by decide) h))] at hjb; cases hjb
            have hjl : 2 ^ j < l.length := by rw [hll]; exact Nat.pow_lt_pow_right (by decide) hjq
            refine KW.shlU rfl rfl rfl rfl rfl rfl j rfl (by omega) ?_
            refine KW.callE rfl rfl rfl rfl rfl (rank q u (2 ^ j) hjl s1.up) (fun _ _ => ?_)
            have hjr := getD_in hw (2 ^ j)
            have hsum := sumL_take (l := l) hz'
            simp only [Int.toNat_natCast] at hsum
            refine KW.nxt rfl rfl (fun H' g => ⟨i + 1, by omega, by first | omega | (simp only; omega), ⟨rfl, rfl, rfl, rfl, rfl, rfl, congrArg (Value.int .i64) (by rw [hsum, wr (by omega) (by omega)]; omega), rfl, rfl, congrArg (Value.int .i64) (inc64 (by omega)), trivial⟩, g⟩)
          case gout2 =>
            obtain rfl : i = (hold c 7).length := by omega
            have e7 : hold c 7 = hold c q := by
              have := hold_up (x := c) (m := q) (by omega) (7 - q)
              rw [show q + (7 - q) = 7 by omega] at this
              exact this
            have hS : sumL l ((hold c 7).take (hold c 7).length) = sumH l c q := by rw [List.take_of_length_le (Nat.le_refl _), e7, sumL_hold]
            rw [hS] at hst ⊢
            have hdu : dualAt l u gs q c = B + sumH l c q + uO u gs (dif (2 ^ q - 1) c) := by unfold dualAt; rw [hBe]
            have enx := range_map_succ' (dualAt l u gs q) c
            refine KW.callE rfl rfl rfl rfl rfl ((by show Spec _ _ _ _ [familyV q (.slice a2 gs.length c2), .int .u64 (IntKind.u64.wrap _)] _; rw [hXe]; exact opens hq7 q hXs hsm hb s2.up)) (fun _ _ => ?_)
            by_cases hO : Opens gs (dif (2 ^ q - 1) c)
            · rw [tv_true hO]
              refine KW.cF rfl rfl (by first | (simp; done) | decide) ?_
              have hv : B + sumH l c q = dualAt l u gs q c := by rw [hdu]; unfold uO; rw [tv_true hO]; simp
              rw [hv]
              first
                | (refine KW.app0 (v := .int .i64 (dualAt l u gs q c)) 4 rfl rfl rfl rfl rfl rfl rfl rfl rfl rfl rfl rfl rfl rfl rfl rfl rfl rfl rfl rfl rfl rfl (by decide) ?_
                   subst hc0
                   exact KW.nxt rfl rfl (fun H' g => ⟨(1, _, _), ⟨by simp only; omega, .inr ⟨by simp, _, rfl, rfl⟩⟩, by simp only; omega, ⟨rfl, rfl, rfl, rfl, rfl, rfl, trivial⟩, g.back⟩))
                | (refine KW.app1 (xs := (dualL l u gs q c).map (Value.int .i64)) (v := .int .i64 (dualAt l u gs q c)) 4 5 rfl rfl rfl rfl rfl rfl rfl rfl rfl rfl rfl rfl rfl rfl rfl rfl rfl rfl rfl rfl rfl rfl rfl (by simp) (by show (_ + 1) * 8 ≤ _; omega) (by omega) ?_
                   exact KW.nxt rfl rfl (fun H' g => ⟨(c + 1, _, _), ⟨by simp only; omega, .inr ⟨by simp, _, by simp only [dualL, enx, List.length_append, List.length_singleton]; rfl, by simp only [dualL, enx, List.map_append]; rfl⟩⟩, by simp only; omega, ⟨rfl, rfl, rfl, rfl, rfl, congrArg (Value.int .u64) (incu64 (by omega)), trivial⟩, g.back.eqT (by simp only [dualL, enx, List.map_append]; rfl)⟩))
            · rw [tv_false hO]
              refine KW.cT rfl rfl (by first | (simp; done) | decide) ?_
              have hv : IntKind.i64.wrap (B + sumH l c q + u) = dualAt l u gs q c := by rw [wr (by omega) (by omega), hdu]; unfold uO; rw [tv_false hO]; simp
              first
                | (refine KW.app0 (v := .int .i64 (IntKind.i64.wrap (B + sumH l c q + u))) 4 rfl rfl rfl rfl rfl rfl rfl rfl rfl rfl rfl rfl rfl rfl rfl rfl rfl rfl rfl rfl rfl rfl (by decide) ?_
                   rw [hv]
                   subst hc0
                   exact KW.nxt rfl rfl (fun H' g => ⟨(1, _, _), ⟨by simp only; omega, .inr ⟨by simp, _, rfl, rfl⟩⟩, by simp only; omega, ⟨rfl, rfl, rfl, rfl, rfl, rfl, trivial⟩, g.back⟩))
                | (refine KW.app1 (xs := (dualL l u gs q c).map (Value.int .i64)) (v := .int .i64 (IntKind.i64.wrap (B + sumH l c q + u))) 4 5 rfl rfl rfl rfl rfl rfl rfl rfl rfl rfl rfl rfl rfl rfl rfl rfl rfl rfl rfl rfl rfl rfl rfl (by simp) (by show (_ + 1) * 8 ≤ _; omega) (by omega) ?_
                   rw [hv]
                   exact KW.nxt rfl rfl (fun H' g => ⟨(c + 1, _, _), ⟨by simp only; omega, .inr ⟨by simp, _, by simp only [dualL, enx, List.length_append, List.length_singleton]; rfl, by simp only [dualL, enx, List.map_append]; rfl⟩⟩, by simp only; omega, ⟨rfl, rfl, rfl, rfl, rfl, congrArg (Value.int .u64) (incu64 (by omega)), trivial⟩, g.back.eqT (by simp only [dualL, enx, List.map_append]; rfl)⟩))
        case gout =>
          have k2 : ¬ (c : Int) ≤ ((2 ^ q - 1 : Nat) : Int) := k2
          have hcq : c = 2 ^ q := by omega
          first
            | (exfalso; omega)
            | (have hne : dualL l u gs q c ≠ [] := fun hx => by rw [hx] at hlen; simp at hlen; omega
               refine KW.callVp1 rfl rfl rfl rfl rfl (fun H1 g _ => maxI hne (by rw [hlen]; omega) (g.ints (j := 4) rfl rfl (Nat.le_refl _))) (fun v n8 m8 hv => ?_)
               obtain ⟨r, rfl, hr, hmax⟩ := hv
               subst hcq
               have e0 : (q : Int).toNat = q := by simp
               refine KW.cnd rfl rfl (fun k3 => ?_) (fun k3 => ?_)
               · have k3 : r > 100000 := k3
                 have hno : ¬ ∀ z ∈ dualL l u gs q (2 ^ q), z ≤ 100000 := fun hz => by have := hz r hr; omega
                 have e1 : r1_DualRanks (q, u, l) (q, gs) = 3 := by unfold r1_DualRanks; rw [if_pos hc, if_pos (tv_true hmis)]; simp only [e0]; rw [if_neg (by rw [tv_false hno]; decide)]
                 rw [show r0_DualRanks (q, u, l) (q, gs) = (0, 0, []) from by unfold r0_DualRanks; rw [e1]; rfl, e1]
                 refine KW.build rfl rfl rfl rfl rfl built_Ranks0 ?_
                 refine KW.retM1 rfl rfl rfl rfl (fun H1 g => ?_)
                 exact MkRC.nil rfl
               · have k3 : ¬ r > 100000 := k3
                 have hyes : ∀ z ∈ dualL l u gs q (2 ^ q), z ≤ 100000 := fun z hz => by have := hmax z hz; omega
                 have e1 : r1_DualRanks (q, u, l) (q, gs) = 0 := by unfold r1_DualRanks; rw [if_pos hc, if_pos (tv_true hmis)]; simp only [e0]; rw [if_pos (tv_true hyes)]
                 rw [show r0_DualRanks (q, u, l) (q, gs) = (↑q, u, dualL l u gs q (2 ^ q)) from by unfold r0_DualRanks; rw [e1]; simp only [if_true, e0], e1]
                 refine KW.retM1 rfl rfl rfl rfl (fun H1 g => ?_)
                 exact ⟨_, rfl, ranksM (int_ml ⟨g.ge (H1 := H) (j := 4) rfl, (g.blk (j := 4) rfl).2⟩ (g.blk (j := 4) rfl).1 rfl rfl (Nat.le_refl _))⟩)
    · rw [tv_false hmis]
      refine KW.cT rfl rfl (by first | (simp; done) | decide) ?_
      have e1 : r1_DualRanks (q, u, l) (q, gs) = 8 := by unfold r1_DualRanks; rw [if_pos hc, if_neg (by rw [tv_false hmis]; decide)]
      rw [show r0_DualRanks (q, u, l) (q, gs) = (0, 0, []) from by unfold r0_DualRanks; rw [e1]; rfl, e1]
      refine KW.build rfl rfl rfl rfl rfl (built_Ranks0) ?_
      refine KW.retM1 rfl rfl rfl rfl (fun H1 g => ?_)
      exact MkRC.nil rfl
  · rw [fits_no hc] at hfit
    refine KW.callE rfl rfl rfl rfl rfl (hfit) (fun _ _ => ?_)
    refine KW.cndB rfl rfl (fun k2 => ?_) (fun k2 => ?_)
    · have e1 : r1_DualRanks (m, u, l) (h', gs) = fitC m u l h' gs := by unfold r1_DualRanks; rw [if_neg hc]
      rw [show r0_DualRanks (m, u, l) (h', gs) = (0, 0, []) from by unfold r0_DualRanks; rw [e1, if_neg hc], e1]
      refine KW.build rfl rfl rfl rfl rfl (built_Ranks0) ?_
      refine KW.retM1 rfl rfl rfl rfl (fun H1 g => ?_)
      exact MkRC.nil rfl
    · exact absurd (by simpa using k2) hc
end
end Go.Proofs.Ytaepgfafbnjccaa.Am
/- Contracts: SequenceFor of the program. Each holds under its own conditions. -/
set_option linter.unusedVariables false
set_option linter.unusedSimpArgs false
set_option maxRecDepth 20000
namespace Go.Proofs.Ytaepgfafbnjccaa.Am
open Go Go.RowKit Go.Proofs
theorem Least.one {gs : List (List Int)} {k b x w w' : Nat} {ok ok' : Bool} (h : Least gs k b x w ok) (h' : Least gs k b x w' ok') : w = w' ∧ ok = ok' := by
  rcases h with ⟨rfl, h1, h2, h3⟩ | ⟨rfl, rfl, h1⟩ <;> rcases h' with ⟨rfl, k1, k2, k3⟩ | ⟨rfl, rfl, k1⟩
  · rcases Nat.lt_trichotomy w w' with h | h | h
    · exact absurd h2 (k3 w h)
    · exact ⟨h, rfl⟩
    · exact absurd k2 (h3 w' h)
  · exact absurd h2 (k1 w h1)
  · exact absurd k2 (h1 w' (by omega))
  · exact ⟨rfl, rfl⟩
/-- What stands before place i. -/
def bef (ns : List Nat) (i : Nat) : Nat := if i = 0 then 0 else ns.getD (i - 1) 0
open Classical in
noncomputable def leastW (gs : List (List Int)) (k b x : Nat) : Nat := if h : ∃ w, Least gs k b x w true then Classical.choose h else 0
theorem leastW_eq {gs : List (List Int)} {k b x w : Nat} (h : Least gs k b x w true) : leastW gs k b x = w := by
  unfold leastW
  have hx : ∃ w, Least gs k b x w true := ⟨w, h⟩
  rw [dif_pos hx]
  exact ((Classical.choose_spec hx).one h).1
/-- The chain may go on at place i. -/
def OkAt (gs : List (List Int)) (k : Nat) (ns : List Nat) (i : Nat) : Prop := Chd gs k (bef ns i) (ns.getD i 0) ∧ ∃ w, Least gs k (bef ns i) (ns.getD i 0) w true
abbrev nums (chain : List (List Int)) : List Nat := chain.map bitsOf
noncomputable def withAt (gs : List (List Int)) (k : Nat) (ns : List Nat) (i : Nat) : List Int := hold (leastW gs k (bef ns i) (ns.getD i 0)) 7
noncomputable def withs (gs : List (List Int)) (k : Nat) (ns : List Nat) (n : Nat) : List (List Int) := (List.range n).map (withAt gs k ns)
noncomputable def r1_SequenceFor (y : T_Family) (known : List Int) (chain : List (List Int)) : Int :=
  if codeF y.1 y.2 = 0 then (if tv (Rises 0 (y.1 - 1) known ∧ ∀ g ∈ chain, Rises 0 (y.1 - 1) g) = true then (if tv (∀ i, i < chain.length → OkAt y.2 (bitsOf known) (nums chain) i) = true then 0 else 8) else 2) else codeF y.1 y.2
noncomputable def r0_SequenceFor (y : T_Family) (known : List Int) (chain : List (List Int)) : T_Sequence := if r1_SequenceFor y known chain = 0 then (known, chain, withs y.2 (bitsOf known) (nums chain) chain.length) else ([], [], [])
def MkQC (r : T_Sequence) (code : Int) (n : Nat) (v : Value) (H1 : AH) : Prop := ∃ cs : List Value, v = .tuple #[.agg cs.toArray, .int .i64 code] ∧ M_Sequence.R (New n H1.n) H1 r cs
theorem nilM {X : Ids} {H : AH} {α : Type} {d : Kn α} : d.ml.R X H [] [.slice none 0 0] := ml1' (.inl ⟨rfl, _, _, rfl, fun _ => rfl⟩)
theorem seqNil {X : Ids} {H : AH} : M_Sequence.R X H ([], [], []) [.slice none 0 0, .slice none 0 0, .slice none 0 0] :=
  mpR (X := None_) (cs := [.slice none 0 0]) nilM (mpR (X := None_) (Y := None_) (cs := [.slice none 0 0]) nilM nilM (fun _ p => p.elim) (fun _ p => p.elim) (fun _ p _ => p.elim)) (fun _ p => p.elim) (fun _ p => p) (fun _ p _ => p.elim)
theorem MkQC.nil {code : Int} {n : Nat} {v : Value} {H1 : AH} (hv : v = .tuple #[.agg #[.slice none 0 0, .slice none 0 0, .slice none 0 0], .int .i64 code]) : MkQC ([], [], []) code n v H1 := ⟨_, hv, seqNil⟩
theorem built_Seq0 : Try.prog.built 71 [] = some #[.slice none 0 0, .slice none 0 0, .slice none 0 0] := by kernel_rfl
theorem built_Seq1 (a : Option Addr) (n c : Nat) : Try.prog.built 71 [(0, .slice a n c)] = some #[.slice a n c, .slice none 0 0, .slice none 0 0] := by kernel_rfl
theorem built_Seq3 (a1 : Option Addr) (n1 c1 : Nat) (a2 : Option Addr) (n2 c2 : Nat) (a3 : Option Addr) (n3 c3 : Nat) : Try.prog.built 71 [(0, .slice a1 n1 c1), (1, .slice a2 n2 c2), (2, .slice a3 n3 c3)] = some #[.slice a1 n1 c1, .slice a2 n2 c2, .slice a3 n3 c3] := by kernel_rfl
theorem sf_code {y : T_Family} {known : List Int} {chain : List (List Int)} (h : ¬ codeF y.1 y.2 = 0) : r1_SequenceFor y known chain = codeF y.1 y.2 ∧ r0_SequenceFor y known chain = ([], [], []) := by
  have e : r1_SequenceFor y known chain = codeF y.1 y.2 := by unfold r1_SequenceFor; rw [if_neg h]
  exact ⟨e, by unfold r0_SequenceFor; rw [e, if_neg h]⟩
theorem sf_range {y : T_Family} {known : List Int} {chain : List (List Int)} (h : codeF y.1 y.2 = 0) (h2 : ¬ (Rises 0 (y.1 - 1) known ∧ ∀ g ∈ chain, Rises 0 (y.1 - 1) g)) : r1_SequenceFor y known chain = 2 ∧ r0_SequenceFor y known chain = ([], [], []) := by
  have e : r1_SequenceFor y known chain = 2 := by unfold r1_SequenceFor; rw [if_pos h, if_neg (by rw [tv_false h2]; decide)]
  exact ⟨e, by unfold r0_SequenceFor; rw [e]; rfl⟩
theorem sf_proof {y : T_Family} {known : List Int} {chain : List (List Int)} (h : codeF y.1 y.2 = 0) (h2 : Rises 0 (y.1 - 1) known ∧ ∀ g ∈ chain, Rises 0 (y.1 - 1) g) (h3 : ¬ ∀ i, i < chain.length → OkAt y.2 (bitsOf known) (nums chain) i) : r1_SequenceFor y known chain = 8 ∧ r0_SequenceFor y known chain = ([], [], []) := by
  have e : r1_SequenceFor y known chain = 8 := by unfold r1_SequenceFor; rw [if_pos h, if_pos (tv_true h2), if_neg (by rw [tv_false h3]; decide)]
  exact ⟨e, by unfold r0_SequenceFor; rw [e]; rfl⟩
theorem sf_ok {y : T_Family} {known : List Int} {chain : List (List Int)} (h : codeF y.1 y.2 = 0) (h2 : Rises 0 (y.1 - 1) known ∧ ∀ g ∈ chain, Rises 0 (y.1 - 1) g) (h3 : ∀ i, i < chain.length → OkAt y.2 (bitsOf known) (nums chain) i) : r1_SequenceFor y known chain = 0 ∧ r0_SequenceFor y known chain = (known, chain, withs y.2 (bitsOf known) (nums chain) chain.length) := by
  have e : r1_SequenceFor y known chain = 0 := by unfold r1_SequenceFor; rw [if_pos h, if_pos (tv_true h2), if_pos (tv_true h3)]
  exact ⟨e, by unfold r0_SequenceFor; rw [e]; rfl⟩
theorem codeF_ok {m : Int} {gs : List (List Int)} (h : codeF m gs = 0) : FamOk m gs := by
  unfold codeF at h
  split at h
  · rename_i h1; exact tv_iff.1 h1
  · cases h
/-- The state of the loop. -/
structure SqS where
  i : Nat
  S : Ids
  A : AH
  l1 : Value
  l2 : Value
  tail : List Var
  V1 : Ids
  V2 : Ids
  c1 : List Value
  c2 : List Value
structure SqI (gs : List (List Int)) (k : Nat) (chain : List (List Int)) (SA : Ids) (HA : AH) (s : SqS) : Prop where
  le : s.i ≤ chain.length
  old : St SA HA s.S s.A
  b1 : RowsB KI.ml s.S s.A s.V1 (chain.take s.i) s.c1
  b2 : RowsB KI.ml s.S s.A s.V2 (withs gs k (nums chain) s.i) s.c2
  v1 : ∀ id, s.V1 id → HA.n ≤ id
  v2 : ∀ id, s.V2 id → HA.n ≤ id
  dis : ∀ id, s.V1 id → s.V2 id → False
  ok : ∀ j, j < s.i → OkAt gs k (nums chain) j
  form : (s.i = 0 ∧ s.l1 = .slice none 0 0 ∧ s.l2 = .slice none 0 0 ∧ s.tail = [] ∧ s.c1 = [] ∧ s.c2 = []) ∨ (0 < s.i ∧ ∃ o1 o2, s.l1 = .slice (some ⟨o1, 0, some 1⟩) s.i s.i ∧ s.l2 = .slice (some ⟨o2, 0, some 1⟩) s.i s.i ∧ s.tail = [(o1, ⟨22, true, s.c1⟩), (o2, ⟨22, true, s.c2⟩)])
theorem SqI.next {gs : List (List Int)} {k : Nat} {chain : List (List Int)} {SA : Ids} {HA : AH} {s : SqS} (h : SqI gs k chain SA HA s) {SC SG : Ids} {HC HG : AH} {n1 n2 : Nat} {y : List Int} {v1 v2 l1 l2 : Value} {tail : List Var} (t1 : St s.S s.A SC HC) (t2 : St SC HC SG HG) (w1 : On (New n1 HC.n) HC SC HC) (w2 : On (New n2 HG.n) HG SG HG) (low : ∀ id, s.S id → id < n1) (hn : HA.n ≤ n1) (hn2 : HC.n ≤ n2) (hn3 : n1 ≤ HC.n) (hy : chain[s.i]? = some y) (hc : KI.Ml (New n1 HC.n) HC v1 y) (hg : KI.Ml (New n2 HG.n) HG v2 (withAt gs k (nums chain) s.i)) (ok : OkAt gs k (nums chain) s.i)
    (form : 0 < s.i + 1 ∧ ∃ o1 o2, l1 = .slice (some ⟨o1, 0, some 1⟩) (s.i + 1) (s.i + 1) ∧ l2 = .slice (some ⟨o2, 0, some 1⟩) (s.i + 1) (s.i + 1) ∧ tail = [(o1, ⟨22, true, s.c1 ++ [v1]⟩), (o2, ⟨22, true, s.c2 ++ [v2]⟩)]) :
    SqI gs k chain SA HA ⟨s.i + 1, SG, HG, l1, l2, tail, fun id => s.V1 id ∨ New n1 HC.n id, fun id => s.V2 id ∨ New n2 HG.n id, s.c1 ++ [v1], s.c2 ++ [v2]⟩ := by
  obtain ⟨hil, rfl⟩ := List.getElem?_eq_some_iff.1 hy
  haveI o1 : On s.S s.A SC HC := ⟨t1⟩
  haveI o2 : On SC HC SG HG := ⟨t2⟩
  have et : chain.take (s.i + 1) = chain.take s.i ++ [chain[s.i]] := List.take_succ_eq_append_getElem hil
  have ew : withs gs k (nums chain) (s.i + 1) = withs gs k (nums chain) s.i ++ [withAt gs k (nums chain) s.i] := by unfold withs; rw [List.range_succ, List.map_append]; rfl
  have lowV1 : ∀ id, s.V1 id → id < n1 := fun id hid => low id (h.b1.sub id hid)
  have lowV2 : ∀ id, s.V2 id → id < n1 := fun id hid => low id (h.b2.sub id hid)
  have c2 : KI.ml.R (New n1 HC.n) HG chain[s.i] [v1] := ml1' (hc.same (fun id hid => (t2 id (w1.st id hid).1).2))
  refine ⟨by simp only; omega, (h.old.trans t1).trans t2, ?_, ?_, fun id hid => hid.elim (h.v1 id) (fun p => by have := p.1; omega), fun id hid => hid.elim (h.v2 id) (fun p => by have := p.1; omega), fun id p q => ?_, upto h.ok ok, .inr form⟩
  · simp only [et]
    exact ((h.b1.up (S' := SC) (A' := HC)).up (S' := SG) (A' := HG)).snoc c2 (fun id hid => (t2 id (w1.st id hid).1).1) (fun id p q => by have := lowV1 id p; have := q.1; omega)
  · simp only [ew]
    exact ((h.b2.up (S' := SC) (A' := HC)).up (S' := SG) (A' := HG)).snoc (ml1' hg) (fun id hid => (w2.st id hid).1) (fun id p q => by have := lowV2 id p; have := q.1; omega)
  · rcases p with p | p <;> rcases q with q | q
    · exact h.dis id p q
    · have := lowV1 id p; have := q.1; omega
    · have := lowV2 id q; have := p.1; omega
    · have := p.2; have := q.1; omega
theorem rises_lt {m : Int} {q : Nat} (hq : m = q) {g : List Int} (h : Rises 0 (m - 1) g) : ∀ x ∈ g, 0 ≤ x ∧ x < (q : Int) := fun x hx => by have := rises_mem h x hx; omega
theorem bits256 {q : Nat} (hq : q ≤ 8) {g : List Int} (h : ∀ x ∈ g, 0 ≤ x ∧ x < (q : Int)) : bitsOf g < 256 := by
  have h1 : bitsOf g < 2 ^ q := bitsOf_lt (fun x hx => by have := h x hx; omega)
  have := small_pow hq
  omega
section
variable {S : Ids} {H0 : AH}
theorem impl_SequenceFor {y : T_Family} {known : List Int} {chain : List (List Int)} {ds : List Value} {a1 c1 a2 c2} (hF : B_Family y) (hK : B_Int64S known) (hC : B_Int64SS chain) (h : K_Family.R S H0 y ds) (k : K_Int64S.R S H0 known [.slice a1 known.length c1]) (k' : K_Int64SS.R S H0 chain [.slice a2 chain.length c2]) :
    SpecM Try.prog S H0 44 [.agg ds.toArray, .slice a1 known.length c1, .slice a2 chain.length c2] (MkQC (r0_SequenceFor y known chain) (r1_SequenceFor y known chain)) := by
  obtain ⟨a3, c3, rfl, h1⟩ := split_Family h
  have s1 := sl1 h1
  have s2 := sl1 k
  have s3 := sl1 k'
  obtain ⟨m, gs⟩ := y
  simp only at s1 ⊢
  have hsm : Sml gs := hF.2
  have hkl : known.length ≤ 1048576 := hK
  have hcl := hC.len
  refine SpecM.of1 Try.func44 rfl (by kernel_rfl) rfl (fun H _ => ?_)
  refine KW.callE rfl rfl rfl rfl rfl (rankedCode m hsm s1.up) (fun n9 m9 => ?_)
  by_cases hc : codeF m gs = 0
  · rw [hc]
    have hf := codeF_ok hc
    have hm1 := hf.h1
    have hm7 := hf.h2
    obtain ⟨q, hq⟩ : ∃ q : Nat, m = q := ⟨m.toNat, by omega⟩
    have hb : Below' q gs := by have := hf.below; rw [hq] at this; simpa using this
    refine KW.tT rfl rfl (by first | (simp; done) | decide) ?_
    refine KW.lit rfl rfl rfl rfl rfl rfl rfl rfl rfl rfl [.slice a1 known.length c1] rfl rfl (fun v hv => by simp at hv; subst hv; rfl) rfl ?_
    refine KW.callV1 rfl rfl rfl rfl rfl (fun H1 g _ => areGroups m ⟨hm1, hm7⟩ (xs := [known]) (by simp) (fun z hz => by rw [List.mem_singleton.1 hz]; exact hkl) (g.row1 (j := 2) rfl s2.up (by simp))) (fun _ _ => ?_)
    by_cases hk1 : Rises 0 (m - 1) known
    · rw [tv_true (p := ∀ z ∈ [known], Rises 0 (m - 1) z) (fun z hz => by rw [List.mem_singleton.1 hz]; exact hk1)]
      refine KW.tF rfl rfl (by first | (simp; done) | decide) ?_
      refine KW.callE rfl rfl rfl rfl rfl (areGroups m ⟨hm1, hm7⟩ hcl hC.each s3.up) (fun _ _ => ?_)
      by_cases hk2 : ∀ g ∈ chain, Rises 0 (m - 1) g
      · rw [tv_true hk2]
        refine KW.cF rfl rfl (by first | (simp; done) | decide) ?_
        refine KW.cF rfl rfl (by first | (simp; done) | decide) ?_
        have hkb := rises_lt hq hk1
        have hkk := bits256 (q := q) (by omega) hkb
        refine KW.callE rfl rfl rfl rfl rfl (crowdOf (m := q) (by omega) (by omega) hkb s2.up) (fun _ _ => ?_)
        refine KW.callN1 rfl rfl rfl rfl rfl (cloneI hkl s2.up) (fun v HA SA mA _ _ hv => ?_)
        obtain ⟨a5, c5, rfl, hA⟩ := hv
        refine KW.build rfl rfl rfl rfl rfl (built_Seq1 _ _ _) ?_
        have e0 : bef (nums chain) 0 = 0 := rfl
        refine KW.lpM rfl rfl (fun s : SqS => [(3, .pointer (some ⟨H.n, 0, some 0⟩)), (6, .pointer (some ⟨H.n + 1, 0, some 1⟩)), (9, .int .u64 (bitsOf known : Nat)), (10, .int .u64 (bef (nums chain) s.i : Nat)), (11, .pointer (some ⟨HA.n, 0, some 3⟩)), (45, .slice a2 chain.length c2), (46, .int .i64 chain.length), (47, .int .i64 s.i)]) (fun s => s.S) (fun s => s.A) (fun s => [(H.n, ⟨51, true, [.int .i64 m, .slice a3 gs.length c3]⟩), (H.n + 1, ⟨71, true, [.slice none 0 0, .slice none 0 0, .slice none 0 0]⟩), (n9, ⟨22, true, [.slice a1 known.length c1]⟩), (HA.n, ⟨71, true, [.slice a5 known.length c5, s.l1, s.l2]⟩)] ++ s.tail) (fun s => SqI gs (bitsOf known) chain SA HA s) (fun s => chain.length - s.i) (⟨0, SA, HA, .slice none 0 0, .slice none 0 0, [], fun _ => False, fun _ => False, [], []⟩) (⟨Nat.zero_le _, fun id hid => ⟨hid, rfl⟩, RowsB.nil _ _, RowsB.nil _ _, fun _ h => h.elim, fun _ h => h.elim, fun _ h => h.elim, fun j h => absurd h (Nat.not_lt_zero _), .inl ⟨rfl, rfl, rfl, rfl, rfl, rfl⟩⟩) ⟨rfl, rfl, rfl, rfl, rfl, rfl, rfl, rfl, trivial⟩ rfl rfl rfl (fun s hi bE n => ?_)
        obtain ⟨i, S', A, l1, l2, tail, V1, V2, cs1, cs2⟩ := s
        obtain ⟨hile, hold', hb1, hb2, hv1, hv2, hdis, hok, hform⟩ := hi
        simp only at hile hold' hb1 hb2 hv1 hv2 hdis hok hform
        haveI : Stp SA HA S' A := ⟨hold'⟩
        have hinv : SqI gs (bitsOf known) chain SA HA ⟨i, S', A, l1, l2, tail, V1, V2, cs1, cs2⟩ := ⟨hile, hold', hb1, hb2, hv1, hv2, hdis, hok, hform⟩
        have hbf : bef (nums chain) i < 256 := by
          unfold bef
          split
          · omega
          · rename_i hi0
            rw [List.getD_eq_getElem?_getD]
            rcases Nat.lt_or_ge (i - 1) chain.length with hlt | hge
            · rw [List.getElem?_map, List.getElem?_eq_getElem hlt]
              exact bits256 (q := q) (by omega) (rises_lt hq (hk2 _ (List.getElem_mem hlt)))
            · rw [List.getElem?_eq_none (by simpa using hge)]; decide
        have hl1 := hb1.len
        have hl2 := hb2.len
        rw [List.length_take] at hl1
        have hl2' : cs2.length = i := by rw [hl2]; simp [withs]
        have hl1' : cs1.length = i := by omega
        rcases hform with ⟨hi0, e1, e2, e3, e4, e5⟩ | ⟨hi0, o1, o2, e1, e2, e3⟩
        case' inl => subst e1 e2 e3 e4 e5
        case' inr => subst e1 e2 e3
        all_goals
          refine KW.cnd rfl rfl (fun j1 => ?gin) (fun j1 => ?gout)
          case gin =>
            refine KW.getL s3.up rfl rfl rfl rfl rfl rfl rfl rfl rfl rfl rfl rfl rfl rfl rfl rfl (by omega) (j1) (fun y ay cy hy hsy => ?_)
            have hy : chain[i]? = some y := hy
            have hym := List.mem_of_getElem? hy
            have hyb := rises_lt hq (hk2 y hym)
            have hyx := bits256 (q := q) (by omega) hyb
            have hyl := hC.each y hym
            have hil := (List.getElem?_eq_some_iff.1 hy).1
            have hnx : (nums chain).getD i 0 = bitsOf y := by rw [List.getD_eq_getElem?_getD, List.getElem?_map, hy]; rfl
            have hnb : bef (nums chain) (i + 1) = bitsOf y := by unfold bef; rw [if_neg (by omega)]; simpa using hnx
            refine KW.callE rfl rfl rfl rfl rfl (crowdOf (m := q) (by omega) (by omega) hyb hsy) (fun _ _ => ?_)
            refine KW.call rfl rfl rfl rfl rfl (least (m := q) (by omega) m hkk hbf hyx hsm hb s1.up) (fun v _ _ hv => ?_)
            obtain ⟨w, ok, rfl, hlw⟩ := hv
            have bad : ¬ OkAt gs (bitsOf known) (nums chain) i → r1_SequenceFor (m, gs) known chain = 8 ∧ r0_SequenceFor (m, gs) known chain = ([], [], []) := fun hx => sf_proof (y := (m, gs)) hc ⟨hk1, hk2⟩ (fun hall => hx (hall i hil))
            cases ok with
            | false =>
              refine KW.tT rfl rfl (by first | (simp; done) | decide) ?_
              refine KW.cT rfl rfl (by first | (simp; done) | decide) ?_
              obtain ⟨e1, e0⟩ := bad (fun hx => by
                obtain ⟨_, w', hw'⟩ := hx
                rw [hnx] at hw'
                have := (hlw.one hw').2
                cases this)
              rw [e1, e0]
              refine KW.build rfl rfl rfl rfl rfl (built_Seq0) ?_
              refine KW.retM1 rfl rfl rfl rfl (fun H1 g => ?_)
              exact MkQC.nil rfl
            | true =>
              refine KW.tF rfl rfl (by first | (simp; done) | decide) ?_
              refine KW.callE rfl rfl rfl rfl rfl (chained (m := q) (by omega) m hkk hbf hyx hsm hb s1.up) (fun _ _ => ?_)
              by_cases hch : Chd gs (bitsOf known) (bef (nums chain) i) (bitsOf y)
              · rw [tv_true hch]
                refine KW.cF rfl rfl (by first | (simp; done) | decide) ?_
                have hoki : OkAt gs (bitsOf known) (nums chain) i := by unfold OkAt; rw [hnx]; exact ⟨hch, w, hlw⟩
                have hwk : w ≤ bitsOf known := by
                  rcases hlw with ⟨_, h, _⟩ | ⟨h, _⟩
                  · exact h
                  · cases h
                have hwa : withAt gs (bitsOf known) (nums chain) i = hold w 7 := by unfold withAt; rw [hnx, leastW_eq hlw]
                refine KW.ids (fun hlow hvar => ?_)
                have hnA := (hvar 3 HA.n _ rfl).1
                refine KW.callN1 rfl rfl rfl rfl rfl (cloneI hyl hsy) (fun v HC SC mC _ _ hv => ?_)
                obtain ⟨a7, c7, rfl, hCl⟩ := hv
                first
                  | (refine KW.app0 (v := .slice a7 y.length c7) 4 rfl rfl rfl rfl rfl rfl rfl rfl rfl rfl rfl rfl rfl rfl rfl rfl rfl rfl rfl rfl rfl rfl (by decide) ?_
                     refine KW.callN1 rfl rfl rfl rfl rfl (group (x := w) (by omega)) (fun v HG SG mG tG wG hv => ?_)
                     obtain ⟨a8, c8, rfl, hG⟩ := hv
                     rw [← hwa] at hG ⊢
                     refine KW.app0 (v := .slice a8 (withAt gs (bitsOf known) (nums chain) i).length c8) 5 rfl rfl rfl rfl rfl rfl rfl rfl rfl rfl rfl rfl rfl rfl rfl rfl rfl rfl rfl rfl rfl rfl (by decide) ?_
                     subst hi0
                     exact KW.nxt rfl rfl (fun H' g => ⟨_, hinv.next (inferInstance : Stp S' A SC HC).st tG.st inferInstance wG hlow (by omega) (by omega) mC hy hCl hG hoki ⟨by omega, _, _, rfl, rfl, rfl⟩, by simp only; omega, ⟨rfl, rfl, rfl, congrArg (Value.int .u64) (by rw [hnb]), rfl, rfl, rfl, rfl, trivial⟩, g⟩))
                  | (refine KW.app1 (xs := cs1) (v := .slice a7 y.length c7) 4 6 rfl rfl rfl rfl rfl rfl rfl rfl rfl rfl rfl rfl rfl rfl rfl rfl rfl rfl rfl rfl rfl rfl rfl hl1' (by show (_ + 1) * 24 ≤ _; omega) (by omega) ?_
                     refine KW.callN1 rfl rfl rfl rfl rfl (group (x := w) (by omega)) (fun v HG SG mG tG wG hv => ?_)
                     obtain ⟨a8, c8, rfl, hG⟩ := hv
                     rw [← hwa] at hG ⊢
                     refine KW.app1 (xs := cs2) (v := .slice a8 (withAt gs (bitsOf known) (nums chain) i).length c8) 5 6 rfl rfl rfl rfl rfl rfl rfl rfl rfl rfl rfl rfl rfl rfl rfl rfl rfl rfl rfl rfl rfl rfl rfl hl2' (by show (_ + 1) * 24 ≤ _; omega) (by omega) ?_
                     exact KW.nxt rfl rfl (fun H' g => ⟨_, hinv.next (inferInstance : Stp S' A SC HC).st tG.st inferInstance wG hlow (by omega) (by omega) mC hy hCl hG hoki ⟨by omega, _, _, rfl, rfl, rfl⟩, by simp only; omega, ⟨rfl, rfl, rfl, congrArg (Value.int .u64) (by rw [hnb]), rfl, rfl, rfl, congrArg (Value.int .i64) (inc64 (by omega)), trivial⟩, g⟩))
              · rw [tv_false hch]
                refine KW.cT rfl rfl (by first | (simp; done) | decide) ?_
                obtain ⟨e1, e0⟩ := bad (fun hx => by
                  have := hx.1
                  rw [hnx] at this
                  exact hch this)
                rw [e1, e0]
                refine KW.build rfl rfl rfl rfl rfl (built_Seq0) ?_
                refine KW.retM1 rfl rfl rfl rfl (fun H1 g => ?_)
                exact MkQC.nil rfl
          case gout =>
            have hin : i = chain.length := by have j1 : ¬ (i : Int) < chain.length := j1; omega
            obtain ⟨e1, e0⟩ := sf_ok (y := (m, gs)) (known := known) (chain := chain) hc ⟨hk1, hk2⟩ (fun j hj => hok j (by omega))
            rw [e1, e0]
            refine KW.retM1 rfl rfl rfl rfl (fun H1 g => ?_)
            subst hin
            rw [List.take_of_length_le (Nat.le_refl _)] at hb1
            have hA' : KI.Ml (New _ HA.n) H1 _ known := ml1 (g.keep (ml1' hA))
            first
              | (have hcn : chain = [] := List.eq_nil_of_length_eq_zero hi0
                 subst hcn
                 exact ⟨_, rfl, mpR (cs := [.slice a5 known.length c5]) (Y := None_) (ml1' hA') (mpR (X := None_) (Y := None_) (cs := [.slice none 0 0]) nilM nilM (fun _ p => p.elim) (fun _ p => p.elim) (fun _ p _ => p.elim)) (g.inn (H := HA) (fun _ p => by have := p.1; omega)) (fun _ p => p.elim) (fun _ _ p => p.elim)⟩)
              | (have hwl : (withs gs (bitsOf known) (nums chain) chain.length).length = chain.length := by simp [withs]
                 have m1 := hb1.ml (X := fun id => V1 id ∨ id = o1) rfl g (j := 4) rfl (.inr rfl) (fun _ p => .inl p)
                 have m2 := hb2.ml (X := fun id => V2 id ∨ id = o2) rfl g (j := 5) rfl (.inr rfl) (fun _ p => .inl p)
                 rw [hwl] at m2
                 have n1 := (g.vars 4 _ rfl).2
                 have n2 := (g.vars 5 _ rfl).2
                 have g1 := g.ge (H1 := H) (j := 4) rfl
                 have g2 := g.ge (H1 := H) (j := 5) rfl
                 have hne : o1 ≠ o2 := fun he => by have := g.dist 4 5 _ _ rfl rfl he; omega
                 have hgn := g.n_
                 refine ⟨_, rfl, mpR (cs := [.slice a5 known.length c5]) (Y := fun id => (V1 id ∨ id = o1) ∨ (V2 id ∨ id = o2)) (ml1' hA') (mpR (cs := [.slice (some ⟨o1, 0, some 1⟩) chain.length chain.length]) (ml1' m1) (ml1' m2) (fun _ p => .inl p) (fun _ p => .inr p) (fun id p r => ?_)) (g.inn (H := HA) (fun _ p => by have := p.1; omega)) (fun id p => ?_) (fun id p r => ?_)⟩
                 · rcases p with p | rfl <;> rcases r with r | rfl
                   · exact hdis id p r
                   · exact n2.2 (hb1.sub _ p)
                   · exact n1.2 (hb2.sub _ r)
                   · exact hne rfl
                 · rcases p with (p | rfl) | (p | rfl)
                   · exact ⟨by have := hv1 id p; omega, by have := (g.froz id (hb1.sub id p)).1; omega⟩
                   · exact ⟨g1, by have := n1.1; omega⟩
                   · exact ⟨by have := hv2 id p; omega, by have := (g.froz id (hb2.sub id p)).1; omega⟩
                   · exact ⟨g2, by have := n2.1; omega⟩
                 · have hpS := ((inferInstance : On (New _ HA.n) HA S' A).st id p).1
                   rcases r with (r | rfl) | (r | rfl)
                   · have := hv1 id r; have := p.2; omega
                   · exact n1.2 hpS
                   · have := hv2 id r; have := p.2; omega
                   · exact n2.2 hpS)
      · rw [tv_false hk2]
        refine KW.cT rfl rfl (by first | (simp; done) | decide) ?_
        refine KW.cT rfl rfl (by first | (simp; done) | decide) ?_
        obtain ⟨e1, e0⟩ := sf_range (y := (m, gs)) (known := known) (chain := chain) hc (fun hx => hk2 hx.2)
        rw [e1, e0]
        refine KW.build rfl rfl rfl rfl rfl (built_Seq0) ?_
        refine KW.retM1 rfl rfl rfl rfl (fun H1 g => ?_)
        exact MkQC.nil rfl
    · rw [tv_false (p := ∀ z ∈ [known], Rises 0 (m - 1) z) (fun hx => hk1 (hx known (by simp)))]
      refine KW.tT rfl rfl (by first | (simp; done) | decide) ?_
      refine KW.cT rfl rfl (by first | (simp; done) | decide) ?_
      refine KW.cT rfl rfl (by first | (simp; done) | decide) ?_
      obtain ⟨e1, e0⟩ := sf_range (y := (m, gs)) (known := known) (chain := chain) hc (fun hx => hk1 hx.1)
      rw [e1, e0]
      refine KW.build rfl rfl rfl rfl rfl (built_Seq0) ?_
      refine KW.retM1 rfl rfl rfl rfl (fun H1 g => ?_)
      exact MkQC.nil rfl
  · refine KW.tF rfl rfl (by simpa using hc) ?_
    refine KW.cF rfl rfl (by first | (simp; done) | decide) ?_
    refine KW.cT rfl rfl (by simpa using hc) ?_
    obtain ⟨e1, e0⟩ := sf_code (y := (m, gs)) (known := known) (chain := chain) hc
    rw [e1, e0]
    refine KW.build rfl rfl rfl rfl rfl (built_Seq0) ?_
    refine KW.retM1 rfl rfl rfl rfl (fun H1 g => ?_)
    exact MkQC.nil rfl
end
end Go.Proofs.Ytaepgfafbnjccaa.Am
/- Contracts: DualRanks of the reference. Each holds under its own conditions. -/
set_option linter.unusedVariables false
set_option linter.unusedSimpArgs false
set_option maxRecDepth 20000
namespace Go.Proofs.Ytaepgfafbnjccaa.Am
open Go Go.RowKit Go.Proofs
theorem tabO_get {gs : List (List Int)} {n q : Nat} {j : Int} (hj : j = (q : Int)) (h : q < n) {y : Bool} (hy : (tabO gs n)[j.toNat]? = some y) : y = tv (Opens gs q) := by
  subst hj
  exact tabO_at h (by simpa using hy)
theorem bit1 {x h : Nat} (hx : x < 4611686018427387904) : (IntKind.i64.wrap ((BitVec.ofInt IntKind.i64.bits ((x / 2 ^ h : Nat) : Int) &&& BitVec.ofInt IntKind.i64.bits ((1 : Nat) : Int)).toNat : Int) == ((1 : Nat) : Int)) = x.testBit h := by
  rw [and_i64 (Nat.lt_of_le_of_lt (Nat.div_le_self _ _) hx) (by decide), ← bit_is]
  generalize x / 2 ^ h &&& 1 = q
  by_cases e : q = 1
  · subst e; rfl
  · rw [show (q == 1) = false from by simpa using e]
    simp only [beq_eq_false_iff_ne, ne_eq]
    omega
section
variable {S : Ids} {H0 : AH}
theorem spec_DualRanks {x : T_Ranks} {y : T_Family} {cs ds : List Value} (hB : B_Ranks x) (hF : B_Family y) (h : K_Ranks.R S H0 x cs) (k : K_Family.R S H0 y ds) : SpecM Try.prog S H0 50 [.agg cs.toArray, .agg ds.toArray] (MkRC (r0_DualRanks x y) (r1_DualRanks x y)) := by
  obtain ⟨a1, c1, rfl, h1⟩ := split_Ranks h
  obtain ⟨a2, c2, rfl, k1⟩ := split_Family k
  have s1 := sl1 h1
  have s2 := sl1 k1
  obtain ⟨m, u, l⟩ := x
  obtain ⟨h', gs⟩ := y
  simp only at s1 s2 ⊢
  have hl : l.length ≤ 1048576 := hB.2.2
  have hsm : Sml gs := hF.2
  refine SpecM.of1 Try.func50 rfl (by kernel_rfl) rfl (fun H _ => ?_)
  refine KW.callV1 rfl rfl rfl rfl rfl (fun H1 g _ => l07Both m u h' hl hsm (g.blk (j := 0) rfl).2 (g.blk (j := 0) rfl).1 (g.blk (j := 1) rfl).2 (g.blk (j := 1) rfl).1 s1.up s2.up) (fun _ _ => ?_)
  by_cases hc : fitC m u l h' gs = 0
  · rw [hc]
    refine KW.cF rfl rfl (by first | (simp; done) | decide) ?_
    obtain ⟨ho, hf, rfl⟩ := fitC_zero hc
    have hcf : codeF m gs = 0 := by
      unfold fitC at hc
      rw [if_pos (tv_true ho)] at hc
      by_cases hz : codeF m gs = 0
      · exact hz
      · rw [if_neg hz] at hc; exact absurd hc hz
    obtain ⟨q, hq⟩ : ∃ q : Nat, m = q := ⟨m.toNat, by have := hf.h1; omega⟩
    have hop := (familyOpens hq hcf).2
    subst hq
    have hq7 : q ≤ 7 := by have := hf.h2; omega
    have hq5 : q ≤ 5 := by have := ho.1.2; omega
    have hp := small_pow (m := q) (by omega)
    have hpos := Nat.two_pow_pos q
    have hll : l.length = 2 ^ q := by have := ho.2.2.1; simpa using this
    have hw := ho.2.2.2.2.1
    have hu := ho.2.1
    have hb : Below' q gs := by simpa using hf.below
    refine KW.callNV1 rfl rfl rfl rfl rfl (fun H1 g _ => l07Open hq7 hsm hb (g.blk (j := 1) rfl).2 (g.blk (j := 1) rfl).1 s2.up) (fun v HO SO mO _ _ hv => ?_)
    obtain ⟨a3, c3, rfl, hO⟩ := hv
    have hO' := hO
    rw [← hll] at hO'
    refine KW.callVp1 rfl rfl rfl rfl rfl (fun H1 g _ => by show Spec _ _ _ _ [.pointer _, .slice a3 (tabO gs (2 ^ q)).length c3] _; rw [← hll]; exact l07Misfit u hq7 hu hll hw (g.blk (j := 0) rfl).2 (g.blk (j := 0) rfl).1 s1.up hO'.up) (fun v n9 m9 hv => ?_)
    obtain ⟨xa, xb, xf, rfl, hv⟩ := hv
    have hnone := hv.none_
    by_cases hmis : ∀ a, a < l.length → ∀ b, b < l.length → ¬ Mis l u gs a b
    · obtain rfl : xf = false := by rw [tv_true hmis] at hnone; simpa using hnone
      refine KW.cF rfl rfl (by first | (simp; done) | decide) ?_
      refine KW.build rfl rfl rfl rfl rfl (built_Ranks _ _) ?_
      have hA : 2 ^ q - 1 < l.length := by omega
      have htl : (tabO gs (2 ^ q)).length = 2 ^ q := tabO_len _ _
      have hAe : IntKind.i64.wrap (((tabO gs (2 ^ q)).length : Nat) - (1 : Int)) = ((2 ^ q - 1 : Nat) : Int) := by rw [htl, wr (by omega) (by omega)]; omega
      refine KW.lpM rfl rfl (fun s : Nat × Value × List Var => [(2, .pointer (some ⟨H.n, 0, some 0⟩)), (4, .pointer (some ⟨H.n + 2, 0, some 2⟩)), (7, .slice a3 (tabO gs (2 ^ q)).length c3), (11, .pointer (some ⟨n9, 0, some 3⟩)), (12, .int .i64 ((2 ^ q - 1 : Nat) : Int)), (13, .int .i64 s.1)]) (fun s => SO) (fun s => HO) (fun s => [(H.n, ⟨49, true, [.int .i64 q, .int .i64 u, .slice a1 l.length c1]⟩), (H.n + 1, ⟨51, true, [.int .i64 q, .slice a2 gs.length c2]⟩), (H.n + 2, ⟨49, true, [.int .i64 0, .int .i64 0, .slice none 0 0]⟩), (n9, ⟨49, true, [.int .i64 q, .int .i64 u, s.2.1]⟩)] ++ s.2.2) (fun s => s.1 ≤ 2 ^ q ∧ ((s.1 = 0 ∧ s.2.1 = .slice none 0 0 ∧ s.2.2 = []) ∨ (0 < s.1 ∧ ∃ o, s.2.1 = .slice (some ⟨o, 0, some 1⟩) (dualL l u gs q s.1).length (dualL l u gs q s.1).length ∧ s.2.2 = [(o, ⟨2, true, (dualL l u gs q s.1).map (Value.int .i64)⟩)]))) (fun s => 2 ^ q - s.1) ((0, .slice none 0 0, [])) (⟨by simp only; omega, .inl ⟨rfl, rfl, rfl⟩⟩) ⟨rfl, rfl, rfl, rfl, congrArg (Value.int .i64) hAe, rfl, trivial⟩ rfl rfl rfl (fun s hi bE n => ?_)
      obtain ⟨c, lv, tail⟩ := s
      obtain ⟨hi, hcase⟩ := hi
      simp only at hi hcase
      have hX : dif (2 ^ q - 1) c < l.length := by rw [hll]; exact dif_lt (by omega)
      have hXs : dif (2 ^ q - 1) c < 4611686018427387904 := by omega
      have hXe : IntKind.i64.wrap ((BitVec.ofInt IntKind.i64.bits ((2 ^ q - 1 : Nat) : Int) &&& ~~~BitVec.ofInt IntKind.i64.bits (c : Int)).toNat : Int) = ((dif (2 ^ q - 1) c : Nat) : Int) := andnot_i64 (by omega) (by omega)
      have r1 := getD_in hw (dif (2 ^ q - 1) c)
      have r2 := getD_in hw (2 ^ q - 1)
      have hsx := sumH_in hw c q
      have hlen := dualL_len l u gs q c
      have enx := range_map_succ' (dualAt l u gs q) c
      rcases hcase with ⟨hc0, rfl, rfl⟩ | ⟨hc0, o, rfl, rfl⟩
      all_goals
        refine KW.cnd rfl rfl (fun k2 => ?gin) (fun k2 => ?gout)
        case gin =>
          have k2 : (c : Int) ≤ ((2 ^ q - 1 : Nat) : Int) := k2
          refine KW.getI s1.up rfl rfl rfl rfl rfl rfl rfl rfl rfl rfl rfl rfl rfl rfl rfl rfl (by rw [hXe]; omega) (by rw [hXe]; omega) (fun z1 hz1 => ?_)
          rw [hXe] at hz1
          have hz1 : l.getD (dif (2 ^ q - 1) c) 0 = z1 := getD_of hz1
          refine KW.getI s1.up rfl rfl rfl rfl rfl rfl rfl rfl rfl rfl rfl rfl rfl rfl rfl rfl (by omega) (by omega) (fun z2 hz2 => ?_)
          have hz2 : l.getD (2 ^ q - 1) 0 = z2 := getD_of hz2
          have hB0 : IntKind.i64.wrap (z1 - z2) = z1 - z2 := wr (by omega) (by omega)
          refine KW.getB hO.up rfl rfl rfl rfl rfl rfl rfl rfl rfl rfl rfl rfl rfl rfl rfl rfl (by rw [hXe]; omega) (by rw [hXe, htl]; omega) (fun y hy => ?_)
          obtain rfl := tabO_get hXe (by omega) hy
          have hdu : dualAt l u gs q c = (z1 - z2) + sumH l c q + uO u gs (dif (2 ^ q - 1) c) := by unfold dualAt; rw [hz1, hz2]
          -- the base with the unit
          have base : ∃ B : Int, B = (z1 - z2) + uO u gs (dif (2 ^ q - 1) c) := ⟨_, rfl⟩
          obtain ⟨B, hBe⟩ := base
          have hBin : -100000 ≤ B ∧ B ≤ 200000 := by
            rw [hBe]; unfold uO
            split <;> omega
          have hdu : dualAt l u gs q c = B + sumH l c q := by rw [hdu, hBe]; omega
          by_cases hOp : Opens gs (dif (2 ^ q - 1) c)
          case' pos =>
            rw [tv_true hOp]
            refine KW.cF rfl rfl (by first | (simp; done) | decide) ?_
            have hBv : IntKind.i64.wrap (z1 - z2) = B := by rw [hB0, hBe]; unfold uO; rw [tv_true hOp]; simp
          case' neg =>
            rw [tv_false hOp]
            refine KW.cT rfl rfl (by first | (simp; done) | decide) ?_
            have hBv : IntKind.i64.wrap (IntKind.i64.wrap (z1 - z2) + u) = B := by rw [hB0, wr (by omega) (by omega), hBe]; unfold uO; rw [tv_false hOp]; simp
          all_goals
            refine KW.lp rfl rfl (fun i : Nat => [(2, .pointer (some ⟨H.n, 0, some 0⟩)), (4, .pointer (some ⟨H.n + 2, 0, some 2⟩)), (7, .slice a3 (tabO gs (2 ^ q)).length c3), (11, .pointer (some ⟨n9, 0, some 3⟩)), (12, .int .i64 ((2 ^ q - 1 : Nat) : Int)), (13, .int .i64 c), (14, .int .i64 (B + sumH l c i)), (15, .int .i64 i)]) (fun i => i ≤ q) (fun i => q - i) (0) (by omega) ⟨rfl, rfl, rfl, rfl, rfl, rfl, congrArg (Value.int .i64) (by rw [hBv]; simp [sumH]), rfl, trivial⟩ (fun i hi bE n => ?_)
            have hst := sumH_in hw c i
            refine KW.cnd rfl rfl (fun k3 => ?gin2) (fun k3 => ?gout2)
            case gin2 =>
              have k3 : (i : Int) < q := k3
              refine KW.shr rfl rfl rfl rfl rfl rfl rfl c i rfl (wru (by omega) (by omega)) (by omega) ?_
              have hil : 2 ^ i < l.length := by rw [hll]; exact Nat.pow_lt_pow_right (by decide) (by omega)
              have hir := getD_in hw (2 ^ i)
              have hb1 := bit1 (x := c) (h := i) (by omega)
              refine KW.cndB rfl rfl (fun k4 => ?_) (fun k4 => ?_)
              · have k4 : c.testBit i = true := hb1.symm.trans k4
                refine KW.shlI rfl rfl rfl rfl rfl rfl i (wru (by omega) (by omega)) (by omega) ?_
                refine KW.getI s1.up rfl rfl rfl rfl rfl rfl rfl rfl rfl rfl rfl rfl rfl rfl rfl rfl (Int.natCast_nonneg _) (Int.ofNat_lt.2 hil) (fun w hw' => ?_)
                rw [Int.toNat_natCast] at hw'
                have hw' : l.getD (2 ^ i) 0 = w := getD_of hw'
                have hs1 : sumH l c (i + 1) = sumH l c i + w := by simp only [sumH, if_pos k4, hw']
                refine KW.nxt rfl rfl (fun H' g => ⟨i + 1, by omega, by first | omega | (simp only; omega), ⟨rfl, rfl, rfl, rfl, rfl, rfl, congrArg (Value.int .i64) (by rw [hs1, wr (by omega) (by omega)]; omega), congrArg (Value.int .i64) (inc64 (by omega)), trivial⟩, g⟩)
              · have k4 : c.testBit i = false := hb1.symm.trans k4
                have hs1 : sumH l c (i + 1) = sumH l c i := by simp only [sumH, k4]; simp
                refine KW.nxt rfl rfl (fun H' g => ⟨i + 1, by omega, by first | omega | (simp only; omega), ⟨rfl, rfl, rfl, rfl, rfl, rfl, congrArg (Value.int .i64) (by rw [hs1]), congrArg (Value.int .i64) (inc64 (by omega)), trivial⟩, g⟩)
            case gout2 =>
              obtain rfl : i = q := by have k3 : ¬ (i : Int) < q := k3; omega
              rw [← hdu]
              first
                | (refine KW.app0 (v := .int .i64 (dualAt l u gs i c)) 4 rfl rfl rfl rfl rfl rfl rfl rfl rfl rfl rfl rfl rfl rfl rfl rfl rfl rfl rfl rfl rfl rfl (by decide) ?_
                   subst hc0
                   exact KW.nxt rfl rfl (fun H' g => ⟨(1, _, _), ⟨by simp only; omega, .inr ⟨by simp, _, rfl, rfl⟩⟩, by simp only; omega, ⟨rfl, rfl, rfl, rfl, rfl, rfl, trivial⟩, g⟩))
                | (refine KW.app1 (xs := (dualL l u gs i c).map (Value.int .i64)) (v := .int .i64 (dualAt l u gs i c)) 4 5 rfl rfl rfl rfl rfl rfl rfl rfl rfl rfl rfl rfl rfl rfl rfl rfl rfl rfl rfl rfl rfl rfl rfl (by simp) (by show (_ + 1) * 8 ≤ _; omega) (by omega) ?_
                   exact KW.nxt rfl rfl (fun H' g => ⟨(c + 1, _, _), ⟨by simp only; omega, .inr ⟨by simp, _, by simp only [dualL, enx, List.length_append, List.length_singleton]; rfl, by simp only [dualL, enx, List.map_append]; rfl⟩⟩, by simp only; omega, ⟨rfl, rfl, rfl, rfl, rfl, congrArg (Value.int .i64) (inc64 (by omega)), trivial⟩, g.eqT (by simp only [dualL, enx, List.map_append]; rfl)⟩))
        case gout =>
          have k2 : ¬ (c : Int) ≤ ((2 ^ q - 1 : Nat) : Int) := k2
          have hcq : c = 2 ^ q := by omega
          first
            | (exfalso; omega)
            | (subst hcq
               refine KW.callV1 rfl rfl rfl rfl rfl (fun H1 g _ => l07Ok q u (by rw [hlen]; omega) (g.blk (j := 3) rfl).2 (g.blk (j := 3) rfl).1 (g.ints (j := 4) rfl rfl (Nat.le_refl _))) (fun _ _ => ?_)
               have e0 : (q : Int).toNat = q := by simp
               have hdk := dual_ok ho hop hmis
               by_cases hall : ∀ z ∈ dualL l u gs q (2 ^ q), z ≤ 100000
               · rw [tv_true (hdk.2 hall)]
                 refine KW.cF rfl rfl rfl ?_
                 have e1 : r1_DualRanks (q, u, l) (q, gs) = 0 := by unfold r1_DualRanks; rw [if_pos hc, if_pos (tv_true hmis)]; simp only [e0]; rw [if_pos (tv_true hall)]
                 rw [show r0_DualRanks (q, u, l) (q, gs) = (↑q, u, dualL l u gs q (2 ^ q)) from by unfold r0_DualRanks; rw [e1]; simp only [if_true, e0], e1]
                 refine KW.retM1 rfl rfl rfl rfl (fun H1 g => ?_)
                 exact ⟨_, rfl, ranksM (int_ml ⟨g.ge (H1 := H) (j := 4) rfl, (g.blk (j := 4) rfl).2⟩ (g.blk (j := 4) rfl).1 rfl rfl (Nat.le_refl _))⟩
               · rw [tv_false (fun hx => hall (hdk.1 hx))]
                 refine KW.cT rfl rfl rfl ?_
                 have e1 : r1_DualRanks (q, u, l) (q, gs) = 3 := by unfold r1_DualRanks; rw [if_pos hc, if_pos (tv_true hmis)]; simp only [e0]; rw [if_neg (by rw [tv_false hall]; decide)]
                 rw [show r0_DualRanks (q, u, l) (q, gs) = (0, 0, []) from by unfold r0_DualRanks; rw [e1]; rfl, e1]
                 refine KW.build rfl rfl rfl rfl rfl built_Ranks0 ?_
                 refine KW.retM1 rfl rfl rfl rfl (fun H1 g => ?_)
                 exact MkRC.nil rfl)
    · obtain rfl : xf = true := by rw [tv_false hmis] at hnone; simpa using hnone
      refine KW.cT rfl rfl (by first | (simp; done) | decide) ?_
      have e1 : r1_DualRanks (q, u, l) (q, gs) = 8 := by unfold r1_DualRanks; rw [if_pos hc, if_neg (by rw [tv_false hmis]; decide)]
      rw [show r0_DualRanks (q, u, l) (q, gs) = (0, 0, []) from by unfold r0_DualRanks; rw [e1]; rfl, e1]
      refine KW.build rfl rfl rfl rfl rfl (built_Ranks0) ?_
      refine KW.retM1 rfl rfl rfl rfl (fun H1 g => ?_)
      exact MkRC.nil rfl
  · refine KW.cndB rfl rfl (fun k2 => ?_) (fun k2 => ?_)
    · have e1 : r1_DualRanks (m, u, l) (h', gs) = fitC m u l h' gs := by unfold r1_DualRanks; rw [if_neg hc]
      rw [show r0_DualRanks (m, u, l) (h', gs) = (0, 0, []) from by unfold r0_DualRanks; rw [e1, if_neg hc], e1]
      refine KW.build rfl rfl rfl rfl rfl (built_Ranks0) ?_
      refine KW.retM1 rfl rfl rfl rfl (fun H1 g => ?_)
      exact MkRC.nil rfl
    · exact absurd (by simpa using k2) hc
theorem bound_DualRanks {x : T_Ranks} {y : T_Family} (hB : B_Ranks x) (hF : B_Family y) : B_Ranks (r0_DualRanks x y) := by
  unfold r0_DualRanks
  split
  · rename_i h
    refine ⟨hB.1, hB.2.1, ?_⟩
    show (dualL _ _ _ _ _).length ≤ 1048576
    rw [dualL_len]
    have h0 : fitC x.1 x.2.1 x.2.2 y.1 y.2 = 0 := by
      unfold r1_DualRanks at h
      by_cases hc : fitC x.1 x.2.1 x.2.2 y.1 y.2 = 0
      · exact hc
      · rw [if_neg hc] at h; exact h
    have h1 := (fitC_zero h0).1
    rw [← h1.2.2.1]
    exact hB.2.2
  · exact ⟨by unfold I64; simp, by unfold I64; simp, by show 0 ≤ _; omega⟩
end
end Go.Proofs.Ytaepgfafbnjccaa.Am
/- Contracts: SequenceFor of the reference. Each holds under its own conditions. -/
set_option linter.unusedVariables false
set_option linter.unusedSimpArgs false
set_option maxRecDepth 20000
namespace Go.Proofs.Ytaepgfafbnjccaa.Am
open Go Go.RowKit Go.Proofs
abbrev numsI (chain : List (List Int)) : List Int := chain.map fun g => ((bitsOf g : Nat) : Int)
theorem numsI_at {chain : List (List Int)} {i : Nat} (h : i < chain.length) : (numsI chain)[i]? = some (((nums chain).getD i 0 : Nat) : Int) := by
  rw [List.getElem?_map, List.getElem?_eq_getElem h, List.getD_eq_getElem?_getD, List.getElem?_map, List.getElem?_eq_getElem h]; rfl
/-- The chain rises, apart from what is known, and its last set does not open. -/
def ChainAt (k : Nat) (ns : List Nat) (i : Nat) : Prop := ns.getD i 0 ≠ bef ns i ∧ ns.getD i 0 &&& bef ns i = bef ns i ∧ ns.getD i 0 &&& k = 0
def ChainC (gs : List (List Int)) (k : Nat) (ns : List Nat) (n : Nat) : Prop := (∀ i, i < n → ChainAt k ns i) ∧ ¬ Opens gs (bef ns n)
theorem bef_succ (ns : List Nat) (i : Nat) : bef ns (i + 1) = ns.getD i 0 := by unfold bef; rw [if_neg (by omega)]; rfl
theorem bef_lt {q : Nat} {ns : List Nat} (h : ∀ i, i < ns.length → ns.getD i 0 < 2 ^ q) (i : Nat) (hi : i ≤ ns.length) : bef ns i < 2 ^ q := by
  unfold bef
  split
  · exact Nat.two_pow_pos q
  · exact h _ (by omega)
section
variable {S : Ids} {H0 : AH}
theorem l07Group (m : Int) (hm : 1 ≤ m ∧ m ≤ 7) {id : Nat} (hv : Has3 S H0 id 0 [.int .i64 m]) {a c} {xs : List Int} (hl : xs.length ≤ 1048576) (hs : KI.Sl S H0 (.slice a xs.length c) xs) : Spec Try.prog S H0 93 [.pointer (some ⟨id, 0, none⟩), .slice a xs.length c] (fun v => v = .bool (tv (Rises 0 (m - 1) xs))) := by
  refine Spec.of1 Try.func93 rfl (by kernel_rfl) rfl (fun H _ => ?_)
  have hv := hv.up (S' := Low H.n) (H' := H)
  refine KW.ldF 0 hv rfl rfl rfl rfl rfl rfl rfl rfl rfl ?_
  have e : IntKind.i64.wrap (m - 1) = m - 1 := wr (by omega) (by omega)
  refine KW.callE rfl rfl rfl rfl rfl ((by show Spec _ _ _ _ [.slice a xs.length c, .int .i64 0, .int .i64 (IntKind.i64.wrap _)] _; rw [e]; exact l00Rises _ _ hl hs.up)) (fun _ _ => ?_)
  exact KW.ret rfl rfl rfl rfl (rfl)
theorem l07Groups (m : Int) (hm : 1 ≤ m ∧ m ≤ 7) {id : Nat} (hv : Has3 S H0 id 0 [.int .i64 m]) {a c} {xs : List (List Int)} (hB : B_Int64SS xs) (hs : KI.sl.Sl S H0 (.slice a xs.length c) xs) : Spec Try.prog S H0 94 [.pointer (some ⟨id, 0, none⟩), .slice a xs.length c] (fun v => v = .bool (tv (∀ g ∈ xs, Rises 0 (m - 1) g))) := by
  refine Spec.of1 Try.func94 rfl (by kernel_rfl) rfl (fun H _ => ?_)
  have hv := hv.up (S' := Low H.n) (H' := H)
  have hl := hB.len
  refine KW.lp rfl rfl (fun i : Nat => [(0, .pointer (some ⟨id, 0, none⟩)), (1, .slice a xs.length c), (5, .int .i64 i)]) (fun i => i ≤ xs.length ∧ ∀ j, j < i → ∀ x, xs[j]? = some x → Rises 0 (m - 1) x) (fun i => xs.length - i) (0) (⟨by omega, fun j h => absurd h (by omega)⟩) ⟨rfl, rfl, rfl, trivial⟩ (fun i hi bE n => ?_)
  obtain ⟨hi, hj⟩ := hi
  refine KW.cnd rfl rfl (fun k1 => ?_) (fun k1 => ?_)
  · refine KW.getL hs.up rfl rfl rfl rfl rfl rfl rfl rfl rfl rfl rfl rfl rfl rfl rfl rfl (by omega) (k1) (fun y ay cy hy hsy => ?_)
    have hy : xs[i]? = some y := hy
    have hym := List.mem_of_getElem? hy
    refine KW.callE rfl rfl rfl rfl rfl (l07Group m hm hv (hB.each y hym) hsy) (fun _ _ => ?_)
    refine KW.cndB rfl rfl (fun k2 => ?_) (fun k2 => ?_)
    · exact KW.ret rfl rfl rfl rfl (by rw [tv_false (p := ∀ g ∈ xs, Rises 0 (m - 1) g) (fun hx => by rw [tv_true (hx y hym)] at k2; cases k2)]; rfl)
    have k2 := tv_iff.1 (by simpa using k2)
    refine KW.nxt rfl rfl (fun H' g => ⟨i + 1, ⟨by omega, upto hj (fun x hx => by rw [hy] at hx; cases hx; exact k2)⟩, by first | omega | (simp only; omega), ⟨rfl, rfl, congrArg (Value.int .i64) (inc64 (by omega)), trivial⟩, g⟩)
  · exact KW.ret rfl rfl rfl rfl (by rw [tv_true (p := ∀ g ∈ xs, Rises 0 (m - 1) g) (all_of (fun j hjl => hj j (by omega)))]; rfl)
theorem l07Numbers {q : Nat} (hq : q ≤ 8) {a c} {xs : List (List Int)} (hB : B_Int64SS xs) (hx : ∀ g ∈ xs, ∀ z ∈ g, 0 ≤ z ∧ z < (q : Int)) (hs : KI.sl.Sl S H0 (.slice a xs.length c) xs) : SpecM Try.prog S H0 96 [.slice a xs.length c] (MkL (numsI xs)) := by
  refine SpecM.of1 Try.func96 rfl (by kernel_rfl) rfl (fun H _ => ?_)
  have hl := hB.len
  refine KW.lit rfl rfl rfl rfl rfl rfl rfl rfl rfl rfl [] rfl rfl (fun v hv => by simp at hv) rfl ?_
  refine KW.lpM rfl rfl (fun s : Nat × Nat => [(0, .slice a xs.length c), (3, .slice (some ⟨s.2, 0, some 1⟩) (numsI (xs.take s.1)).length (numsI (xs.take s.1)).length), (4, .int .i64 s.1)]) (fun s => Low H.n) (fun s => H) (fun s => [(s.2, ⟨_, true, (numsI (xs.take s.1)).map (Value.int .i64)⟩)]) (fun s => s.1 ≤ xs.length) (fun s => xs.length - s.1) ((0, _)) (by simp) ⟨rfl, rfl, rfl, trivial⟩ rfl rfl rfl (fun s hi bE n => ?_)
  obtain ⟨i, o⟩ := s
  simp only at hi
  have hil : (numsI (xs.take i)).length ≤ i := by rw [List.length_map, List.length_take]; omega
  refine KW.cnd rfl rfl (fun k1 => ?_) (fun k1 => ?_)
  · refine KW.getL hs.up rfl rfl rfl rfl rfl rfl rfl rfl rfl rfl rfl rfl rfl rfl rfl rfl (by omega) (k1) (fun y ay cy hy hsy => ?_)
    have hy : xs[i]? = some y := hy
    have hym := List.mem_of_getElem? hy
    refine KW.callE rfl rfl rfl rfl rfl (l07Bits (m := q) hq (by have := hB.each y hym; omega) (hx y hym) hsy) (fun _ _ => ?_)
    have e := map_take_succ (fun g : List Int => ((bitsOf g : Nat) : Int)) hy
    refine KW.app1 (xs := (numsI (xs.take i)).map (Value.int .i64)) (v := .int .i64 (bitsOf y : Nat)) 0 1 rfl rfl rfl rfl rfl rfl rfl rfl rfl rfl rfl rfl rfl rfl rfl rfl rfl rfl rfl rfl rfl rfl rfl (by simp) (by show (_ + 1) * 8 ≤ _; first | omega | (simp only; omega)) (by first | omega | (simp only; omega)) ?_
    refine KW.nxt rfl rfl (fun H' g => ⟨(i + 1, _), by simp only; omega, by first | omega | (simp only; omega), ⟨rfl, by simp only [e, List.length_append, List.length_singleton]; rfl, congrArg (Value.int .i64) (inc64 (by omega)), trivial⟩, g.eqT (by simp only [e, List.map_append]; rfl)⟩)
  · obtain rfl : i = xs.length := by simp only at k1; omega
    rw [List.take_of_length_le (Nat.le_refl _)]
    refine KW.retM1 rfl rfl rfl rfl (fun H1 g => MkL.of g (j := 0) rfl (g.ge (H1 := H) (j := 0) rfl))
theorem l07Chain {q k : Nat} (hq : q ≤ 7) (hk : k < 2 ^ q) {gs chain : List (List Int)} (hl : chain.length ≤ 1048576) (hn : ∀ i, i < chain.length → (nums chain).getD i 0 < 2 ^ q) {a c a' c'} (ho : Kn.bool.Sl S H0 (.slice a (tabO gs (2 ^ q)).length c) (tabO gs (2 ^ q))) (hs : KI.Sl S H0 (.slice a' (numsI chain).length c') (numsI chain)) :
    Spec Try.prog S H0 97 [.slice a (tabO gs (2 ^ q)).length c, .int .i64 k, .slice a' (numsI chain).length c'] (fun v => v = .bool (tv (ChainC gs k (nums chain) chain.length))) := by
  refine Spec.of1 Try.func97 rfl (by kernel_rfl) rfl (fun H _ => ?_)
  have hp := small_pow (m := q) (by omega)
  have htl : (tabO gs (2 ^ q)).length = 2 ^ q := tabO_len _ _
  have hnl : (numsI chain).length = chain.length := by simp
  have hnl' : (nums chain).length = chain.length := by simp
  refine KW.lp rfl rfl (fun i : Nat => [(0, .slice a (tabO gs (2 ^ q)).length c), (1, .int .i64 k), (2, .slice a' (numsI chain).length c'), (7, .int .i64 (bef (nums chain) i : Nat)), (8, .int .i64 i)]) (fun i => i ≤ chain.length ∧ ∀ j, j < i → ChainAt k (nums chain) j) (fun i => chain.length - i) (0) (⟨by omega, fun j h => absurd h (by omega)⟩) ⟨rfl, rfl, rfl, rfl, rfl, trivial⟩ (fun i hi bE n => ?_)
  obtain ⟨hi, hj⟩ := hi
  have hb := bef_lt (q := q) (ns := nums chain) (fun i h => hn i (by omega)) i (by omega)
  refine KW.cnd rfl rfl (fun k1 => ?_) (fun k1 => ?_)
  · have k1 : (i : Int) < (numsI chain).length := k1
    have hx := numsI_at (chain := chain) (i := i) (by omega)
    have hxl := hn i (by omega)
    obtain ⟨x, hxe⟩ : ∃ x, (nums chain).getD i 0 = x := ⟨_, rfl⟩
    obtain ⟨b, hbe⟩ : ∃ b, bef (nums chain) i = b := ⟨_, rfl⟩
    rw [hxe] at hx hxl
    rw [hbe] at hb
    have bad : ¬ ChainAt k (nums chain) i → aout [Value.bool false] = .bool (tv (ChainC gs k (nums chain) chain.length)) := fun hc => by rw [tv_false (p := ChainC gs k (nums chain) chain.length) (fun hh => hc (hh.1 i (by omega)))]; rfl
    have e1 := and_i64 (a := x) (b := b) (by omega) (by omega)
    have e2 := and_i64 (a := x) (b := k) (by omega) (by omega)
    rw [hbe]
    refine KW.getI hs.up rfl rfl rfl rfl rfl rfl rfl rfl rfl rfl rfl rfl rfl rfl rfl rfl (by omega) (k1) (fun z1 hz1 => ?_)
    have hz1 : (numsI chain)[i]? = some z1 := hz1
    obtain rfl : ((x : Nat) : Int) = z1 := by rw [hx] at hz1; simpa using hz1
    refine KW.tstB rfl rfl (fun k2 => ?_) (fun k2 => ?_)
    · repeat first | refine KW.tT rfl rfl rfl ?_ | refine KW.tF rfl rfl rfl ?_
      first | refine KW.cT rfl rfl rfl ?_ | refine KW.cF rfl rfl rfl ?_
      exact KW.ret rfl rfl rfl rfl (bad (fun hc => by have := hc.1; rw [hxe, hbe] at this; simp at k2; omega))
    have k2 : x ≠ b := by simp at k2; omega
    refine KW.getI hs.up rfl rfl rfl rfl rfl rfl rfl rfl rfl rfl rfl rfl rfl rfl rfl rfl (by omega) (k1) (fun z2 hz2 => ?_)
    have hz2 : (numsI chain)[i]? = some z2 := hz2
    obtain rfl : ((x : Nat) : Int) = z2 := by rw [hx] at hz2; simpa using hz2
    refine KW.tstB rfl rfl (fun k3 => ?_) (fun k3 => ?_)
    · rw [e1] at k3
      repeat first | refine KW.tT rfl rfl rfl ?_ | refine KW.tF rfl rfl rfl ?_
      first | refine KW.cT rfl rfl rfl ?_ | refine KW.cF rfl rfl rfl ?_
      exact KW.ret rfl rfl rfl rfl (bad (fun hc => by have := hc.2.1; rw [hxe, hbe] at this; rw [this] at k3; simp at k3))
    rw [e1] at k3
    have k3 : x &&& b = b := by simp at k3; omega
    refine KW.getI hs.up rfl rfl rfl rfl rfl rfl rfl rfl rfl rfl rfl rfl rfl rfl rfl rfl (by omega) (k1) (fun z3 hz3 => ?_)
    have hz3 : (numsI chain)[i]? = some z3 := hz3
    obtain rfl : ((x : Nat) : Int) = z3 := by rw [hx] at hz3; simpa using hz3
    refine KW.cndB rfl rfl (fun k4 => ?_) (fun k4 => ?_)
    · rw [e2] at k4
      exact KW.ret rfl rfl rfl rfl (bad (fun hc => by have := hc.2.2; rw [hxe] at this; rw [this] at k4; simp at k4))
    rw [e2] at k4
    have k4 : x &&& k = 0 := by simp at k4; omega
    refine KW.getI hs.up rfl rfl rfl rfl rfl rfl rfl rfl rfl rfl rfl rfl rfl rfl rfl rfl (by omega) (k1) (fun z4 hz4 => ?_)
    have hz4 : (numsI chain)[i]? = some z4 := hz4
    obtain rfl : ((x : Nat) : Int) = z4 := by rw [hx] at hz4; simpa using hz4
    have hbs : bef (nums chain) (i + 1) = x := by rw [bef_succ, hxe]
    refine KW.nxt rfl rfl (fun H' g => ⟨i + 1, ⟨by omega, upto hj ⟨by rw [hxe, hbe]; exact k2, by rw [hxe, hbe]; exact k3, by rw [hxe]; exact k4⟩⟩, by first | omega | (simp only; omega), ⟨rfl, rfl, rfl, congrArg (Value.int .i64) (by rw [hbs]), congrArg (Value.int .i64) (inc64 (by omega)), trivial⟩, g⟩)
  · have k1 : ¬ (i : Int) < (numsI chain).length := k1
    obtain rfl : i = chain.length := by omega
    refine KW.getB ho.up rfl rfl rfl rfl rfl rfl rfl rfl rfl rfl rfl rfl rfl rfl rfl rfl (by omega) (by omega) (fun z hz => ?_)
    obtain rfl := tabO_get (q := bef (nums chain) chain.length) rfl hb hz
    refine KW.ret rfl rfl rfl rfl ?_
    show Value.bool (!tv (Opens gs (bef (nums chain) chain.length))) = _
    by_cases hO : Opens gs (bef (nums chain) chain.length)
    · rw [tv_true hO, tv_false (p := ChainC gs k (nums chain) chain.length) (fun hc => hc.2 hO)]; rfl
    · rw [tv_false hO, tv_true (p := ChainC gs k (nums chain) chain.length) ⟨hj, hO⟩]; rfl
theorem l07Right {q w : Nat} (hq : q ≤ 7) (hw : w < 2 ^ q) {gs chain : List (List Int)} (hl : chain.length ≤ 1048576) (hn : ∀ i, i < chain.length → (nums chain).getD i 0 < 2 ^ q) {i : Nat} (hi : i < chain.length) {a c a' c'} (ho : Kn.bool.Sl S H0 (.slice a (tabO gs (2 ^ q)).length c) (tabO gs (2 ^ q))) (hs : KI.Sl S H0 (.slice a' (numsI chain).length c') (numsI chain)) :
    Spec Try.prog S H0 145 [.slice a (tabO gs (2 ^ q)).length c, .slice a' (numsI chain).length c', .int .i64 i, .int .i64 w] (fun v => v = .bool (tv (Steps gs (bef (nums chain) i) ((nums chain).getD i 0) w))) := by
  refine Spec.of1 Try.func145 rfl (by kernel_rfl) rfl (fun H _ => ?_)
  have hp := small_pow (m := q) (by omega)
  have htl : (tabO gs (2 ^ q)).length = 2 ^ q := tabO_len _ _
  have hnl : (numsI chain).length = chain.length := by simp
  have hnl' : (nums chain).length = chain.length := by simp
  have hb := bef_lt (q := q) (ns := nums chain) (fun i h => hn i (by omega)) i (by omega)
  have hx := numsI_at (chain := chain) hi
  have hxl := hn i hi
  obtain ⟨x, hxe⟩ : ∃ x, (nums chain).getD i 0 = x := ⟨_, rfl⟩
  obtain ⟨b, hbe⟩ : ∃ b, bef (nums chain) i = b := ⟨_, rfl⟩
  rw [hxe] at hx hxl
  rw [hbe] at hb
  rw [hxe, hbe]
  have e1 := or_i64 (a := x) (b := w) (by omega) (by omega)
  have e2 := or_i64 (a := b) (b := w) (by omega) (by omega)
  have l1 : x ||| w < 2 ^ q := Nat.or_lt_two_pow hxl hw
  have l2 : b ||| w < 2 ^ q := Nat.or_lt_two_pow hb hw
  refine KW.cnd rfl rfl (fun k1 => ?g1) (fun k1 => ?g2)
  case' g1 =>
    have k1 : (i : Int) > 0 := k1
    have e0 : IntKind.i64.wrap ((i : Int) - 1) = ((i - 1 : Nat) : Int) := by rw [wr (by omega) (by omega)]; omega
    refine KW.getI hs.up rfl rfl rfl rfl rfl rfl rfl rfl rfl rfl rfl rfl rfl rfl rfl rfl (by rw [e0]; omega) (by rw [e0]; omega) (fun z0 hz0 => ?_)
    rw [e0] at hz0
    have hz0 : (numsI chain)[i - 1]? = some z0 := hz0
    rw [numsI_at (by omega)] at hz0
    have hb0 : bef (nums chain) i = (nums chain).getD (i - 1) 0 := by unfold bef; rw [if_neg (by omega)]
    obtain rfl : z0 = (b : Int) := by rw [← hbe, hb0]; simpa using hz0.symm
    have E2 := e2
  case' g2 =>
    have k1 : ¬ (i : Int) > 0 := k1
    have hb0 : b = 0 := by rw [← hbe]; unfold bef; rw [if_pos (by omega)]
    have E2 : IntKind.i64.wrap ((BitVec.ofInt IntKind.i64.bits (0 : Int) ||| BitVec.ofInt IntKind.i64.bits (w : Int)).toNat : Int) = ((b ||| w : Nat) : Int) := by rw [hb0]; exact or_i64 (a := 0) (b := w) (by omega) (by omega)
  all_goals
    refine KW.getI hs.up rfl rfl rfl rfl rfl rfl rfl rfl rfl rfl rfl rfl rfl rfl rfl rfl (by omega) (by omega) (fun z hz => ?_)
    have hz : (numsI chain)[i]? = some z := hz
    obtain rfl : ((x : Nat) : Int) = z := by rw [hx] at hz; simpa using hz
    refine KW.getB ho.up rfl rfl rfl rfl rfl rfl rfl rfl rfl rfl rfl rfl rfl rfl rfl rfl (by rw [e1]; omega) (by rw [e1]; omega) (fun y hy => ?_)
    obtain rfl := tabO_get e1 l1 hy
    refine KW.tstB rfl rfl (fun k2 => ?_) (fun k2 => ?_)
  all_goals first
    | (refine KW.ret rfl rfl rfl rfl ?_
       rw [tv_false (p := Steps gs b x w) (fun hc => by rw [tv_true hc.1] at k2; cases k2)]; rfl)
    | (refine KW.getB ho.up rfl rfl rfl rfl rfl rfl rfl rfl rfl rfl rfl rfl rfl rfl rfl rfl (by rw [E2]; omega) (by rw [E2]; omega) (fun y2 hy2 => ?_)
       obtain rfl := tabO_get E2 l2 hy2
       refine KW.ret rfl rfl rfl rfl ?_
       show Value.bool (!tv (Opens gs (b ||| w))) = _
       by_cases hO : Opens gs (b ||| w)
       · rw [tv_true hO, tv_false (p := Steps gs b x w) (fun hc => hc.2 hO)]; rfl
       · rw [tv_false hO, tv_true (p := Steps gs b x w) ⟨tv_iff.1 k2, hO⟩]; rfl)
end
/-- The least parts, as numbers. -/
noncomputable def lwI (gs : List (List Int)) (k : Nat) (ns : List Nat) (n : Nat) : List Int := (List.range n).map fun i => ((leastW gs k (bef ns i) (ns.getD i 0) : Nat) : Int)
def Cnd (gs : List (List Int)) (k b x v : Nat) : Prop := k &&& v = v ∧ Steps gs b x v
theorem cnd_tv {gs : List (List Int)} {k b x v : Nat} {t1 t2 : Bool} : True := trivial
section
variable {S : Ids} {H0 : AH}
theorem l07Withs {q k : Nat} (hq : q ≤ 7) (hk : k < 2 ^ q) {gs chain : List (List Int)} (hl : chain.length ≤ 1048576) (hn : ∀ i, i < chain.length → (nums chain).getD i 0 < 2 ^ q) {a c a' c'} (ho : Kn.bool.Sl S H0 (.slice a (tabO gs (2 ^ q)).length c) (tabO gs (2 ^ q))) (hs : KI.Sl S H0 (.slice a' (numsI chain).length c') (numsI chain)) :
    SpecM Try.prog S H0 98 [.slice a (tabO gs (2 ^ q)).length c, .int .i64 k, .slice a' (numsI chain).length c'] (fun n v H1 => ∃ (ok : Bool) (v' : Value), v = .tuple #[v', .bool ok] ∧ ((ok = true ∧ (∀ i, i < chain.length → ∃ w, Least gs k (bef (nums chain) i) ((nums chain).getD i 0) w true) ∧ MkL (lwI gs k (nums chain) chain.length) n v' H1) ∨ (ok = false ∧ (∃ i, i < chain.length ∧ ¬ ∃ w, Least gs k (bef (nums chain) i) ((nums chain).getD i 0) w true) ∧ ∃ a n c, v' = .slice a n c))) := by
  refine SpecM.of1 Try.func98 rfl (by kernel_rfl) rfl (fun H _ => ?_)
  have hp := small_pow (m := q) (by omega)
  have hnl : (numsI chain).length = chain.length := by simp
  refine KW.lit rfl rfl rfl rfl rfl rfl rfl rfl rfl rfl [] rfl rfl (fun v hv => by simp at hv) rfl ?_
  refine KW.lpM rfl rfl (fun s : Nat × Nat => [(0, .slice a (tabO gs (2 ^ q)).length c), (1, .int .i64 k), (2, .slice a' (numsI chain).length c'), (8, .slice (some ⟨s.2, 0, some 1⟩) (lwI gs k (nums chain) s.1).length (lwI gs k (nums chain) s.1).length), (9, .int .i64 s.1)]) (fun s => Low H.n) (fun s => H) (fun s => [(s.2, ⟨_, true, (lwI gs k (nums chain) s.1).map (Value.int .i64)⟩)]) (fun s => s.1 ≤ chain.length ∧ ∀ j, j < s.1 → ∃ w, Least gs k (bef (nums chain) j) ((nums chain).getD j 0) w true) (fun s => chain.length - s.1) ((0, _)) (⟨by simp, fun j h => absurd h (by simp)⟩) ⟨rfl, rfl, rfl, rfl, rfl, trivial⟩ rfl rfl rfl (fun s hi bE n => ?_)
  obtain ⟨i, o⟩ := s
  obtain ⟨hi, hj⟩ := hi
  simp only at hi hj
  have hll : (lwI gs k (nums chain) i).length = i := by simp [lwI]
  refine KW.cnd rfl rfl (fun k1 => ?_) (fun k1 => ?_)
  · have k1 : (i : Int) < (numsI chain).length := k1
    have hil : i < chain.length := by omega
    obtain ⟨x, hxe⟩ : ∃ x, (nums chain).getD i 0 = x := ⟨_, rfl⟩
    obtain ⟨b, hbe⟩ : ∃ b, bef (nums chain) i = b := ⟨_, rfl⟩
    -- the search
    refine KW.lp rfl rfl (fun s : Nat × Int => [(0, .slice a (tabO gs (2 ^ q)).length c), (1, .int .i64 k), (2, .slice a' (numsI chain).length c'), (8, .slice (some ⟨o, 0, some 1⟩) (lwI gs k (nums chain) i).length (lwI gs k (nums chain) i).length), (9, .int .i64 i), (10, .int .i64 s.2), (11, .int .i64 s.1)]) (fun s => s.1 ≤ k + 1 ∧ ((s.2 = -1 ∧ ∀ v, v < s.1 → ¬ (k &&& v = v ∧ Steps gs b x v)) ∨ (∃ w : Nat, s.2 = w ∧ Least gs k b x w true))) (fun s => k + 1 - s.1) ((0, -1)) (⟨by simp only; omega, .inl ⟨rfl, fun v hv => absurd hv (by simp)⟩⟩) ⟨rfl, rfl, rfl, rfl, rfl, rfl, rfl, trivial⟩ (fun s hi bE n => ?_)
    obtain ⟨w, f⟩ := s
    obtain ⟨hw, hf⟩ := hi
    simp only at hw hf
    have done : ¬ ((w : Int) ≤ k ∧ f < 0) → (f = -1 ∧ ∀ v, v ≤ k → ¬ (k &&& v = v ∧ Steps gs b x v)) ∨ (∃ w : Nat, f = w ∧ Least gs k b x w true) := fun hc => by
      rcases hf with ⟨h1, h2⟩ | h
      · exact .inl ⟨h1, fun v hv => h2 v (by omega)⟩
      · exact .inr h
    have fin : ((f = -1 ∧ ∀ v, v ≤ k → ¬ (k &&& v = v ∧ Steps gs b x v)) ∨ (∃ w : Nat, f = w ∧ Least gs k b x w true)) → True := fun _ => trivial
    refine KW.tst rfl rfl (fun k2 => ?_) (fun k2 => ?_)
    · have k2 : (w : Int) ≤ k := k2
      refine KW.cnd rfl rfl (fun k3 => ?_) (fun k3 => ?_)
      · have k3 : f < 0 := k3
        rcases hf with ⟨rfl, h2⟩ | ⟨w0, rfl, _⟩
        · have e1 := and_i64 (a := w) (b := k) (by omega) (by omega)
          refine KW.tstB rfl rfl (fun k4 => ?_) (fun k4 => ?_)
          · rw [e1] at k4
            have k4 : k &&& w = w := by rw [Nat.and_comm]; simp at k4; omega
            refine KW.callE rfl rfl rfl rfl rfl (l07Right hq (by omega) hl hn hil ho.up hs.up) (fun _ _ => ?_)
            rw [hxe, hbe]
            refine KW.cndB rfl rfl (fun k5 => ?_) (fun k5 => ?_)
            · have k5 := tv_iff.1 k5
              refine KW.nxt rfl rfl (fun H' g => ⟨(w + 1, (w : Int)), ⟨by simp only; omega, .inr ⟨w, rfl, .inl ⟨rfl, by omega, ⟨k4, k5⟩, h2⟩⟩⟩, by first | omega | (simp only; omega), ⟨rfl, rfl, rfl, rfl, rfl, rfl, congrArg (Value.int .i64) (inc64 (by omega)), trivial⟩, g⟩)
            · have k5 : ¬ Steps gs b x w := fun hx => by rw [tv_true hx] at k5; cases k5
              refine KW.nxt rfl rfl (fun H' g => ⟨(w + 1, -1), ⟨by simp only; omega, .inl ⟨rfl, upto h2 (fun hc => k5 hc.2)⟩⟩, by first | omega | (simp only; omega), ⟨rfl, rfl, rfl, rfl, rfl, rfl, congrArg (Value.int .i64) (inc64 (by omega)), trivial⟩, g⟩)
          · rw [e1] at k4
            have k4 : ¬ k &&& w = w := by rw [Nat.and_comm]; simp at k4; omega
            refine KW.cF rfl rfl (by first | (simp; done) | decide) ?_
            refine KW.nxt rfl rfl (fun H' g => ⟨(w + 1, -1), ⟨by simp only; omega, .inl ⟨rfl, upto h2 (fun hc => k4 hc.1)⟩⟩, by first | omega | (simp only; omega), ⟨rfl, rfl, rfl, rfl, rfl, rfl, congrArg (Value.int .i64) (inc64 (by omega)), trivial⟩, g⟩)
        · omega
      · have k3 : ¬ f < 0 := k3
        have hd := done (fun hc => k3 hc.2)
        rcases hd with ⟨h1, _⟩ | ⟨w0, rfl, hle⟩
        · omega
        · refine KW.no rfl rfl (by omega) ?_
          have e := range_map_succ' (fun i => ((leastW gs k (bef (nums chain) i) ((nums chain).getD i 0) : Nat) : Int)) i
          simp only [hxe, hbe, leastW_eq hle] at e
          refine KW.app1 (xs := (lwI gs k (nums chain) i).map (Value.int .i64)) (v := .int .i64 w0) 0 1 rfl rfl rfl rfl rfl rfl rfl rfl rfl rfl rfl rfl rfl rfl rfl rfl rfl rfl rfl rfl rfl rfl rfl (by simp) (by show (_ + 1) * 8 ≤ _; first | omega | (simp only; omega)) (by first | omega | (simp only; omega)) ?_
          refine KW.nxt rfl rfl (fun H' g => ⟨(i + 1, _), ⟨by simp only; omega, upto hj ⟨w0, by rw [hxe, hbe]; exact hle⟩⟩, by first | omega | (simp only; omega), ⟨rfl, rfl, rfl, by simp only [lwI, e, List.length_append, List.length_singleton]; rfl, congrArg (Value.int .i64) (inc64 (by omega)), trivial⟩, g.eqT (by simp only [lwI, e, List.map_append]; rfl)⟩)
    · have k2 : ¬ (w : Int) ≤ k := k2
      refine KW.cF rfl rfl (by first | (simp; done) | decide) ?_
      have hd := done (fun hc => k2 hc.1)
      rcases hd with ⟨rfl, hno⟩ | ⟨w0, rfl, hle⟩
      · refine KW.yes rfl rfl (show (-1 : Int) < 0 by decide) ?_
        refine KW.retM1 rfl rfl rfl rfl (fun H1 g => ⟨false, _, rfl, .inr ⟨rfl, ⟨i, hil, fun ⟨w, hw⟩ => by rw [hxe, hbe] at hw; rcases hw with ⟨_, h1, h2, _⟩ | ⟨h, _⟩; exact hno w h1 h2; cases h⟩, _, _, _, rfl⟩⟩)
      · refine KW.no rfl rfl (by omega) ?_
        have e := range_map_succ' (fun i => ((leastW gs k (bef (nums chain) i) ((nums chain).getD i 0) : Nat) : Int)) i
        simp only [hxe, hbe, leastW_eq hle] at e
        refine KW.app1 (xs := (lwI gs k (nums chain) i).map (Value.int .i64)) (v := .int .i64 w0) 0 1 rfl rfl rfl rfl rfl rfl rfl rfl rfl rfl rfl rfl rfl rfl rfl rfl rfl rfl rfl rfl rfl rfl rfl (by simp) (by show (_ + 1) * 8 ≤ _; first | omega | (simp only; omega)) (by first | omega | (simp only; omega)) ?_
        refine KW.nxt rfl rfl (fun H' g => ⟨(i + 1, _), ⟨by simp only; omega, upto hj ⟨w0, by rw [hxe, hbe]; exact hle⟩⟩, by first | omega | (simp only; omega), ⟨rfl, rfl, rfl, by simp only [lwI, e, List.length_append, List.length_singleton]; rfl, congrArg (Value.int .i64) (inc64 (by omega)), trivial⟩, g.eqT (by simp only [lwI, e, List.map_append]; rfl)⟩)
  · have k1 : ¬ (i : Int) < (numsI chain).length := k1
    obtain rfl : i = chain.length := by omega
    refine KW.retM1 rfl rfl rfl rfl (fun H1 g => ⟨true, _, rfl, .inl ⟨rfl, hj, MkL.of g (j := 0) rfl (g.ge (H1 := H) (j := 0) rfl)⟩⟩)
end
end Go.Proofs.Ytaepgfafbnjccaa.Am
/- Contracts: SequenceFor of the reference, its answer. Each holds under its own conditions. -/
set_option linter.unusedVariables false
set_option linter.unusedSimpArgs false
set_option maxRecDepth 20000
namespace Go.Proofs.Ytaepgfafbnjccaa.Am
open Go Go.RowKit Go.Proofs
/-- The state of a loop that makes rows. -/
structure RwS where
  i : Nat
  S : Ids
  A : AH
  V : Ids
  cs : List Value
  o : Nat
structure RwI {α : Type} (f : α → List Int) (xs : List α) (H : AH) (SB : Ids) (HB : AH) (s : RwS) : Prop where
  le : s.i ≤ xs.length
  old : St SB HB s.S s.A
  b : RowsB KI.ml s.S s.A s.V ((xs.take s.i).map f) s.cs
  v : ∀ id, s.V id → H.n ≤ id
theorem RwI.start {α : Type} {f : α → List Int} {xs : List α} {H HB : AH} {SB : Ids} {o : Nat} : RwI f xs H SB HB ⟨0, SB, HB, fun _ => False, [], o⟩ := ⟨Nat.zero_le _, fun id hid => ⟨hid, rfl⟩, RowsB.nil _ _, fun _ h => h.elim⟩
theorem RwI.next {α : Type} {f : α → List Int} {xs : List α} {H HB HC : AH} {SB SC : Ids} {s : RwS} {n1 o' : Nat} {y : α} {v : Value} (h : RwI f xs H SB HB s) (t : St s.S s.A SC HC) (w : On (New n1 HC.n) HC SC HC) (low : ∀ id, s.S id → id < n1) (hn : H.n ≤ n1) (hy : xs[s.i]? = some y) (hc : KI.Ml (New n1 HC.n) HC v (f y)) : RwI f xs H SB HB ⟨s.i + 1, SC, HC, fun id => s.V id ∨ New n1 HC.n id, s.cs ++ [v], o'⟩ := by
  obtain ⟨hil, rfl⟩ := List.getElem?_eq_some_iff.1 hy
  haveI o1 : On s.S s.A SC HC := ⟨t⟩
  refine ⟨by simp only; omega, h.old.trans t, ?_, fun id hid => hid.elim (h.v id) (fun p => by have := p.1; omega)⟩
  simp only
  rw [List.take_succ_eq_append_getElem hil, List.map_append]
  exact (h.b.up (S' := SC) (A' := HC)).snoc (ml1' hc) (fun id hid => (w.st id hid).1) (fun id p q => by have := low id (h.b.sub id p); have := q.1; omega)
theorem RwI.ml {α : Type} {f : α → List Int} {xs : List α} {H HB H1 : AH} {SB : Ids} {s : RwS} {T : List Var} {n j : Nat} {ty : TypeId} (h : RwI f xs H SB HB s) (he : s.i = xs.length) (g : Good s.S s.A T n H1) (hT : T[j]? = some (s.o, ⟨ty, true, s.cs⟩)) (ho : H.n ≤ s.o) : KI.ml.Ml (New H.n H1.n) H1 (.slice (some ⟨s.o, 0, some 1⟩) xs.length xs.length) (xs.map f) := by
  have hb := h.b
  rw [he, List.take_of_length_le (Nat.le_refl _)] at hb
  have := hb.ml rfl g hT (X := New H.n H1.n) ⟨ho, (g.blk hT).2⟩ (fun id hid => ⟨h.v id hid, by have := (g.froz id (hb.sub id hid)).1; have := g.n_; omega⟩)
  simpa using this
section
variable {S : Ids} {H0 : AH}
theorem l07Lists {m : Nat} (hm : m ≤ 63) {a c} {xs : List Int} (hl : xs.length ≤ 1048576) (hx : ∀ x ∈ xs, 0 ≤ x ∧ x < 4611686018427387904) (hs : KI.Sl S H0 (.slice a xs.length c) xs) : SpecM Try.prog S H0 99 [.slice a xs.length c, .int .i64 m] (MkSS (xs.map fun v => hold v.toNat m)) := by
  refine SpecM.of1 Try.func99 rfl (by kernel_rfl) rfl (fun H _ => ?_)
  refine KW.lit rfl rfl rfl rfl rfl rfl rfl rfl rfl rfl [] rfl rfl (fun v hv => by simp at hv) rfl ?_
  refine KW.lpM rfl rfl (fun s : RwS => [(0, .slice a xs.length c), (1, .int .i64 m), (5, .slice (some ⟨s.o, 0, some 1⟩) s.i s.i), (6, .int .i64 s.i)]) (fun s => s.S) (fun s => s.A) (fun s => [(s.o, ⟨_, true, s.cs⟩)]) (fun s => RwI (fun v => hold v.toNat m) xs H (Low H.n) H s) (fun s => xs.length - s.i) (⟨0, Low H.n, H, fun _ => False, [], _⟩) (RwI.start) ⟨rfl, rfl, rfl, rfl, trivial⟩ rfl rfl rfl (fun s hi bE n => ?_)
  haveI : Stp (Low H.n) H s.S s.A := ⟨hi.old⟩
  have hle := hi.le
  have hcl := hi.b.len
  rw [List.length_map, List.length_take] at hcl
  refine KW.cnd rfl rfl (fun k1 => ?_) (fun k1 => ?_)
  · refine KW.getI hs.up rfl rfl rfl rfl rfl rfl rfl rfl rfl rfl rfl rfl rfl rfl rfl rfl (by omega) (k1) (fun y hy => ?_)
    have hy : xs[s.i]? = some y := hy
    have hyb := hx y (List.mem_of_getElem? hy)
    refine KW.ids (fun hlow hvar => ?_)
    refine KW.fact (fun _ g => g.nle (H1 := H)) (fun hn0 => ?_)
    obtain ⟨z, rfl⟩ : ∃ z : Nat, y = z := ⟨y.toNat, by omega⟩
    refine KW.callN1 rfl rfl rfl rfl rfl (l06Holders (x := z) (m := m) (by omega) hm) (fun v HC SC mC _ _ hv => ?_)
    obtain ⟨a5, c5, rfl, hC⟩ := hv
    refine KW.app1 (xs := s.cs) (v := .slice a5 (hold z m).length c5) 0 1 rfl rfl rfl rfl rfl rfl rfl rfl rfl rfl rfl rfl rfl rfl rfl rfl rfl rfl rfl rfl rfl rfl rfl (by omega) (by show (_ + 1) * 24 ≤ _; omega) (by first | omega | (simp only; omega)) ?_
    exact KW.nxt rfl rfl (fun H' g => ⟨_, hi.next (inferInstance : Stp s.S s.A SC HC).st inferInstance hlow hn0 hy hC, by simp only; omega, ⟨rfl, rfl, rfl, congrArg (Value.int .i64) (inc64 (by omega)), trivial⟩, g⟩)
  · have he : s.i = xs.length := by omega
    refine KW.retM1 rfl rfl rfl rfl (fun H1 g => ?_)
    have := hi.ml he g (j := 0) rfl (g.ge (H1 := H) (j := 0) rfl)
    rw [← he] at this
    exact ⟨_, _, by rw [List.length_map, ← he]; rfl, by rw [List.length_map, ← he]; exact this⟩
theorem chain_iff {gs : List (List Int)} {k q : Nat} {chain : List (List Int)} (h0 : ¬ Opens gs 0) : (ChainC gs k (nums chain) chain.length ∧ ∀ i, i < chain.length → ∃ w, Least gs k (bef (nums chain) i) ((nums chain).getD i 0) w true) ↔ ∀ i, i < chain.length → OkAt gs k (nums chain) i := by
  constructor
  · rintro ⟨⟨h1, h2⟩, h3⟩ i hi
    -- each set lies in the last one
    have up : ∀ d j, j + d = chain.length → bef (nums chain) j &&& bef (nums chain) chain.length = bef (nums chain) j := fun d => by
      induction d with
      | zero => intro j hj; rw [show j = chain.length by omega]; exact Nat.and_self _
      | succ d ih =>
        intro j hj
        have h4 := ih (j + 1) (by omega)
        have h5 := (h1 j (by omega)).2.1
        rw [bef_succ] at h4
        have h6 : bef (nums chain) j = bef (nums chain) j &&& (nums chain).getD j 0 := by rw [Nat.and_comm]; exact h5.symm
        rw [h6, Nat.and_assoc, h4]
    have h4 := up (chain.length - (i + 1)) (i + 1) (by omega)
    rw [bef_succ] at h4
    have h5 := h1 i hi
    exact ⟨⟨h5.2.2, h5.1, h5.2.1, fun ho => h2 (opens_up ho h4)⟩, h3 i hi⟩
  · intro h
    refine ⟨⟨fun i hi => ⟨(h i hi).1.2.1, (h i hi).1.2.2.1, (h i hi).1.1⟩, ?_⟩, fun i hi => (h i hi).2⟩
    rcases Nat.eq_zero_or_pos chain.length with h4 | h4
    · rw [h4]; exact h0
    · have h5 := (h (chain.length - 1) (by omega)).1.2.2.2
      rw [show chain.length = chain.length - 1 + 1 by omega, bef_succ]
      exact h5
theorem notEmpty {m : Int} {gs : List (List Int)} (h : codeF m gs = 0) : ¬ Opens gs 0 := by
  have hf := codeF_ok h
  rintro ⟨g, hg, hb⟩
  rw [Nat.zero_and] at hb
  -- the group is empty, and so is the first one
  have hge : g = [] := by
    cases g with
    | nil => rfl
    | cons x g =>
      obtain ⟨i, hi⟩ := List.getElem?_of_mem hg
      have hx : 0 ≤ x := (hf.below _ hg x List.mem_cons_self).1
      have := (bitsOf_test (g := x :: g) (fun y hy => (hf.below _ hg y hy).1) x.toNat).2 (by have : ((x.toNat : Nat) : Int) = x := by omega
                                                                                             rw [this]; exact List.mem_cons_self)
      rw [← hb] at this
      simp at this
  subst hge
  obtain ⟨i, hi⟩ := List.getElem?_of_mem hg
  have hil := (List.getElem?_eq_some_iff.1 hi).1
  rcases Nat.eq_zero_or_pos i with h0 | h0
  · subst h0
    unfold codeF at h
    rw [if_pos (tv_true hf)] at h
    have e : gs.getD 0 [] = [] := getDL_of hi
    split at h
    · cases h
    · split at h
      · cases h
      · rw [e] at h; simp at h
  · have := (hf.grp i hil).2 h0
    rw [getDL_of hi] at this
    revert this
    cases gs.getD (i - 1) [] <;> simp [lexB]
theorem holdUp {x q m : Nat} (hx : x < 2 ^ q) (hq : q ≤ m) : hold x m = hold x q := by
  have := hold_up hx (m - q)
  rw [show q + (m - q) = m by omega] at this
  exact this
theorem spec_SequenceFor {y : T_Family} {known : List Int} {chain : List (List Int)} {ds : List Value} {a1 c1 a2 c2} (hF : B_Family y) (hK : B_Int64S known) (hC : B_Int64SS chain) (h : K_Family.R S H0 y ds) (k : K_Int64S.R S H0 known [.slice a1 known.length c1]) (k' : K_Int64SS.R S H0 chain [.slice a2 chain.length c2]) :
    SpecM Try.prog S H0 42 [.agg ds.toArray, .slice a1 known.length c1, .slice a2 chain.length c2] (MkQC (r0_SequenceFor y known chain) (r1_SequenceFor y known chain)) := by
  obtain ⟨a3, c3, rfl, h1⟩ := split_Family h
  have s1 := sl1 h1
  have s2 := sl1 k
  have s3 := sl1 k'
  obtain ⟨m, gs⟩ := y
  simp only at s1 ⊢
  have hsm : Sml gs := hF.2
  have hkl : known.length ≤ 1048576 := hK
  have hcl := hC.len
  refine SpecM.of1 Try.func42 rfl (by kernel_rfl) rfl (fun H _ => ?_)
  refine KW.callV1 rfl rfl rfl rfl rfl (fun H1 g _ => l07Family m hsm (g.blk (j := 0) rfl).2 (g.blk (j := 0) rfl).1 s1.up) (fun _ _ => ?_)
  by_cases hc : codeF m gs = 0
  · rw [hc]
    have hf := codeF_ok hc
    have hm1 := hf.h1
    have hm7 := hf.h2
    obtain ⟨q, hq⟩ : ∃ q : Nat, m = q := ⟨m.toNat, by omega⟩
    have hb : Below' q gs := by have := hf.below; rw [hq] at this; simpa using this
    have h0 := notEmpty hc
    have h5 : ¬ m > 5 := fun hx => by unfold codeF at hc; rw [if_pos (tv_true hf), if_pos hx] at hc; cases hc
    have hp := small_pow (m := q) (by omega)
    refine KW.cF rfl rfl (by first | (simp; done) | decide) ?_
    refine KW.callV1 rfl rfl rfl rfl rfl (fun H1 g _ => l07Group m ⟨hm1, hm7⟩ ((g.has (j := 0) rfl rfl).take (vs := [_])) hkl s2.up) (fun _ _ => ?_)
    by_cases hk1 : Rises 0 (m - 1) known
    · rw [tv_true hk1]
      refine KW.tF rfl rfl (by first | (simp; done) | decide) ?_
      refine KW.callV1 rfl rfl rfl rfl rfl (fun H1 g _ => l07Groups m ⟨hm1, hm7⟩ ((g.has (j := 0) rfl rfl).take (vs := [_])) hC s3.up) (fun _ _ => ?_)
      by_cases hk2 : ∀ g ∈ chain, Rises 0 (m - 1) g
      · rw [tv_true hk2]
        refine KW.cF rfl rfl (by first | (simp; done) | decide) ?_
        have hkb := rises_lt hq hk1
        have hkq : bitsOf known < 2 ^ q := bitsOf_lt (fun x hx => by have := hkb x hx; omega)
        have hnq : ∀ i, i < chain.length → (nums chain).getD i 0 < 2 ^ q := fun i hi => by
          rw [List.getD_eq_getElem?_getD, List.getElem?_map, List.getElem?_eq_getElem hi]
          exact bitsOf_lt (fun x hx => by have := rises_lt hq (hk2 _ (List.getElem_mem hi)) x hx; omega)
        refine KW.callNV1 rfl rfl rfl rfl rfl (fun H1 g _ => l07Open (m := q) (by omega) hsm hb (g.blk (j := 0) rfl).2 (by subst hq; exact (g.blk (j := 0) rfl).1) s1.up) (fun v HO SO mO _ _ hv => ?_)
        obtain ⟨a4, c4, rfl, hO⟩ := hv
        refine KW.callE rfl rfl rfl rfl rfl (l07Bits (m := q) (by omega) (by omega) hkb s2.up) (fun _ _ => ?_)
        refine KW.callN1 rfl rfl rfl rfl rfl (l07Numbers (q := q) (by omega) hC (fun g hg => rises_lt hq (hk2 g hg)) s3.up) (fun v HN SN mN _ _ hv => ?_)
        obtain ⟨a5, c5, rfl, hN⟩ := hv
        refine KW.callE rfl rfl rfl rfl rfl (l07Chain (q := q) (by omega) hkq hcl hnq hO.up hN.ups) (fun _ _ => ?_)
        have hiff := chain_iff (gs := gs) (k := bitsOf known) (q := q) (chain := chain) h0
        by_cases hch : ChainC gs (bitsOf known) (nums chain) chain.length
        · rw [tv_true hch]
          refine KW.cF rfl rfl (by first | (simp; done) | decide) ?_
          refine KW.callN1 rfl rfl rfl rfl rfl (l07Withs (q := q) (by omega) hkq hcl hnq hO.up hN.ups) (fun v HW SW mW _ _ hv => ?_)
          obtain ⟨ok, v', rfl, hW⟩ := hv
          rcases hW with ⟨rfl, hall, a6, c6, rfl, hW⟩ | ⟨rfl, hno, a6, n6, c6, rfl⟩
          · refine KW.cF rfl rfl (by first | (simp; done) | decide) ?_
            obtain ⟨e1, e0⟩ := sf_ok (y := (m, gs)) (known := known) (chain := chain) hc ⟨hk1, hk2⟩ (hiff.1 ⟨hch, hall⟩)
            rw [e1, e0]
            have hm63 : q ≤ 63 := by omega
            subst hq
            refine KW.callN1 rfl rfl rfl rfl rfl (l06Holders (x := bitsOf known) (m := q) (by omega) hm63) (fun v HK SK mK _ _ hv => ?_)
            obtain ⟨a7, c7, rfl, hKk⟩ := hv
            rw [hold_bits q hk1] at hKk ⊢
            refine KW.callN1 rfl rfl rfl rfl rfl (l07Lists (m := q) hm63 (by rw [List.length_map]; exact hcl) (fun x hx => by obtain ⟨g, hg, rfl⟩ := List.mem_map.1 hx; have := bits256 (q := q) (by omega) (rises_lt rfl (hk2 g hg)); omega) hN.ups) (fun v HL SL mL _ _ hv => ?_)
            obtain ⟨a8, c8, rfl, hL⟩ := hv
            have eL : ((numsI chain).map fun v => hold v.toNat q) = chain := by
              rw [List.map_map]
              refine Eq.trans (List.map_congr_left (g := id) fun g hg => ?_) (List.map_id _)
              show hold ((bitsOf g : Nat) : Int).toNat q = g
              rw [Int.toNat_natCast]
              exact hold_bits q (hk2 g hg)
            rw [eL] at hL ⊢
            have lwx : ∀ i, i < chain.length → leastW gs (bitsOf known) (bef (nums chain) i) ((nums chain).getD i 0) < 2 ^ q := fun i hi => by
              obtain ⟨w, hw⟩ := hall i hi
              rw [leastW_eq hw]
              rcases hw with ⟨_, h, _⟩ | ⟨h, _⟩
              · omega
              · cases h
            refine KW.callN1 rfl rfl rfl rfl rfl (l07Lists (m := q) hm63 (by simp [lwI]; exact hcl) (fun x hx => by obtain ⟨i, hi, rfl⟩ := List.mem_map.1 hx; have := lwx i (List.mem_range.1 hi); omega) hW.ups) (fun v HM SM mM _ _ hv => ?_)
            obtain ⟨a9, c9, rfl, hM⟩ := hv
            have eM : ((lwI gs (bitsOf known) (nums chain) chain.length).map fun v => hold v.toNat q) = withs gs (bitsOf known) (nums chain) chain.length := by
              unfold lwI withs withAt
              rw [List.map_map]
              refine List.map_congr_left fun i hi => ?_
              show hold ((leastW _ _ _ _ : Nat) : Int).toNat q = _
              rw [Int.toNat_natCast]
              exact (holdUp (lwx i (List.mem_range.1 hi)) (by omega)).symm
            rw [eM] at hM ⊢
            refine KW.build rfl rfl rfl rfl rfl (built_Seq3 _ _ _ _ _ _ _ _ _) ?_
            refine KW.retM1 rfl rfl rfl rfl (fun H1 g => ?_)
            have r1 : KI.Ml (New _ HK.n) H1 _ known := ml1 (g.keep (ml1' hKk))
            have r2 : KI.ml.Ml (New _ HL.n) H1 _ chain := ml1 (g.keep (ml1' hL))
            have r3 : KI.ml.Ml (New _ HM.n) H1 _ _ := ml1 (g.keep (ml1' hM))
            refine ⟨_, rfl, mpR (cs := [.slice a7 known.length c7]) (Y := New HK.n H1.n) (ml1' r1) (mpR (cs := [.slice a8 chain.length c8]) (ml1' r2) (ml1' r3) (g.inn (H := HL) (fun _ p => by have := p.1; omega)) (g.inn (H := HM) (fun _ p => by have := p.1; omega)) (fun id p r => by have := p.2; have := r.1; omega)) (g.inn (H := HK) (fun _ p => by have := p.1; omega)) (fun id p => ⟨by have := p.1; omega, p.2⟩) (fun id p r => by have := p.2; have := r.1; omega)⟩
          · refine KW.cT rfl rfl (by first | (simp; done) | decide) ?_
            obtain ⟨e1, e0⟩ := sf_proof (y := (m, gs)) (known := known) (chain := chain) hc ⟨hk1, hk2⟩ (fun hall => by obtain ⟨i, hi, hn⟩ := hno; exact hn (hall i hi).2)
            rw [e1, e0]
            refine KW.build rfl rfl rfl rfl rfl (built_Seq0) ?_
            refine KW.retM1 rfl rfl rfl rfl (fun H1 g => ?_)
            exact MkQC.nil rfl
        · rw [tv_false hch]
          refine KW.cT rfl rfl (by first | (simp; done) | decide) ?_
          obtain ⟨e1, e0⟩ := sf_proof (y := (m, gs)) (known := known) (chain := chain) hc ⟨hk1, hk2⟩ (fun hall => hch (hiff.2 hall).1)
          rw [e1, e0]
          refine KW.build rfl rfl rfl rfl rfl (built_Seq0) ?_
          refine KW.retM1 rfl rfl rfl rfl (fun H1 g => ?_)
          exact MkQC.nil rfl
      · rw [tv_false hk2]
        refine KW.cT rfl rfl (by first | (simp; done) | decide) ?_
        obtain ⟨e1, e0⟩ := sf_range (y := (m, gs)) (known := known) (chain := chain) hc (fun hx => hk2 hx.2)
        rw [e1, e0]
        refine KW.build rfl rfl rfl rfl rfl (built_Seq0) ?_
        refine KW.retM1 rfl rfl rfl rfl (fun H1 g => ?_)
        exact MkQC.nil rfl
    · rw [tv_false hk1]
      refine KW.tT rfl rfl (by first | (simp; done) | decide) ?_
      refine KW.cT rfl rfl (by first | (simp; done) | decide) ?_
      obtain ⟨e1, e0⟩ := sf_range (y := (m, gs)) (known := known) (chain := chain) hc (fun hx => hk1 hx.1)
      rw [e1, e0]
      refine KW.build rfl rfl rfl rfl rfl (built_Seq0) ?_
      refine KW.retM1 rfl rfl rfl rfl (fun H1 g => ?_)
      exact MkQC.nil rfl
  · refine KW.cndB rfl rfl (fun k2 => ?_) (fun k2 => ?_)
    · obtain ⟨e1, e0⟩ := sf_code (y := (m, gs)) (known := known) (chain := chain) hc
      rw [e1, e0]
      refine KW.build rfl rfl rfl rfl rfl (built_Seq0) ?_
      refine KW.retM1 rfl rfl rfl rfl (fun H1 g => ?_)
      exact MkQC.nil rfl
    · exact absurd (by simpa using k2) hc
theorem bound_SequenceFor {y : T_Family} {known : List Int} {chain : List (List Int)} (hF : B_Family y) (hK : B_Int64S known) (hC : B_Int64SS chain) : B_Sequence (r0_SequenceFor y known chain) := by
  unfold r0_SequenceFor
  split
  · rename_i h
    unfold r1_SequenceFor at h
    split at h
    · rename_i hc
      split at h
      · rename_i h2
        have h2 := tv_iff.1 h2
        split at h
        · rename_i h3
          have h3 := tv_iff.1 h3
          have hf := codeF_ok hc
          obtain ⟨q, hq⟩ : ∃ q : Nat, y.1 = q := ⟨y.1.toNat, by have := hf.h1; omega⟩
          have hq7 : q ≤ 7 := by have := hf.h2; omega
          have hp := small_pow (m := q) (by omega)
          -- the numbers of the chain rise
          have up : ∀ i, i ≤ chain.length → i ≤ bef (nums chain) i := fun i => by
            induction i with
            | zero => intro _; exact Nat.zero_le _
            | succ i ih =>
              intro hi
              have h4 := ih (by omega)
              have h5 := (h3 i (by omega)).1
              rw [bef_succ]
              have h6 : bef (nums chain) i ≤ (nums chain).getD i 0 := by rw [← h5.2.2.1]; exact Nat.and_le_left
              have h7 := h5.2.1
              omega
          have h8 := up chain.length (Nat.le_refl _)
          have h9 := bef_lt (q := q) (ns := nums chain) (fun i hi => by
            have hi : i < chain.length := by simpa using hi
            rw [List.getD_eq_getElem?_getD, List.getElem?_map, List.getElem?_eq_getElem hi]
            exact bitsOf_lt (fun x hx => by have := rises_lt hq (h2.2 _ (List.getElem_mem hi)) x hx; omega)) chain.length (by simp)
          refine ⟨hK, hC, ⟨?_, ?_⟩⟩
          · show (withs _ _ _ _).length ≤ _
            simp [withs]; omega
          · have hs : ∀ n, sum (lens (withs y.2 (bitsOf known) (nums chain) n)) ≤ 7 * n := fun n => by
              induction n with
              | zero => exact Nat.le_refl _
              | succ n ih =>
                have e : withs y.2 (bitsOf known) (nums chain) (n + 1) = withs y.2 (bitsOf known) (nums chain) n ++ [withAt y.2 (bitsOf known) (nums chain) n] := by unfold withs; rw [List.range_succ, List.map_append]; rfl
                have ha : ∀ (l : List Nat) (x : Nat), sum (l ++ [x]) = sum l + x := fun l x => by
                  induction l with
                  | nil => simp [sum]
                  | cons z l ih => simp only [List.cons_append, sum, ih]; omega
                have hw : (withAt y.2 (bitsOf known) (nums chain) n).length ≤ 7 := hold_len _ _
                rw [e]
                simp only [lens, List.map_append, List.map_cons, List.map_nil] at ih ⊢
                rw [ha]
                omega
            have := hs chain.length
            show sum (lens (withs _ _ _ _)) ≤ _
            omega
        · cases h
      · cases h
    · rename_i hc
      exact absurd h hc
  · exact ⟨by show 0 ≤ _; omega, ⟨by show 0 ≤ _; omega, by show 0 ≤ _; omega⟩, ⟨by show 0 ≤ _; omega, by show 0 ≤ _; omega⟩⟩
end
end Go.Proofs.Ytaepgfafbnjccaa.Am
/- The law FnExactSequenceFor returns true. No condition beyond the reading of the arguments. -/
set_option linter.unusedVariables false
set_option maxRecDepth 20000
set_option maxHeartbeats 4000000
namespace Go.Proofs.Ytaepgfafbnjccaa.Am
open Go Go.RowKit Go.Proofs
section
variable {S : Ids} {H0 : AH}
theorem lawSequenceFor {ar0 : T_Family} {ar1 : List Int} {ar2 : List (List Int)} {cs0 : List Value} {p1 : Option Addr} {q1 : Nat} {p2 : Option Addr} {q2 : Nat} (hW0 : W_Family ar0) (h0 : K_Family.R S H0 ar0 cs0) (hW1 : W_Int64S ar1) (h1 : K_Int64S.R S H0 ar1 [.slice p1 ar1.length q1]) (hW2 : W_Int64SS ar2) (h2 : K_Int64SS.R S H0 ar2 [.slice p2 ar2.length q2]) : Spec Try.prog S H0 9 [.agg cs0.toArray, .slice p1 ar1.length q1, .slice p2 ar2.length q2] (fun v => v = .bool true) := by
  obtain ⟨p0_0, q0_0, rfl⟩ := form_Family h0
  refine Spec.of1 Try.func9 rfl (by kernel_rfl) rfl (fun H _ => ?_)
  have A0 : Fk K_Family (Low H.n) (Low H.n) H ar0 _ := ⟨On.R h0, fun _ p => p⟩
  have A1 : Fk K_Int64S (Low H.n) (Low H.n) H ar1 _ := ⟨On.R h1, fun _ p => p⟩
  have A2 : Fk K_Int64SS (Low H.n) (Low H.n) H ar2 _ := ⟨On.R h2, fun _ p => p⟩
  refine KW.cnd rfl rfl (fun h => KW.ret rfl rfl rfl rfl rfl) (fun h => ?_)
  have hB1 : B_Int64S ar1 := by show _ ≤ _; omega
  refine KW.call rfl rfl rfl rfl rfl (sz_Family' (left := 1048576) (by decide) (by decide) hW0 A0.all) (fun v n0 _ hv => ?_)
  obtain ⟨r0, rfl, k0⟩ := hv
  refine KW.cnd rfl rfl (fun h => KW.ret rfl rfl rfl rfl rfl) (fun h => ?_)
  have k0 := k0.resolve_left (by omega)
  have hB0 := k0.2.2
  refine KW.call rfl rfl rfl rfl rfl (sz_Int64SS'  k0.1 (by have := k0.2.1; omega) hW2 A2.all) (fun v n2 _ hv => ?_)
  obtain ⟨r2, rfl, k2⟩ := hv
  refine KW.cnd rfl rfl (fun h => KW.ret rfl rfl rfl rfl rfl) (fun h => ?_)
  have k2 := k2.resolve_left (by omega)
  have hB2 := k2.2.2
  obtain ⟨q0r, eq0r⟩ : ∃ q, r0_SequenceFor ar0 ar1 ar2 = q := ⟨_, rfl⟩
  obtain ⟨q1r, eq1r⟩ : ∃ q, r1_SequenceFor ar0 ar1 ar2 = q := ⟨_, rfl⟩
  have cspec : ∀ {S1 : Ids} {H1 : AH} {ca0 : List Value} {pa1 : Option Addr} {qa1 : Nat} {pa2 : Option Addr} {qa2 : Nat} (_ : K_Family.R S1 H1 ar0 ca0) (_ : K_Int64S.R S1 H1 ar1 [.slice pa1 ar1.length qa1]) (_ : K_Int64SS.R S1 H1 ar2 [.slice pa2 ar2.length qa2]), SpecM Try.prog S1 H1 42 [.agg ca0.toArray, .slice pa1 ar1.length qa1, .slice pa2 ar2.length qa2] (fun n v H2 => ∃ cs, v = .tuple #[.agg cs.toArray, .int .i64 q1r] ∧ M_Sequence.R (New n H2.n) H2 q0r cs) := by
    subst eq0r; subst eq1r
    intros
    exact spec_SequenceFor hB0 hB1 hB2 (by assumption) (by assumption) (by assumption)
  have cimpl : ∀ {S1 : Ids} {H1 : AH} {ca0 : List Value} {pa1 : Option Addr} {qa1 : Nat} {pa2 : Option Addr} {qa2 : Nat} (_ : K_Family.R S1 H1 ar0 ca0) (_ : K_Int64S.R S1 H1 ar1 [.slice pa1 ar1.length qa1]) (_ : K_Int64SS.R S1 H1 ar2 [.slice pa2 ar2.length qa2]), SpecM Try.prog S1 H1 44 [.agg ca0.toArray, .slice pa1 ar1.length qa1, .slice pa2 ar2.length qa2] (fun n v H2 => ∃ cs, v = .tuple #[.agg cs.toArray, .int .i64 q1r] ∧ M_Sequence.R (New n H2.n) H2 q0r cs) := by
    subst eq0r; subst eq1r
    intros
    exact impl_SequenceFor hB0 hB1 hB2 (by assumption) (by assumption) (by assumption)
  have hBr : B_Sequence q0r := by subst eq0r; exact bound_SequenceFor hB0 hB1 hB2
  refine KW.callN1 rfl rfl rfl rfl rfl (to_Family hB0 A0.all) (fun v Hb0 Sb0 mb0 _ _ hv => ?_)
  obtain ⟨wb0, rfl, b0⟩ := hv
  obtain ⟨b0_0, b0c_0, rfl⟩ := formM_Family b0
  refine KW.callN1 rfl rfl rfl rfl rfl (to_Int64S hB1 A1.all) (fun v Hb1 Sb1 mb1 _ _ hv => ?_)
  obtain ⟨b1_0, b1c_0, rfl, b1⟩ := hv
  refine KW.callN1 rfl rfl rfl rfl rfl (to_Int64SS hB2 A2.all) (fun v Hb2 Sb2 mb2 _ _ hv => ?_)
  obtain ⟨b2_0, b2c_0, rfl, b2⟩ := hv
  refine KW.callN1 rfl rfl rfl rfl rfl (cspec ((le_Family).2 _ _ _ _ (On.R b0)) ((le_Int64S).2 _ _ _ _ (On.R b1)) ((le_Int64SS).2 _ _ _ _ (On.R b2))) (fun v Hw Sw mw _ _ hv => ?_)
  obtain ⟨ww, rfl, w⟩ := hv
  obtain ⟨w_0, wc_0, w_1, wc_1, w_2, wc_2, rfl⟩ := formM_Sequence w
  refine KW.callN1 rfl rfl rfl rfl rfl (to_Family hB0 A0.all) (fun v Hx0 Sx0 mx0 _ _ hv => ?_)
  obtain ⟨wx0, rfl, x0⟩ := hv
  obtain ⟨x0_0, x0c_0, rfl⟩ := formM_Family x0
  refine KW.callN1 rfl rfl rfl rfl rfl (to_Int64S hB1 A1.all) (fun v Hx1 Sx1 mx1 _ _ hv => ?_)
  obtain ⟨x1_0, x1c_0, rfl, x1⟩ := hv
  refine KW.callN1 rfl rfl rfl rfl rfl (to_Int64SS hB2 A2.all) (fun v Hx2 Sx2 mx2 _ _ hv => ?_)
  obtain ⟨x2_0, x2c_0, rfl, x2⟩ := hv
  refine KW.callN1 rfl rfl rfl rfl rfl (cimpl ((le_Family).2 _ _ _ _ (On.R x0)) ((le_Int64S).2 _ _ _ _ (On.R x1)) ((le_Int64SS).2 _ _ _ _ (On.R x2))) (fun v Hg Sg mg _ _ hv => ?_)
  obtain ⟨wg, rfl, g⟩ := hv
  obtain ⟨g_0, gc_0, g_1, gc_1, g_2, gc_2, rfl⟩ := formM_Sequence g
  refine KW.callE rfl rfl rfl rfl rfl (eq_Sequence hBr ((le_Sequence).2 _ _ _ _ (On.R g)) ((le_Sequence).2 _ _ _ _ (On.R w))) (fun _ _ => ?_)
  refine KW.tF rfl rfl (by first | (simp; done) | decide) ?_
  refine KW.cF rfl rfl (by first | (simp; done) | decide) ?_
  refine KW.callN1 rfl rfl rfl rfl rfl (to_Family hB0 A0.all) (fun v Hy0 Sy0 my0 _ _ hv => ?_)
  obtain ⟨wy0, rfl, y0⟩ := hv
  obtain ⟨y0_0, y0c_0, rfl⟩ := formM_Family y0
  refine KW.callE rfl rfl rfl rfl rfl (eq_Family hB0 ((le_Family).2 _ _ _ _ (On.R x0)) ((le_Family).2 _ _ _ _ (On.R y0))) (fun _ _ => ?_)
  refine KW.cF rfl rfl (by first | (simp; done) | decide) ?_
  refine KW.callN1 rfl rfl rfl rfl rfl (to_Int64S hB1 A1.all) (fun v Hy1 Sy1 my1 _ _ hv => ?_)
  obtain ⟨y1_0, y1c_0, rfl, y1⟩ := hv
  refine KW.callE rfl rfl rfl rfl rfl (eq_Int64S hB1 ((le_Int64S).2 _ _ _ _ (On.R x1)) ((le_Int64S).2 _ _ _ _ (On.R y1))) (fun _ _ => ?_)
  refine KW.cF rfl rfl (by first | (simp; done) | decide) ?_
  refine KW.callN1 rfl rfl rfl rfl rfl (to_Int64SS hB2 A2.all) (fun v Hy2 Sy2 my2 _ _ hv => ?_)
  obtain ⟨y2_0, y2c_0, rfl, y2⟩ := hv
  refine KW.callE rfl rfl rfl rfl rfl (eq_Int64SS hB2 ((le_Int64SS).2 _ _ _ _ (On.R x2)) ((le_Int64SS).2 _ _ _ _ (On.R y2))) (fun _ _ => ?_)
  refine KW.cF rfl rfl (by first | (simp; done) | decide) ?_
  have A0 : Fk _ _ Sy2 Hy2 _ _ := A0.up
  have A1 : Fk _ _ Sy2 Hy2 _ _ := A1.up
  have A2 : Fk _ _ Sy2 Hy2 _ _ := A2.up
  have X0 : Fk _ _ Sy2 Hy2 _ _ := Fk.on x0
  have X1 : Fk _ _ Sy2 Hy2 _ _ := Fk.on x1
  have X2 : Fk _ _ Sy2 Hy2 _ _ := Fk.on x2
  have W : Fk _ _ Sy2 Hy2 _ _ := Fk.on w
  have G : Fk _ _ Sy2 Hy2 _ _ := Fk.on g
  have T : St (Low H.n) H Sy2 Hy2 := (inferInstance : On (Low H.n) H Sy2 Hy2).st
  refine KW.callW X0.i rfl rfl rfl rfl rfl (mark_Family hB0 (k := 1) (by have := size_Family hB0;  constructor <;> omega) X0.i X0.r) (fun v Hk0 Sk0 mk0 tk0 _ hv => ?_)
  obtain ⟨rfl, _⟩ := hv
  have A0 := A0.w tk0 (fun id p q => by have : id < H.n := p; have := q.1; have := q.2; omega)
  have A1 := A1.w tk0 (fun id p q => by have : id < H.n := p; have := q.1; have := q.2; omega)
  have A2 := A2.w tk0 (fun id p q => by have : id < H.n := p; have := q.1; have := q.2; omega)
  have X1 := X1.w tk0 (fun id p q => by have := p.1; have := p.2; have := q.1; have := q.2; omega)
  have X2 := X2.w tk0 (fun id p q => by have := p.1; have := p.2; have := q.1; have := q.2; omega)
  have W := W.w tk0 (fun id p q => by have := p.1; have := p.2; have := q.1; have := q.2; omega)
  have G := G.w tk0 (fun id p q => by have := p.1; have := p.2; have := q.1; have := q.2; omega)
  have T := tk0.low T (fun id p q => by have := q.1; omega)
  refine KW.callW X1.i rfl rfl rfl rfl rfl (mark_Int64S hB1 (k := 1 + (sz_Family ar0 : Nat)) (by have := size_Int64S hB1; have := size_Family hB0; constructor <;> omega) X1.i X1.r) (fun v Hk1 Sk1 mk1 tk1 _ hv => ?_)
  obtain ⟨rfl, _⟩ := hv
  have A0 := A0.w tk1 (fun id p q => by have : id < H.n := p; have := q.1; have := q.2; omega)
  have A1 := A1.w tk1 (fun id p q => by have : id < H.n := p; have := q.1; have := q.2; omega)
  have A2 := A2.w tk1 (fun id p q => by have : id < H.n := p; have := q.1; have := q.2; omega)
  have X2 := X2.w tk1 (fun id p q => by have := p.1; have := p.2; have := q.1; have := q.2; omega)
  have W := W.w tk1 (fun id p q => by have := p.1; have := p.2; have := q.1; have := q.2; omega)
  have G := G.w tk1 (fun id p q => by have := p.1; have := p.2; have := q.1; have := q.2; omega)
  have T := tk1.low T (fun id p q => by have := q.1; omega)
  refine KW.callW X2.i rfl rfl rfl rfl rfl (mark_Int64SS hB2 (k := 1 + (sz_Family ar0 : Nat) + (sz_Int64S ar1 : Nat)) (by have := size_Int64SS hB2; have := size_Family hB0; have := size_Int64S hB1; constructor <;> omega) X2.i X2.r) (fun v Hk2 Sk2 mk2 tk2 _ hv => ?_)
  obtain ⟨rfl, _⟩ := hv
  have A0 := A0.w tk2 (fun id p q => by have : id < H.n := p; have := q.1; have := q.2; omega)
  have A1 := A1.w tk2 (fun id p q => by have : id < H.n := p; have := q.1; have := q.2; omega)
  have A2 := A2.w tk2 (fun id p q => by have : id < H.n := p; have := q.1; have := q.2; omega)
  have W := W.w tk2 (fun id p q => by have := p.1; have := p.2; have := q.1; have := q.2; omega)
  have G := G.w tk2 (fun id p q => by have := p.1; have := p.2; have := q.1; have := q.2; omega)
  have T := tk2.low T (fun id p q => by have := q.1; omega)
  refine KW.tno rfl rfl (by omega) ?_
  refine KW.callE rfl rfl rfl rfl rfl (eq_Sequence hBr ((le_Sequence).2 _ _ _ _ G.all) ((le_Sequence).2 _ _ _ _ W.all)) (fun _ _ => ?_)
  refine KW.tF rfl rfl (by first | (simp; done) | decide) ?_
  refine KW.cF rfl rfl (by first | (simp; done) | decide) ?_
  refine KW.callW G.i rfl rfl rfl rfl rfl (mark_Sequence hBr (k := 1) (by have := size_Sequence hBr; constructor <;> omega) G.i G.r) (fun v HM SM mM tM _ hv => ?_)
  obtain ⟨rfl, G1⟩ := hv
  have A0 := A0.w tM (fun id p q => by have : id < H.n := p; have := q.1; have := q.2; omega)
  have A1 := A1.w tM (fun id p q => by have : id < H.n := p; have := q.1; have := q.2; omega)
  have A2 := A2.w tM (fun id p q => by have : id < H.n := p; have := q.1; have := q.2; omega)
  have W := W.w tM (fun id p q => by have := p.1; have := p.2; have := q.1; have := q.2; omega)
  have T := tM.low T (fun id p q => by have := q.1; omega)
  have G1 : Fk _ _ SM HM _ _ := ⟨G1, fun id p => (tM id (G.i id p)).1⟩
  refine KW.callE rfl rfl rfl rfl rfl (held_Sequence hBr (k := 1) (by have := size_Sequence hBr; constructor <;> omega) ((le_Sequence).2 _ _ _ _ G1.all)) (fun _ _ => ?_)
  refine KW.no rfl rfl (by omega) ?_
  refine KW.cF rfl rfl (by first | (simp; done) | decide) ?_
  refine KW.callN1 rfl rfl rfl rfl rfl (to_Family hB0 A0.all) (fun v Hu0 Su0 mu0 _ _ hv => ?_)
  obtain ⟨wu0, rfl, u0⟩ := hv
  obtain ⟨u0_0, u0c_0, rfl⟩ := formM_Family u0
  refine KW.callN1 rfl rfl rfl rfl rfl (to_Int64S hB1 A1.all) (fun v Hu1 Su1 mu1 _ _ hv => ?_)
  obtain ⟨u1_0, u1c_0, rfl, u1⟩ := hv
  refine KW.callN1 rfl rfl rfl rfl rfl (to_Int64SS hB2 A2.all) (fun v Hu2 Su2 mu2 _ _ hv => ?_)
  obtain ⟨u2_0, u2c_0, rfl, u2⟩ := hv
  refine KW.callN1 rfl rfl rfl rfl rfl (cimpl ((le_Family).2 _ _ _ _ (On.R u0)) ((le_Int64S).2 _ _ _ _ (On.R u1)) ((le_Int64SS).2 _ _ _ _ (On.R u2))) (fun v Hh Sh mh _ _ hv => ?_)
  obtain ⟨wh, rfl, h⟩ := hv
  obtain ⟨h_0, hc_0, h_1, hc_1, h_2, hc_2, rfl⟩ := formM_Sequence h
  refine KW.callE rfl rfl rfl rfl rfl (eq_Sequence hBr ((le_Sequence).2 _ _ _ _ (On.R h)) ((le_Sequence).2 _ _ _ _ W.all)) (fun _ _ => ?_)
  refine KW.tF rfl rfl (by first | (simp; done) | decide) ?_
  refine KW.cF rfl rfl (by first | (simp; done) | decide) ?_
  refine KW.callE rfl rfl rfl rfl rfl (held_Sequence hBr (k := 1) (by have := size_Sequence hBr; constructor <;> omega) ((le_Sequence).2 _ _ _ _ G1.all)) (fun _ _ => ?_)
  refine KW.no rfl rfl (by omega) ?_
  refine KW.cF rfl rfl (by first | (simp; done) | decide) ?_
  exact KW.retM rfl rfl rfl rfl (fun id hid => (T.trans (inferInstance : On SM HM _ _).st) id hid) (fun H1 g => rfl)
end
end Go.Proofs.Ytaepgfafbnjccaa.Am
