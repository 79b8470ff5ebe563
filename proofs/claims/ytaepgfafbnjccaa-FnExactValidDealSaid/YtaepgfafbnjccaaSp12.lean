/- Contracts: marks on rows of numbers, and what has been held. Each holds under its own conditions. -/
import Derived.Test.YtaepgfafbnjccaaSp4
set_option linter.unusedVariables false
set_option maxRecDepth 20000
namespace Go.Proofs.Ytaepgfafbnjccaa.Am
open Go Go.RowKit Go.Proofs
/-- k, k + 1, .. -/
def cnt (k : Int) (n : Nat) : List Int := (List.range n).map fun (i : Nat) => k + (i : Int)
theorem cnt_len (k : Int) (n : Nat) : (cnt k n).length = n := by simp [cnt]
theorem cnt_at {k : Int} {n i : Nat} (h : i < n) : (cnt k n)[i]? = some (k + i) := by
  unfold cnt
  rw [List.getElem?_map, List.getElem?_range h]
  rfl
theorem Good.nle1 {m o n : Nat} {b : Blk} {j : Nat} {H0 H1 : AH} {T : List Var} (g : Good (fun i => Low m i ∧ i ≠ o) H0 T n H1) (hT : T[j]? = some (o, b)) : m ≤ H1.n := by
  have h1 := (g.blk hT).2
  have hn := g.n_
  rcases Nat.eq_zero_or_pos m with h | h
  · omega
  · by_cases e : m - 1 = o
    · omega
    · have := (g.froz (m - 1) ⟨by show m - 1 < m; omega, e⟩).1
      omega
section
variable {S : Ids} {H0 : AH}
theorem markInt64S {W : Ids} {a c} {xs : List Int} {k : Int} (hl : xs.length ≤ 4194304) (hk : 0 ≤ k ∧ k ≤ 1099511627776) (hW : ∀ id, W id → S id) (hs : KI.Ml W H0 (.slice a xs.length c) xs) :
    SpecW Try.prog S H0 W 33 [.slice a xs.length c, .int .i64 k] (fun n v H1 => v = .int .i64 (k + xs.length) ∧ KI.Ml W H1 (.slice a xs.length c) (cnt k xs.length)) := by
  rcases hs with ⟨rfl, a0, c0, he, ha⟩ | ⟨o, c1, bb, Ws, he, h2, h3, h4, h5, h6, h7, h8, h9⟩
  · refine SpecM.w ?_
    refine SpecM.of Try.func33 rfl (by kernel_rfl) rfl (fun H hfin hfz => ?_)
    refine KW.lp rfl rfl (fun _ : Unit => [(0, .slice a 0 c), (1, .int .i64 k), (5, .int .i64 0)]) (fun _ => True) (fun _ => 0) () trivial ⟨rfl, rfl, rfl, trivial⟩ (fun _ _ b n => ?_)
    refine KW.cnd rfl rfl (fun h => absurd h (by decide)) (fun _ => ?_)
    exact KW.retM rfl rfl rfl rfl (fun id hid => ⟨hid, rfl⟩) (fun H1 g => ⟨congrArg (Value.int .i64) (by simp), .inl ⟨rfl, a, c, rfl, by cases he; exact ha⟩⟩)
  · cases he
    obtain ⟨ty, rw, cells⟩ := bb
    obtain rfl : rw = true := h5
    have h6 : xs.length * 1 ≤ cells.length := h6
    refine SpecW.of Try.func33 rfl (by kernel_rfl) rfl (hW o h3) h4 (fun H hfin hfz => ?_)
    refine KW.lpM rfl rfl (fun s : Nat × List Value => [(0, .slice (some ⟨o, 0, some 1⟩) xs.length c), (1, .int .i64 (k + s.1)), (5, .int .i64 s.1)]) (fun _ => fun i => Low H.n i ∧ i ≠ o) (fun _ => H) (fun s => [(o, ⟨_, true, s.2⟩)]) (fun s => s.1 ≤ xs.length ∧ s.2.length = cells.length ∧ ∀ j, j < s.1 → s.2[j]? = some (.int .i64 (k + j))) (fun s => xs.length - s.1) (0, cells) ⟨by omega, rfl, fun j h => absurd h (by simp)⟩ ⟨rfl, congrArg (Value.int .i64) (by simp), rfl, trivial⟩ rfl rfl rfl (fun s hi b n => ?_)
    obtain ⟨i, cs⟩ := s
    obtain ⟨hi0, hi1, hi2⟩ := hi
    simp only at hi0 hi1 hi2
    refine KW.cnd rfl rfl (fun h => ?_) (fun h => ?_)
    · refine KW.idx0 rfl rfl rfl rfl rfl rfl rfl rfl rfl (by omega) h ?_
      refine KW.st1 0 rfl rfl rfl rfl rfl rfl rfl rfl rfl rfl rfl rfl (by simp only; omega) ?_
      refine KW.nxt rfl rfl (fun H' g => ⟨(i + 1, cs.set (0 + i * 1) (.int .i64 (k + i))), ⟨by simp only; omega, by simp [hi1], upto (fun j hj => ?_) ?_⟩, by simp only; omega, ⟨rfl, congrArg (Value.int .i64) (by rw [wr (by omega) (by omega)]; simp only; omega), congrArg (Value.int .i64) (inc64 (by omega)), trivial⟩, g⟩)
      · rw [Nat.zero_add, Nat.mul_one, List.getElem?_set_ne (by omega)]; exact hi2 j hj
      · rw [Nat.zero_add, Nat.mul_one, List.getElem?_set_self (by omega)]
    · obtain rfl : i = xs.length := by omega
      refine KW.retW rfl rfl rfl rfl (fun H1 g => g.nle1 (j := 0) rfl) (fun id hid hw => ⟨⟨hid, fun e => hw (by subst e; exact h3)⟩, rfl⟩) (fun H1 g => ⟨rfl, ?_⟩)
      have hb := g.blk (j := 0) rfl
      refine .inr ⟨o, c, _, fun _ _ => False, by rw [cnt_len], by rw [cnt_len]; exact h2, h3, hb.1, rfl, by rw [cnt_len]; simp only [Kn.int]; omega, fun _ _ h => h.elim, fun _ _ _ h => h.elim, fun j x hx => ?_⟩
      have hj : j < xs.length := by have := (List.getElem?_eq_some_iff.1 hx).1; rw [cnt_len] at this; exact this
      rw [cnt_at hj] at hx
      cases hx
      show ((cs.drop (0 + j * 1)).take 1) = [_]
      rw [List.take_one, Nat.zero_add, Nat.mul_one, List.head?_drop, hi2 j hj]
      rfl
theorem heldInt64S {a c} {n : Nat} {k : Int} (hl : n ≤ 4194304) (hk : 0 ≤ k ∧ k ≤ 1099511627776) (hs : KI.Sl S H0 (.slice a (cnt k n).length c) (cnt k n)) :
    Spec Try.prog S H0 34 [.slice a (cnt k n).length c, .int .i64 k] (fun v => v = .int .i64 (k + n)) := by
  refine Spec.of Try.func34 rfl (by kernel_rfl) rfl (fun H hfin hfz => ?_)
  have hs := hs.to hfz
  have hn := cnt_len k n
  refine KW.lp rfl rfl (fun i : Nat => [(0, .slice a (cnt k n).length c), (1, .int .i64 (k + i)), (5, .int .i64 i)]) (fun i => i ≤ n) (fun i => n - i) 0 (by omega) ⟨rfl, congrArg (Value.int .i64) (by simp), rfl, trivial⟩ (fun i hi b m => ?_)
  refine KW.cnd rfl rfl (fun h => ?_) (fun h => KW.ret rfl rfl rfl rfl ?_)
  · refine KW.getI hs rfl rfl rfl rfl rfl rfl rfl rfl rfl rfl rfl rfl rfl rfl rfl rfl (by omega) h (fun y hy => ?_)
    have hy : (cnt k n)[i]? = some y := hy
    rw [cnt_at (by omega)] at hy
    cases hy
    refine KW.cndB rfl rfl (fun h => absurd h (by simp)) (fun _ => ?_)
    exact KW.nxt rfl rfl (fun H' g => ⟨i + 1, by omega, by omega, ⟨rfl, congrArg (Value.int .i64) (by rw [wr (by omega) (by omega)]; omega), congrArg (Value.int .i64) (inc64 (by omega)), trivial⟩, g⟩)
  · obtain rfl : i = n := by omega
    rfl
/-- Rows marked, one behind the other. -/
def cnts (k : Int) : List Nat → List (List Int)
  | [] => []
  | n :: l => cnt k n :: cnts (k + n) l
theorem cnts_len (k : Int) (l : List Nat) : (cnts k l).length = l.length := by
  induction l generalizing k with
  | nil => rfl
  | cons n l ih => simp [cnts, ih]
theorem cnts_at {l : List Nat} {i n : Nat} (k : Int) (h : l[i]? = some n) : (cnts k l)[i]? = some (cnt (k + sum (l.take i)) n) := by
  induction l generalizing i k with
  | nil => simp at h
  | cons m l ih =>
    cases i with
    | zero => cases h; simp [cnts, sum]
    | succ i =>
      have h : l[i]? = some n := by simpa using h
      simp only [cnts, List.getElem?_cons_succ, List.take_succ_cons, sum]
      rw [ih (k + m) h]
      congr 2
      omega
theorem markInt64SS {W : Ids} {a c} {xs : List (List Int)} {k : Int} (hl : xs.length ≤ 4194304) (hx : sum (lens xs) ≤ 4194304) (hk : 0 ≤ k ∧ k ≤ 549755813888) (hW : ∀ id, W id → S id) (hs : KI.ml.Ml W H0 (.slice a xs.length c) xs) :
    SpecW Try.prog S H0 W 47 [.slice a xs.length c, .int .i64 k] (fun n v H1 => v = .int .i64 (k + sum (lens xs)) ∧ KI.ml.Ml W H1 (.slice a xs.length c) (cnts k (lens xs))) := by
  rcases hs with ⟨rfl, a0, c0, he, ha⟩ | ⟨o, c1, bb, Ws, he, h2, h3, h4, h5, h6, h7, h8, h9⟩
  · refine SpecM.w ?_
    refine SpecM.of Try.func47 rfl (by kernel_rfl) rfl (fun H hfin hfz => ?_)
    refine KW.lp rfl rfl (fun _ : Unit => [(0, .slice a 0 c), (1, .int .i64 k), (5, .int .i64 0)]) (fun _ => True) (fun _ => 0) () trivial ⟨rfl, rfl, rfl, trivial⟩ (fun _ _ b n => ?_)
    refine KW.cnd rfl rfl (fun h => absurd h (by decide)) (fun _ => ?_)
    exact KW.retM rfl rfl rfl rfl (fun id hid => ⟨hid, rfl⟩) (fun H1 g => ⟨congrArg (Value.int .i64) (by simp [sum]), .inl ⟨rfl, a, c, rfl, by cases he; exact ha⟩⟩)
  · cases he
    refine SpecW.of0 Try.func47 rfl (by kernel_rfl) rfl (fun H hfin hfz => ?_)
    obtain ⟨ho1, ho2⟩ := hfz o (hW o h3)
    have hWl : ∀ id, W id → id < H.n := fun id hid => (hfz id (hW id hid)).1
    have h4 := ho2.trans h4
    have hes : (KI.ml).es = 1 := rfl
    refine KW.lpM rfl rfl (fun s : Nat × Ids × AH => [(0, .slice (some ⟨o, 0, some 1⟩) xs.length c), (1, .int .i64 (k + sum ((lens xs).take s.1))), (5, .int .i64 s.1)]) (fun s => s.2.1) (fun s => s.2.2) (fun s => [])
      (fun s => s.1 ≤ xs.length ∧ (∀ id, id < H.n → s.2.1 id) ∧ (∀ id, id < H.n → (∀ j, ¬ Ws j id) → s.2.2.m id = H.m id) ∧ (∀ j x, xs[j]? = some x → (s.1 ≤ j → KI.ml.R (Ws j) s.2.2 x ((bb.cells.drop (0 + j * 1)).take 1)) ∧ (j < s.1 → KI.ml.R (Ws j) s.2.2 (cnt (k + sum ((lens xs).take j)) x.length) ((bb.cells.drop (0 + j * 1)).take 1))))
      (fun s => xs.length - s.1) (0, Low H.n, H) ⟨by omega, fun id hid => hid, fun id _ _ => rfl, fun j x hx' => ⟨fun _ => KI.ml.same (fun id hid => (hfz id (hW id (h7 j id hid).1)).2) (h9 j x hx'), fun h => absurd h (by simp)⟩⟩ ⟨rfl, congrArg (Value.int .i64) (by simp [sum]), rfl, trivial⟩ rfl rfl rfl (fun s hi b n => ?_)
    obtain ⟨i, S1, A⟩ := s
    obtain ⟨hi0, hi1, hi2, hi3⟩ := hi
    simp only at hi0 hi1 hi2 hi3
    have hAo : A.m o = some bb := (hi2 o ho1 (fun j hj => (h7 j o hj).2 rfl)).trans h4
    refine KW.cnd rfl rfl (fun h => ?_) (fun h => ?_)
    · have hil : i < xs.length := by omega
      obtain ⟨y, hy⟩ : ∃ y, xs[i]? = some y := ⟨xs[i], List.getElem?_eq_getElem hil⟩
      obtain ⟨sv, hsv, hrow⟩ := (hi3 i y hy).1 (Nat.le_refl _)
      obtain ⟨ay, cy, rfl⟩ := hrow.form
      have hyl : (lens xs)[i]? = some y.length := by simp [hy]
      have hsum := sum_take hyl
      have hsl := sum_le (l := lens xs) (i + 1)
      refine KW.idx0 rfl rfl rfl rfl rfl rfl rfl rfl rfl (by omega) h ?_
      refine KW.ldC (hi1 o ho1) hAo (cell_of hsv) rfl rfl rfl rfl rfl rfl rfl ?_
      refine KW.callW (fun id hid => hi1 id (hWl id (h7 i id hid).1)) rfl rfl rfl rfl rfl (markInt64S (k := k + sum ((lens xs).take i)) (by omega) (by omega) (fun id hid => hi1 id (hWl id (h7 i id hid).1)) hrow) (fun v H1 S' hn st hw hv => ?_)
      obtain ⟨rfl, hv⟩ := hv
      have st1 : ∀ id, id < H.n → S' id ∧ (¬ Ws i id → H1.m id = A.m id) := fun id hid => st id (hi1 id hid)
      refine KW.nxt rfl rfl (fun H' g => ⟨(i + 1, S', H1), ⟨by simp only; omega, fun id hid => (st1 id hid).1, fun id hid hno => ((st1 id hid).2 (hno i)).trans (hi2 id hid hno), fun j x hx' => ?_⟩, by simp only; omega, ⟨rfl, congrArg (Value.int .i64) (by simp only [hsum]; omega), congrArg (Value.int .i64) (inc64 (by omega)), trivial⟩, g⟩)
      simp only
      by_cases e : j = i
      · subst e
        rw [hy] at hx'
        cases hx'
        exact ⟨fun h => absurd h (by omega), fun _ => ⟨_, hsv, hv⟩⟩
      · have hsame : ∀ id, Ws j id → H1.m id = A.m id := fun id hid => (st1 id (hWl id (h7 j id hid).1)).2 (fun hc => e (h8 j i id hid hc))
        exact ⟨fun hj => KI.ml.same hsame ((hi3 j x hx').1 (by omega)), fun hj => KI.ml.same hsame ((hi3 j x hx').2 (by omega))⟩
    · obtain rfl : i = xs.length := by simp only at h; omega
      refine KW.retW rfl rfl rfl rfl (fun H1 g => ?_) (fun id hid hw => ⟨hi1 id hid, hi2 id hid (fun j hj => hw (h7 j id hj).1)⟩) (fun H1 g => ⟨congrArg (Value.int .i64) ?_, ?_⟩)
      · rcases Nat.eq_zero_or_pos H.n with h | h
        · omega
        · have := (g.froz (H.n - 1) (hi1 _ (by omega))).1; have := g.n_; omega
      · show k + ((sum ((lens xs).take xs.length) : Nat) : Int) = _
        rw [List.take_of_length_le (by simp)]
      · have hl2 : (cnts k (lens xs)).length = xs.length := by rw [cnts_len]; simp
        have keep : ∀ id, id < H.n → H1.m id = A.m id := fun id hid => (g.froz id (hi1 id hid)).2
        refine .inr ⟨o, c, bb, Ws, by rw [hl2], by rw [hl2]; exact h2, h3, (keep o ho1).trans hAo, h5, by rw [hl2]; exact h6, h7, h8, fun j x hx' => ?_⟩
        have hj : j < xs.length := by have := (List.getElem?_eq_some_iff.1 hx').1; omega
        obtain ⟨y, hy⟩ : ∃ y, xs[j]? = some y := ⟨xs[j], List.getElem?_eq_getElem hj⟩
        have hyl : (lens xs)[j]? = some y.length := by simp [hy]
        rw [cnts_at k hyl] at hx'
        cases hx'
        exact KI.ml.same (fun id hid => keep id (hWl id (h7 j id hid).1)) ((hi3 j y hy).2 hj)
end
end Go.Proofs.Ytaepgfafbnjccaa.Am
