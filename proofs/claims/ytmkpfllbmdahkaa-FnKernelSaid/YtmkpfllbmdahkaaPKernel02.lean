/- Contracts and laws on abstract memory, merged. Each holds under its own conditions. -/
import Derived.Test.YtmkpfllbmdahkaaPKernel01
/- Contracts: marks on rows of numbers, and what has been held. Each holds under its own conditions. -/
set_option linter.unusedVariables false
set_option maxRecDepth 20000
namespace Go.Proofs.Ytmkpfllbmdahkaa.Am
open Go Go.RowKit Go.Proofs
/-- k, k + 1, .. -/
def cnt (k : Int) (n : Nat) : List Int := (List.range n).map fun (i : Nat) => k + (i : Int)
theorem cnt_len (k : Int) (n : Nat) : (cnt k n).length = n := by simp [cnt]
theorem cnt_at {k : Int} {n i : Nat} (h : i < n) : (cnt k n)[i]? = some (k + i) := by
  unfold cnt
  rw [List.getElem?_map, List.getElem?_range h]
  rfl
theorem Good.nle1 {m o n : Nat} {b : Blk} {j : Nat} {H0 H1 : AH} {T : List Var} (g : Good (fun i => Low m i ∧ i ≠ o) H0 T n H1) (hT : T[j]? = some (o, b)) : m ≤ H1.n := by
  have h1 := (g.blk hT).2
  have hn := g.n_
  rcases Nat.eq_zero_or_pos m with h | h
  · omega
  · by_cases e : m - 1 = o
    · omega
    · have := (g.froz (m - 1) ⟨by show m - 1 < m; omega, e⟩).1
      omega
section
variable {S : Ids} {H0 : AH}
theorem markInt64S {W : Ids} {a c} {xs : List Int} {k : Int} (hl : xs.length ≤ 4194304) (hk : 0 ≤ k ∧ k ≤ 1099511627776) (hW : ∀ id, W id → S id) (hs : KI.Ml W H0 (.slice a xs.length c) xs) :
    SpecW Try.prog S H0 W 33 [.slice a xs.length c, .int .i64 k] (fun n v H1 => v = .int .i64 (k + xs.length) ∧ KI.Ml W H1 (.slice a xs.length c) (cnt k xs.length)) := by
  rcases hs with ⟨rfl, a0, c0, he, ha⟩ | ⟨o, c1, bb, Ws, he, h2, h3, h4, h5, h6, h7, h8, h9⟩
  · refine SpecM.w ?_
    refine SpecM.of Try.func33 rfl (by kernel_rfl) rfl (fun H hfin hfz => ?_)
    refine KW.lp rfl rfl (fun _ : Unit => [(0, .slice a 0 c), (1, .int .i64 k), (5, .int .i64 0)]) (fun _ => True) (fun _ => 0) () trivial ⟨rfl, rfl, rfl, trivial⟩ (fun _ _ b n => ?_)
    refine KW.cnd rfl rfl (fun h => absurd h (by decide)) (fun _ => ?_)
    exact KW.retM rfl rfl rfl rfl (fun id hid => ⟨hid, rfl⟩) (fun H1 g => ⟨congrArg (Value.int .i64) (by simp), .inl ⟨rfl, a, c, rfl, by cases he; exact ha⟩⟩)
  · cases he
    obtain ⟨ty, rw, cells⟩ := bb
    obtain rfl : rw = true := h5
    have h6 : xs.length * 1 ≤ cells.length := h6
    refine SpecW.of Try.func33 rfl (by kernel_rfl) rfl (hW o h3) h4 (fun H hfin hfz => ?_)
    refine KW.lpM rfl rfl (fun s : Nat × List Value => [(0, .slice (some ⟨o, 0, some 1⟩) xs.length c), (1, .int .i64 (k + s.1)), (5, .int .i64 s.1)]) (fun _ => fun i => Low H.n i ∧ i ≠ o) (fun _ => H) (fun s => [(o, ⟨_, true, s.2⟩)]) (fun s => s.1 ≤ xs.length ∧ s.2.length = cells.length ∧ ∀ j, j < s.1 → s.2[j]? = some (.int .i64 (k + j))) (fun s => xs.length - s.1) (0, cells) ⟨by omega, rfl, fun j h => absurd h (by simp)⟩ ⟨rfl, congrArg (Value.int .i64) (by simp), rfl, trivial⟩ rfl rfl rfl (fun s hi b n => ?_)
    obtain ⟨i, cs⟩ := s
    obtain ⟨hi0, hi1, hi2⟩ := hi
    simp only at hi0 hi1 hi2
    refine KW.cnd rfl rfl (fun h => ?_) (fun h => ?_)
    · refine KW.idx0 rfl rfl rfl rfl rfl rfl rfl rfl rfl (by omega) h ?_
      refine KW.st1 0 rfl rfl rfl rfl rfl rfl rfl rfl rfl rfl rfl rfl (by simp only; omega) ?_
      refine KW.nxt rfl rfl (fun H' g => ⟨(i + 1, cs.set (0 + i * 1) (.int .i64 (k + i))), ⟨by simp only; omega, by simp [hi1], upto (fun j hj => ?_) ?_⟩, by simp only; omega, ⟨rfl, congrArg (Value.int .i64) (by rw [wr (by omega) (by omega)]; simp only; omega), congrArg (Value.int .i64) (inc64 (by omega)), trivial⟩, g⟩)
      · rw [Nat.zero_add, Nat.mul_one, List.getElem?_set_ne (by omega)]; exact hi2 j hj
      · rw [Nat.zero_add, Nat.mul_one, List.getElem?_set_self (by omega)]
    · obtain rfl : i = xs.length := by omega
      refine KW.retW rfl rfl rfl rfl (fun H1 g => g.nle1 (j := 0) rfl) (fun id hid hw => ⟨⟨hid, fun e => hw (by subst e; exact h3)⟩, rfl⟩) (fun H1 g => ⟨rfl, ?_⟩)
      have hb := g.blk (j := 0) rfl
      refine .inr ⟨o, c, _, fun _ _ => False, by rw [cnt_len], by rw [cnt_len]; exact h2, h3, hb.1, rfl, by rw [cnt_len]; simp only [Kn.int]; omega, fun _ _ h => h.elim, fun _ _ _ h => h.elim, fun j x hx => ?_⟩
      have hj : j < xs.length := by have := (List.getElem?_eq_some_iff.1 hx).1; rw [cnt_len] at this; exact this
      rw [cnt_at hj] at hx
      cases hx
      show ((cs.drop (0 + j * 1)).take 1) = [_]
      rw [List.take_one, Nat.zero_add, Nat.mul_one, List.head?_drop, hi2 j hj]
      rfl
theorem heldInt64S {a c} {n : Nat} {k : Int} (hl : n ≤ 4194304) (hk : 0 ≤ k ∧ k ≤ 1099511627776) (hs : KI.Sl S H0 (.slice a (cnt k n).length c) (cnt k n)) :
    Spec Try.prog S H0 34 [.slice a (cnt k n).length c, .int .i64 k] (fun v => v = .int .i64 (k + n)) := by
  refine Spec.of Try.func34 rfl (by kernel_rfl) rfl (fun H hfin hfz => ?_)
  have hs := hs.to hfz
  have hn := cnt_len k n
  refine KW.lp rfl rfl (fun i : Nat => [(0, .slice a (cnt k n).length c), (1, .int .i64 (k + i)), (5, .int .i64 i)]) (fun i => i ≤ n) (fun i => n - i) 0 (by omega) ⟨rfl, congrArg (Value.int .i64) (by simp), rfl, trivial⟩ (fun i hi b m => ?_)
  refine KW.cnd rfl rfl (fun h => ?_) (fun h => KW.ret rfl rfl rfl rfl ?_)
  · refine KW.getI hs rfl rfl rfl rfl rfl rfl rfl rfl rfl rfl rfl rfl rfl rfl rfl rfl (by omega) h (fun y hy => ?_)
    have hy : (cnt k n)[i]? = some y := hy
    rw [cnt_at (by omega)] at hy
    cases hy
    refine KW.cndB rfl rfl (fun h => absurd h (by simp)) (fun _ => ?_)
    exact KW.nxt rfl rfl (fun H' g => ⟨i + 1, by omega, by omega, ⟨rfl, congrArg (Value.int .i64) (by rw [wr (by omega) (by omega)]; omega), congrArg (Value.int .i64) (inc64 (by omega)), trivial⟩, g⟩)
  · obtain rfl : i = n := by omega
    rfl
/-- Rows marked, one behind the other. -/
def cnts (k : Int) : List Nat → List (List Int)
  | [] => []
  | n :: l => cnt k n :: cnts (k + n) l
theorem cnts_len (k : Int) (l : List Nat) : (cnts k l).length = l.length := by
  induction l generalizing k with
  | nil => rfl
  | cons n l ih => simp [cnts, ih]
theorem cnts_at {l : List Nat} {i n : Nat} (k : Int) (h : l[i]? = some n) : (cnts k l)[i]? = some (cnt (k + sum (l.take i)) n) := by
  induction l generalizing i k with
  | nil => simp at h
  | cons m l ih =>
    cases i with
    | zero => cases h; simp [cnts, sum]
    | succ i =>
      have h : l[i]? = some n := by simpa using h
      simp only [cnts, List.getElem?_cons_succ, List.take_succ_cons, sum]
      rw [ih (k + m) h]
      congr 2
      omega
theorem markInt64SS {W : Ids} {a c} {xs : List (List Int)} {k : Int} (hl : xs.length ≤ 4194304) (hx : sum (lens xs) ≤ 4194304) (hk : 0 ≤ k ∧ k ≤ 549755813888) (hW : ∀ id, W id → S id) (hs : KI.ml.Ml W H0 (.slice a xs.length c) xs) :
    SpecW Try.prog S H0 W 128 [.slice a xs.length c, .int .i64 k] (fun n v H1 => v = .int .i64 (k + sum (lens xs)) ∧ KI.ml.Ml W H1 (.slice a xs.length c) (cnts k (lens xs))) := by
  rcases hs with ⟨rfl, a0, c0, he, ha⟩ | ⟨o, c1, bb, Ws, he, h2, h3, h4, h5, h6, h7, h8, h9⟩
  · refine SpecM.w ?_
    refine SpecM.of Try.func128 rfl (by kernel_rfl) rfl (fun H hfin hfz => ?_)
    refine KW.lp rfl rfl (fun _ : Unit => [(0, .slice a 0 c), (1, .int .i64 k), (5, .int .i64 0)]) (fun _ => True) (fun _ => 0) () trivial ⟨rfl, rfl, rfl, trivial⟩ (fun _ _ b n => ?_)
    refine KW.cnd rfl rfl (fun h => absurd h (by decide)) (fun _ => ?_)
    exact KW.retM rfl rfl rfl rfl (fun id hid => ⟨hid, rfl⟩) (fun H1 g => ⟨congrArg (Value.int .i64) (by simp [sum]), .inl ⟨rfl, a, c, rfl, by cases he; exact ha⟩⟩)
  · cases he
    refine SpecW.of0 Try.func128 rfl (by kernel_rfl) rfl (fun H hfin hfz => ?_)
    obtain ⟨ho1, ho2⟩ := hfz o (hW o h3)
    have hWl : ∀ id, W id → id < H.n := fun id hid => (hfz id (hW id hid)).1
    have h4 := ho2.trans h4
    have hes : (KI.ml).es = 1 := rfl
    refine KW.lpM rfl rfl (fun s : Nat × Ids × AH => [(0, .slice (some ⟨o, 0, some 1⟩) xs.length c), (1, .int .i64 (k + sum ((lens xs).take s.1))), (5, .int .i64 s.1)]) (fun s => s.2.1) (fun s => s.2.2) (fun s => [])
      (fun s => s.1 ≤ xs.length ∧ (∀ id, id < H.n → s.2.1 id) ∧ (∀ id, id < H.n → (∀ j, ¬ Ws j id) → s.2.2.m id = H.m id) ∧ (∀ j x, xs[j]? = some x → (s.1 ≤ j → KI.ml.R (Ws j) s.2.2 x ((bb.cells.drop (0 + j * 1)).take 1)) ∧ (j < s.1 → KI.ml.R (Ws j) s.2.2 (cnt (k + sum ((lens xs).take j)) x.length) ((bb.cells.drop (0 + j * 1)).take 1))))
      (fun s => xs.length - s.1) (0, Low H.n, H) ⟨by omega, fun id hid => hid, fun id _ _ => rfl, fun j x hx' => ⟨fun _ => KI.ml.same (fun id hid => (hfz id (hW id (h7 j id hid).1)).2) (h9 j x hx'), fun h => absurd h (by simp)⟩⟩ ⟨rfl, congrArg (Value.int .i64) (by simp [sum]), rfl, trivial⟩ rfl rfl rfl (fun s hi b n => ?_)
    obtain ⟨i, S1, A⟩ := s
    obtain ⟨hi0, hi1, hi2, hi3⟩ := hi
    simp only at hi0 hi1 hi2 hi3
    have hAo : A.m o = some bb := (hi2 o ho1 (fun j hj => (h7 j o hj).2 rfl)).trans h4
    refine KW.cnd rfl rfl (fun h => ?_) (fun h => ?_)
    · have hil : i < xs.length := by omega
      obtain ⟨y, hy⟩ : ∃ y, xs[i]? = some y := ⟨xs[i], List.getElem?_eq_getElem hil⟩
      obtain ⟨sv, hsv, hrow⟩ := (hi3 i y hy).1 (Nat.le_refl _)
      obtain ⟨ay, cy, rfl⟩ := hrow.form
      have hyl : (lens xs)[i]? = some y.length := by simp [hy]
      have hsum := sum_take hyl
      have hsl := sum_le (l := lens xs) (i + 1)
      refine KW.idx0 rfl rfl rfl rfl rfl rfl rfl rfl rfl (by omega) h ?_
      refine KW.ldC (hi1 o ho1) hAo (cell_of hsv) rfl rfl rfl rfl rfl rfl rfl ?_
      refine KW.callW (fun id hid => hi1 id (hWl id (h7 i id hid).1)) rfl rfl rfl rfl rfl (markInt64S (k := k + sum ((lens xs).take i)) (by omega) (by omega) (fun id hid => hi1 id (hWl id (h7 i id hid).1)) hrow) (fun v H1 S' hn st hw hv => ?_)
      obtain ⟨rfl, hv⟩ := hv
      have st1 : ∀ id, id < H.n → S' id ∧ (¬ Ws i id → H1.m id = A.m id) := fun id hid => st id (hi1 id hid)
      refine KW.nxt rfl rfl (fun H' g => ⟨(i + 1, S', H1), ⟨by simp only; omega, fun id hid => (st1 id hid).1, fun id hid hno => ((st1 id hid).2 (hno i)).trans (hi2 id hid hno), fun j x hx' => ?_⟩, by simp only; omega, ⟨rfl, congrArg (Value.int .i64) (by simp only [hsum]; omega), congrArg (Value.int .i64) (inc64 (by omega)), trivial⟩, g⟩)
      simp only
      by_cases e : j = i
      · subst e
        rw [hy] at hx'
        cases hx'
        exact ⟨fun h => absurd h (by omega), fun _ => ⟨_, hsv, hv⟩⟩
      · have hsame : ∀ id, Ws j id → H1.m id = A.m id := fun id hid => (st1 id (hWl id (h7 j id hid).1)).2 (fun hc => e (h8 j i id hid hc))
        exact ⟨fun hj => KI.ml.same hsame ((hi3 j x hx').1 (by omega)), fun hj => KI.ml.same hsame ((hi3 j x hx').2 (by omega))⟩
    · obtain rfl : i = xs.length := by simp only at h; omega
      refine KW.retW rfl rfl rfl rfl (fun H1 g => ?_) (fun id hid hw => ⟨hi1 id hid, hi2 id hid (fun j hj => hw (h7 j id hj).1)⟩) (fun H1 g => ⟨congrArg (Value.int .i64) ?_, ?_⟩)
      · rcases Nat.eq_zero_or_pos H.n with h | h
        · omega
        · have := (g.froz (H.n - 1) (hi1 _ (by omega))).1; have := g.n_; omega
      · show k + ((sum ((lens xs).take xs.length) : Nat) : Int) = _
        rw [List.take_of_length_le (by simp)]
      · have hl2 : (cnts k (lens xs)).length = xs.length := by rw [cnts_len]; simp
        have keep : ∀ id, id < H.n → H1.m id = A.m id := fun id hid => (g.froz id (hi1 id hid)).2
        refine .inr ⟨o, c, bb, Ws, by rw [hl2], by rw [hl2]; exact h2, h3, (keep o ho1).trans hAo, h5, by rw [hl2]; exact h6, h7, h8, fun j x hx' => ?_⟩
        have hj : j < xs.length := by have := (List.getElem?_eq_some_iff.1 hx').1; omega
        obtain ⟨y, hy⟩ : ∃ y, xs[j]? = some y := ⟨xs[j], List.getElem?_eq_getElem hj⟩
        have hyl : (lens xs)[j]? = some y.length := by simp [hy]
        rw [cnts_at k hyl] at hx'
        cases hx'
        exact KI.ml.same (fun id hid => keep id (hWl id (h7 j id hid).1)) ((hi3 j y hy).2 hj)
end
end Go.Proofs.Ytmkpfllbmdahkaa.Am
/- What the laws' own functions do, type by type: rows of numbers; how structs stand in memory. Each holds under its own conditions. -/
set_option linter.unusedVariables false
set_option maxRecDepth 20000
namespace Go.Proofs.Ytmkpfllbmdahkaa.Am
open Go Go.RowKit Go.Proofs
theorem all_of {α : Type} {xs : List α} {p : α → Prop} (h : ∀ j, j < xs.length → ∀ x, xs[j]? = some x → p x) : ∀ x ∈ xs, p x := fun x hx => by
  obtain ⟨j, hj⟩ := List.getElem?_of_mem hx
  exact h j (List.getElem?_eq_some_iff.1 hj).1 x hj
def None_ : Ids := fun _ => False
section
variable {α β : Type} {d : Kn α} {S S' X Y Z : Ids} {H H' : AH} {v : Value} {xs : List α} {x : α} {y : β} {cs ds : List Value}
theorem sl1 (h : d.sl.R S H xs [v]) : d.Sl S H v xs := by
  obtain ⟨s, h1, h2⟩ := h
  obtain rfl : v = s := by simpa using h1
  exact h2
theorem sl1' (h : d.Sl S H v xs) : d.sl.R S H xs [v] := ⟨v, rfl, h⟩
theorem ml1 (h : d.ml.R S H xs [v]) : d.Ml S H v xs := by
  obtain ⟨s, h1, h2⟩ := h
  obtain rfl : v = s := by simpa using h1
  exact h2
theorem ml1' (h : d.Ml S H v xs) : d.ml.R S H xs [v] := ⟨v, rfl, h⟩
theorem mlform (h : d.ml.R S H xs cs) : ∃ a c, cs = [.slice a xs.length c] := by
  obtain ⟨s, rfl, h2⟩ := h
  obtain ⟨a, c, rfl⟩ := h2.form
  exact ⟨a, c, rfl⟩
theorem slform (h : d.sl.R S H xs cs) : ∃ a c, cs = [.slice a xs.length c] := by
  obtain ⟨s, rfl, h2⟩ := h
  obtain ⟨a, c, rfl⟩ := h2.form
  exact ⟨a, c, rfl⟩
theorem prR {a : Kn α} {b : Kn β} (h : a.R S H x cs) (k : b.R S H y ds) : (Kn.pair a b).R S H (x, y) (cs ++ ds) := ⟨cs, ds, rfl, h, k⟩
theorem mpR {a : Kn α} {b : Kn β} (h : a.R X H x cs) (k : b.R Y H y ds) (hX : ∀ id, X id → Z id) (hY : ∀ id, Y id → Z id) (hd : ∀ id, X id → Y id → False) : (Kn.mp a b).R Z H (x, y) (cs ++ ds) := ⟨cs, ds, X, Y, rfl, hX, hY, hd, h, k⟩
theorem Good.keep {S0 : Ids} {H0 H2 : AH} {T : List Var} {n : Nat} (g : Good S0 H0 T n H2) [o : On X H S0 H0] (h : d.R X H x cs) : d.R X H2 x cs :=
  d.same (fun id hid => ((g.froz id (o.st id hid).1).2).trans (o.st id hid).2) h
theorem Good.inn {S0 : Ids} {H0 H2 : AH} {T : List Var} {n lo : Nat} (g : Good S0 H0 T n H2) [o : On X H S0 H0] (hX : ∀ id, X id → lo ≤ id) : ∀ id, X id → New lo H2.n id := fun id hid => ⟨hX id hid, by have := (g.froz id (o.st id hid).1).1; have := g.n_; omega⟩
end
/-- A fact on memory with what it rests on. -/
structure Fk {α : Type} (d : Kn α) (X S : Ids) (H : AH) (x : α) (cs : List Value) : Prop where
  r : d.R X H x cs
  i : ∀ id, X id → S id
section
variable {α : Type} {d : Kn α} {X X' S S' W : Ids} {H H1 : AH} {x : α} {cs : List Value}
theorem Fk.up [o : On S H S' H1] (h : Fk d X S H x cs) : Fk d X S' H1 x cs := ⟨d.same (fun id hid => (o.st id (h.i id hid)).2) h.r, fun id hid => (o.st id (h.i id hid)).1⟩
theorem Fk.all [o : On S H S' H1] (h : Fk d X S H x cs) : d.R S' H1 x cs := d.more (fun id hid => (o.st id (h.i id hid)).1) (d.same (fun id hid => (o.st id (h.i id hid)).2) h.r)
theorem Fk.w (h : Fk d X S H x cs) (t : StW W S H S' H1) (hd : ∀ id, X id → W id → False) : Fk d X S' H1 x cs := ⟨d.same (fun id hid => (t id (h.i id hid)).2 (hd id hid)) h.r, fun id hid => (t id (h.i id hid)).1⟩
theorem Fk.mk' (h : d.R X H x cs) (k : d.R X H x cs → d.R X' H x cs) (hi : ∀ id, X' id → S id) : Fk d X' S H x cs := ⟨k h, hi⟩
theorem Fk.on [o : On X H S H1] (h : d.R X H x cs) : Fk d X S H1 x cs := ⟨d.same (fun id hid => (o.st id hid).2) h, fun id hid => (o.st id hid).1⟩
theorem Fk.st (h : Fk d X S H x cs) : d.R S H x cs := d.more h.i h.r
theorem Fk.le {d' : Kn α} (k : KLe d d') (h : Fk d X S H x cs) : Fk d' X S H x cs := ⟨k.2 _ _ _ _ h.r, h.i⟩
end
/-- Marks, row by row. -/
def mks {α : Type} (mk : Int → α → α) (sz : α → Nat) (k : Int) : List α → List α
  | [] => []
  | x :: l => mk k x :: mks mk sz (k + sz x) l
theorem mks_len {α : Type} (mk : Int → α → α) (sz : α → Nat) (k : Int) (l : List α) : (mks mk sz k l).length = l.length := by
  induction l generalizing k with
  | nil => rfl
  | cons n l ih => simp [mks, ih]
theorem mks_at {α : Type} {mk : Int → α → α} {sz : α → Nat} {l : List α} {i : Nat} {x : α} (k : Int) (h : l[i]? = some x) : (mks mk sz k l)[i]? = some (mk (k + sum ((l.map sz).take i)) x) := by
  induction l generalizing i k with
  | nil => simp at h
  | cons m l ih =>
    cases i with
    | zero => cases h; simp [mks, sum]
    | succ i =>
      have h : l[i]? = some x := by simpa using h
      simp only [mks, List.getElem?_cons_succ, List.map_cons, List.take_succ_cons, sum]
      rw [ih (k + sz m) h]
      congr 2
      omega
abbrev K_Int64S : Kn (List Int) := KI.sl
abbrev M_Int64S : Kn (List Int) := KI.ml
abbrev B_Int64S (x : List Int) : Prop := x.length ≤ 1048576
abbrev W_Int64S (x : List Int) : Prop := x.length ≤ 9223372036854775807
abbrev sz_Int64S (x : List Int) : Nat := x.length
abbrev mk_Int64S (k : Int) (x : List Int) : List Int := cnt k x.length
abbrev K_Int64SS : Kn (List (List Int)) := KI.sl.sl
abbrev M_Int64SS : Kn (List (List Int)) := KI.ml.ml
abbrev B_Int64SS (x : List (List Int)) : Prop := Sml x
abbrev W_Int64SS (x : List (List Int)) : Prop := x.length ≤ 9223372036854775807 ∧ ∀ y ∈ x, y.length ≤ 9223372036854775807
abbrev sz_Int64SS (x : List (List Int)) : Nat := sum (lens x)
abbrev mk_Int64SS (k : Int) (x : List (List Int)) : List (List Int) := mks mk_Int64S sz_Int64S k x
theorem cnts_mks (k : Int) (l : List (List Int)) : cnts k (lens l) = mks mk_Int64S sz_Int64S k l := by
  induction l generalizing k with
  | nil => rfl
  | cons x l ih => simp only [lens, List.map_cons, cnts, mks] at ih ⊢; rw [ih]
theorem size_Int64S {x : List Int} (hB : B_Int64S x) : sz_Int64S x ≤ 1048576 := hB
theorem size_Int64SS {x : List (List Int)} (hB : B_Int64SS x) : sz_Int64SS x ≤ 1048576 := hB.tot
theorem le_Int64S : KLe M_Int64S K_Int64S := KLe.row (KLe.refl KI)
theorem le_Int64SS : KLe M_Int64SS K_Int64SS := KLe.row le_Int64S
section
variable {S : Ids} {H0 : AH} {W : Ids} {a a' : Option Addr} {c c' : Nat} {left k : Int}
theorem to_Int64S {x : List Int} (hB : B_Int64S x) (hs : K_Int64S.R S H0 x [.slice a x.length c]) : SpecM Try.prog S H0 30 [.slice a x.length c] (fun n v H1 => ∃ a c, v = .slice a x.length c ∧ M_Int64S.R (New n H1.n) H1 x [.slice a x.length c]) := fun H h1 h2 => by
  obtain ⟨m, v, H1, h3, h4, h5, a, c, h6, h7⟩ := toInt64S hB (sl1 hs) H h1 h2
  exact ⟨m, v, H1, h3, h4, h5, a, c, h6, ml1' h7⟩
theorem to_Int64SS {x : List (List Int)} (hB : B_Int64SS x) (hs : K_Int64SS.R S H0 x [.slice a x.length c]) : SpecM Try.prog S H0 102 [.slice a x.length c] (fun n v H1 => ∃ a c, v = .slice a x.length c ∧ M_Int64SS.R (New n H1.n) H1 x [.slice a x.length c]) := fun H h1 h2 => by
  obtain ⟨m, v, H1, h3, h4, h5, a, c, h6, h7⟩ := toInt64SS hB.len hB.each (sl1 hs) H h1 h2
  exact ⟨m, v, H1, h3, h4, h5, a, c, h6, ml1' h7⟩
theorem eq_Int64S {x : List Int} (hB : B_Int64S x) (hs : K_Int64S.R S H0 x [.slice a x.length c]) (hs' : K_Int64S.R S H0 x [.slice a' x.length c']) : Spec Try.prog S H0 32 [.slice a x.length c, .slice a' x.length c'] (fun v => v = .bool true) := eqInt64S1 hB (sl1 hs) (sl1 hs')
theorem eq_Int64SS {x : List (List Int)} (hB : B_Int64SS x) (hs : K_Int64SS.R S H0 x [.slice a x.length c]) (hs' : K_Int64SS.R S H0 x [.slice a' x.length c']) : Spec Try.prog S H0 105 [.slice a x.length c, .slice a' x.length c'] (fun v => v = .bool true) := eqInt64SS1 hB.len hB.each (sl1 hs) (sl1 hs')
theorem sz_Int64S' {x : List Int} (h0 : 0 ≤ left) (h1 : left ≤ 1048576) (hW : W_Int64S x) (hs : K_Int64S.R S H0 x [.slice a x.length c]) : Spec Try.prog S H0 106 [.slice a x.length c, .int .i64 left] (SzPost left (B_Int64S x)) := szInt64S h0 h1 hW
theorem sz_Int64SS' {x : List (List Int)} (h0 : 0 ≤ left) (h1 : left ≤ 1048576) (hW : W_Int64SS x) (hs : K_Int64SS.R S H0 x [.slice a x.length c]) : Spec Try.prog S H0 99 [.slice a x.length c, .int .i64 left] (SzPost left (B_Int64SS x)) := fun H h2 h3 => by
  obtain ⟨m, v, H1, h4, h5, h6, r, h7, h8⟩ := szInt64SS h0 h1 hW.1 hW.2 (sl1 hs) H h2 h3
  exact ⟨m, v, H1, h4, h5, h6, r, h7, h8.imp id (fun h => ⟨h.1, h.2.1, ⟨h.2.2.1, h.2.2.2⟩⟩)⟩
/-- Where marks may begin. -/
abbrev Mk (k : Int) (z : Nat) : Prop := 0 ≤ k ∧ k + z ≤ 274877906944
theorem mark_Int64S {x : List Int} (hB : B_Int64S x) (hk : Mk k (sz_Int64S x)) (hW : ∀ id, W id → S id) (hs : M_Int64S.R W H0 x [.slice a x.length c]) : SpecW Try.prog S H0 W 33 [.slice a x.length c, .int .i64 k] (fun n v H1 => v = .int .i64 (k + sz_Int64S x) ∧ M_Int64S.R W H1 (mk_Int64S k x) [.slice a x.length c]) := fun H h1 h2 => by
  obtain ⟨m, v, H1, h3, h4, h5, h6, h7, h8⟩ := markInt64S (by show x.length ≤ _; have : x.length ≤ 1048576 := hB; omega) ⟨hk.1, by have := hk.2; omega⟩ hW (ml1 hs) H h1 h2
  exact ⟨m, v, H1, h3, h4, h5, h6, h7, ml1' h8⟩
theorem mark_Int64SS {x : List (List Int)} (hB : B_Int64SS x) (hk : Mk k (sz_Int64SS x)) (hW : ∀ id, W id → S id) (hs : M_Int64SS.R W H0 x [.slice a x.length c]) : SpecW Try.prog S H0 W 128 [.slice a x.length c, .int .i64 k] (fun n v H1 => v = .int .i64 (k + sz_Int64SS x) ∧ M_Int64SS.R W H1 (mk_Int64SS k x) [.slice a x.length c]) := fun H h1 h2 => by
  obtain ⟨m, v, H1, h3, h4, h5, h6, h7, h8⟩ := markInt64SS (by have := hB.len; omega) (by have := hB.tot; omega) ⟨hk.1, by have := hk.2; omega⟩ hW (ml1 hs) H h1 h2
  exact ⟨m, v, H1, h3, h4, h5, h6, h7, ml1' (by rw [cnts_mks] at h8; exact h8)⟩
end
end Go.Proofs.Ytmkpfllbmdahkaa.Am
/- Rows in a list of one's own: one row is written, two change places. For every program. No condition beyond each theorem's own. -/
set_option linter.unusedSimpArgs false
set_option linter.unusedVariables false
namespace Go.Proofs.Ytmkpfllbmdahkaa.Am
open Go Go.RowKit Go.Proofs Go.Proofs.Ytmkpfllbmdahkaa.Pl
section
variable {S S' V : Ids} {A A' : AH} {rows : List (List Int)} {cs : List Value}
/-- One row: where it lies, that it may be written, and that the others lie elsewhere. -/
theorem RowsB.row1 (h : RowsB KI.ml S A V rows cs) {j : Nat} {x : List Int} (hx : rows[j]? = some x) :
    ∃ v W, cs[j]? = some v ∧ KI.Ml W A v x ∧ (∀ id, W id → V id) ∧ (∀ (k : Nat) y, k ≠ j → rows[k]? = some y → ∃ u X, cs[k]? = some u ∧ KI.Ml X A u y ∧ (∀ id, X id → V id ∧ ¬ W id)) ∧
      ∀ (S' : Ids) (A' : AH) x', StW W S A S' A' → KI.Ml W A' v x' → RowsB KI.ml S' A' V (rows.set j x') cs := by
  obtain ⟨W, h1, h2, h3⟩ := h.rows
  obtain ⟨v, h4, w, h5, h6⟩ := h3 j x hx
  obtain rfl : v = w := by simpa using h5
  refine ⟨v, W j, h4, h6, h1 j, fun k y hk hy => ?_, fun S' A' x' st hm => ⟨by rw [List.length_set]; exact h.len, fun id hid => (st id (h.sub id hid)).1, W, h1, h2, fun k y hy => ?_⟩⟩
  · obtain ⟨u, h7, w, h8, h9⟩ := h3 k y hy
    obtain rfl : u = w := by simpa using h8
    exact ⟨u, W k, h7, h9, fun id hid => ⟨h1 k id hid, fun hc => hk (h2 k j id hid hc)⟩⟩
  · rw [List.getElem?_set] at hy
    split at hy
    · rename_i e
      subst e
      split at hy
      · cases hy
        exact ⟨v, h4, v, rfl, hm⟩
      · cases hy
    · rename_i e
      obtain ⟨u, h7, h8⟩ := h3 k y hy
      exact ⟨u, h7, KI.ml.same (fun id hid => (st id (h.sub id (h1 k id hid))).2 (fun hc => e (h2 j k id hc hid))) h8⟩
/-- Two rows change places. -/
theorem RowsB.swap (h : RowsB KI.ml S A V rows cs) {n a : Nat} (hn : n < rows.length) (ha : a < rows.length) {v w : Value} (hv : cs[n]? = some v) (hw : cs[a]? = some w) : RowsB KI.ml S A V (sw rows n a) ((cs.set n w).set a v) := by
  obtain ⟨W, h1, h2, h3⟩ := h.rows
  have hl := h.len
  refine ⟨by simp [sw, hl], h.sub, fun j => if j = a then W n else if j = n then W a else W j, fun j id hid => ?_, fun i j id hi hj => ?_, fun j x hx => ?_⟩
  · simp only at hid
    split at hid
    · exact h1 _ _ hid
    · split at hid <;> exact h1 _ _ hid
  · simp only at hi hj
    split at hi <;> split at hj
    · omega
    · split at hj
      · have := h2 _ _ _ hi hj; omega
      · have := h2 _ _ _ hi hj; omega
    · split at hi
      · have := h2 _ _ _ hi hj; omega
      · have := h2 _ _ _ hi hj; omega
    · split at hi <;> split at hj
      · omega
      · have := h2 _ _ _ hi hj; omega
      · have := h2 _ _ _ hi hj; omega
      · exact h2 _ _ _ hi hj
  · have gn : rows[n]? = some (rows.getD n []) := by rw [List.getD_eq_getElem?_getD, List.getElem?_eq_getElem hn]; rfl
    have ga : rows[a]? = some (rows.getD a []) := by rw [List.getD_eq_getElem?_getD, List.getElem?_eq_getElem ha]; rfl
    obtain ⟨vn, n1, n2⟩ := h3 n _ gn
    obtain ⟨va, a1, a2⟩ := h3 a _ ga
    rw [hv] at n1; cases n1
    rw [hw] at a1; cases a1
    unfold sw at hx
    simp only
    rw [List.getElem?_set] at hx ⊢
    by_cases e : a = j
    · subst e
      rw [if_pos rfl, if_pos (by simp; exact ha)] at hx
      cases hx
      rw [if_pos rfl, if_pos (by simp; omega)]
      exact ⟨_, rfl, by simpa using n2⟩
    · rw [if_neg e] at hx ⊢
      rw [List.getElem?_set] at hx ⊢
      by_cases e2 : n = j
      · subst e2
        rw [if_pos rfl, if_pos hn] at hx
        cases hx
        rw [if_pos rfl, if_pos (by omega)]
        refine ⟨_, rfl, ?_⟩
        rw [if_neg (Ne.symm e), if_pos rfl]
        exact a2
      · rw [if_neg e2] at hx ⊢
        obtain ⟨u, h7, h8⟩ := h3 j x hx
        refine ⟨u, h7, ?_⟩
        rw [if_neg (Ne.symm e), if_neg (Ne.symm e2)]
        exact h8
end
section
variable {P : Program} {S : Ids} {H0 : AH} {k k1 : List It} {e e1 : Env} {T T1 : List Var} {n n1 : Nat} {l1 r1 : List Nat}
/-- The end of a writer that returns nothing. -/
theorem KW.endW {fn : Func} {H : AH} {W : Ids} {post : Value → AH → Prop} {vs : List Value} {a b : List Nat} (h : Go1 P k e T n (.done .normal) k1 e1 T1 n1 l1 r1) (hlr : l1 = r1) (hr : aresT P e1 T1 fn.results.toList = some (vs, a, b)) (hab : a = b)
    (hn : ∀ H1, Good S H0 T1 n1 H1 → H.n ≤ H1.n) (hS : ∀ id, id < H.n → ¬ W id → S id ∧ H0.m id = H.m id) (hp : ∀ H1, Good S H0 T1 n1 H1 → post (aout vs) H1) :
    KW P S H0 (Fin1 P fn (fun v H1 => H.n ≤ H1.n ∧ (∀ id, id < H.n → ¬ W id → H1.m id = H.m id) ∧ Fin' H1 ∧ post v H1)) n T k e := by
  refine KW.go h hlr (fun H1 g => ?_)
  have hv := aresT_ok (P := P) g _ hr hab
  simp only [Fin1, hv]
  exact ⟨hn H1 g, fun id hid hw => by rw [(g.froz id (hS id hid hw).1).2, (hS id hid hw).2], g.fin, hp H1 g⟩
/-- .. of a function that returns nothing. -/
theorem KW.endM {fn : Func} {H : AH} {post : Value → AH → Prop} {vs : List Value} {a b : List Nat} (h : Go1 P k e T n (.done .normal) k1 e1 T1 n1 l1 r1) (hlr : l1 = r1) (hr : aresT P e1 T1 fn.results.toList = some (vs, a, b)) (hab : a = b) (hS : ∀ id, id < H.n → S id ∧ H0.m id = H.m id)
    (hp : ∀ H1, Good S H0 T1 n1 H1 → post (aout vs) H1) :
    KW P S H0 (Fin1 P fn (fun v H1 => Ext H H1 ∧ Fin' H1 ∧ post v H1)) n T k e := by
  refine KW.go h hlr (fun H1 g => ?_)
  have hv := aresT_ok (P := P) g _ hr hab
  have hn := g.n_
  have hx : Ext H H1 := by
    refine ⟨?_, fun id hid => by rw [(g.froz id (hS id hid).1).2, (hS id hid).2]⟩
    rcases Nat.eq_zero_or_pos H.n with h | h
    · omega
    · have := (g.froz (H.n - 1) (hS _ (by omega)).1).1
      omega
  simp only [Fin1, hv]
  exact ⟨hx, g.fin, hp H1 g⟩
end
/-- The state of a loop that makes rows. -/
structure RwS where
  i : Nat
  S : Ids
  A : AH
  V : Ids
  cs : List Value
  o : Nat
structure RwI {α : Type} (f : α → List Int) (xs : List α) (H : AH) (SB : Ids) (HB : AH) (s : RwS) : Prop where
  le : s.i ≤ xs.length
  old : St SB HB s.S s.A
  b : RowsB KI.ml s.S s.A s.V ((xs.take s.i).map f) s.cs
  v : ∀ id, s.V id → H.n ≤ id
theorem RwI.start {α : Type} {f : α → List Int} {xs : List α} {H HB : AH} {SB : Ids} {o : Nat} : RwI f xs H SB HB ⟨0, SB, HB, fun _ => False, [], o⟩ := ⟨Nat.zero_le _, fun id hid => ⟨hid, rfl⟩, RowsB.nil _ _, fun _ h => h.elim⟩
theorem RwI.next {α : Type} {f : α → List Int} {xs : List α} {H HB HC : AH} {SB SC : Ids} {s : RwS} {n1 o' : Nat} {y : α} {v : Value} (h : RwI f xs H SB HB s) (t : St s.S s.A SC HC) (w : On (New n1 HC.n) HC SC HC) (low : ∀ id, s.S id → id < n1) (hn : H.n ≤ n1) (hy : xs[s.i]? = some y) (hc : KI.Ml (New n1 HC.n) HC v (f y)) : RwI f xs H SB HB ⟨s.i + 1, SC, HC, fun id => s.V id ∨ New n1 HC.n id, s.cs ++ [v], o'⟩ := by
  obtain ⟨hil, rfl⟩ := List.getElem?_eq_some_iff.1 hy
  haveI o1 : On s.S s.A SC HC := ⟨t⟩
  refine ⟨by simp only; omega, h.old.trans t, ?_, fun id hid => hid.elim (h.v id) (fun p => by have := p.1; omega)⟩
  simp only
  rw [List.take_succ_eq_append_getElem hil, List.map_append]
  exact (h.b.up (S' := SC) (A' := HC)).snoc (ml1' hc) (fun id hid => (w.st id hid).1) (fun id p q => by have := low id (h.b.sub id p); have := q.1; omega)
theorem RwI.ml {α : Type} {f : α → List Int} {xs : List α} {H HB H1 : AH} {SB : Ids} {s : RwS} {T : List Var} {n j : Nat} {ty : TypeId} (h : RwI f xs H SB HB s) (he : s.i = xs.length) (g : Good s.S s.A T n H1) (hT : T[j]? = some (s.o, ⟨ty, true, s.cs⟩)) (ho : H.n ≤ s.o) : KI.ml.Ml (New H.n H1.n) H1 (.slice (some ⟨s.o, 0, some 1⟩) xs.length xs.length) (xs.map f) := by
  have hb := h.b
  rw [he, List.take_of_length_le (Nat.le_refl _)] at hb
  have := hb.ml rfl g hT (X := New H.n H1.n) ⟨ho, (g.blk hT).2⟩ (fun id hid => ⟨h.v id hid, by have := (g.froz id (hb.sub id hid)).1; have := g.n_; omega⟩)
  simpa using this
section
variable {P : Program} {S : Ids} {H0 : AH} {Q : PostC} {k k1 : List It} {e e1 : Env} {T T1 : List Var} {n n1 : Nat} {l1 r1 : List Nat} {d1 : Tmp}
/-- x[:m]. -/
theorem KW.slTo {o : Oper} {dr : Bool} {t el : TypeId} {x y : Operand} {inf : TypeInfo} {id es len c m : Nat} (h : Go1 P k e T n (.op o dr) k1 e1 T1 n1 l1 r1) (hlr : l1 = r1) (ho : o.op = .slice t x none (some y) none) (hd : o.dst = some d1) (hx : ev e1 x = .slice (some ⟨id, 0, some es⟩) len c) (hy : ev e1 y = .int .i64 (m : Nat))
    (hu : P.underlying t = some (.slice el)) (hi : P.info? el = some inf) (he : inf.size = es) (hm : m ≤ c) (hk : KW P S H0 Q n1 T1 k1 (put1 e1 d1 (.slice (some ⟨id, 0, some es⟩) m c))) : KW P S H0 Q n T k e := by
  refine KW.pure h hlr ho hd rfl _ ?_ hk
  simp only [pop, acut, hu, hx, hi, Option.map, hy, bHi, bLo, abound]
  rw [if_pos ⟨by omega, by omega⟩]
  simp [he]
end
theorem RowsB.mlTo {S V X : Ids} {A H2 : AH} {rows : List (List Int)} {cs : List Value} {T : List Var} {n j o : Nat} {ty : TypeId} {m c : Nat} (h : RowsB KI.ml S A V rows cs) (g : Good S A T n H2) (hT : T[j]? = some (o, ⟨ty, true, cs⟩)) (hX : X o) (hV : ∀ id, V id → X id) (hm : m ≤ rows.length) (hc : m ≤ c) : KI.ml.Ml X H2 (.slice (some ⟨o, 0, some 1⟩) m c) (rows.take m) := by
  obtain ⟨W, h1, h2, h3⟩ := h.rows
  have hb := g.blk hT
  have hno := (g.vars j _ hT).2.2
  have hl := h.len
  have el : (rows.take m).length = m := by rw [List.length_take]; omega
  refine .inr ⟨o, c, _, W, by rw [el]; rfl, by rw [el]; exact hc, hX, hb.1, rfl, by rw [el]; show m * 1 ≤ cs.length; omega, fun i id hid => ⟨hV id (h1 i id hid), fun e => hno (e ▸ h.sub id (h1 i id hid))⟩, h2, fun i x hx => ?_⟩
  have hx' : rows[i]? = some x := by
    rw [List.getElem?_take] at hx
    split at hx
    · exact hx
    · cases hx
  obtain ⟨v, h4, h5⟩ := h3 i x hx'
  have e : ((cs.drop (0 + i * 1)).take 1) = [v] := by
    rw [Nat.zero_add, Nat.mul_one, List.take_one, List.head?_drop, h4]; rfl
  show KI.ml.R (W i) H2 x ((cs.drop (0 + i * 1)).take 1)
  rw [e]
  exact KI.ml.same (fun id hid => (g.froz id (h.sub id (h1 i id hid))).2) h5
end Go.Proofs.Ytmkpfllbmdahkaa.Am
/- Contracts: whether a function value tells true of an element of a slice. Each holds under its own conditions. -/
set_option linter.unusedVariables false
set_option maxRecDepth 20000
namespace Go.Proofs.Ytmkpfllbmdahkaa.Am
open Go Go.RowKit Go.Proofs
section
variable {S : Ids} {H0 : AH}
/-- A function value that tells something of each number. -/
def TellsI (P : Program) (S : Ids) (H0 : AH) (xs : List Int) (g : FuncId) (cap : List Value) (p : Int → Bool) : Prop :=
  ∀ S' H', On S H0 S' H' → ∀ y ∈ xs, Spec P S' H' g (.int .i64 y :: cap) (fun v => v = .bool (p y))
theorem TellsI.up {P : Program} {S' : Ids} {H' : AH} {xs : List Int} {g : FuncId} {cap : List Value} {p : Int → Bool} [o : On S H0 S' H'] (h : TellsI P S H0 xs g cap p) : TellsI P S' H' xs g cap p := fun S2 H2 o2 => h S2 H2 ⟨o.st.trans o2.st⟩
theorem indexFuncI {a c} {xs : List Int} {g : FuncId} {id k : Nat} {sp : Option Nat} {p : Int → Bool} (hl : xs.length ≤ 4611686018427387904) (hs : KI.Sl S H0 (.slice a xs.length c) xs) (hp : TellsI Try.prog S H0 xs g [.pointer (some ⟨id, k, none⟩)] p) :
    Spec Try.prog S H0 241 [.slice a xs.length c, .func (.func g) #[] #[.pointer (some ⟨id, k, sp⟩)]] (fun v => ∃ r : Int, v = .int .i64 r ∧ (r ≥ 0 ↔ ∃ x ∈ xs, p x = true)) := by
  refine Spec.of1 Try.func241 rfl (by kernel_rfl) rfl (fun H _ => ?_)
  refine KW.lp rfl rfl (fun i : Nat => [(0, .slice a xs.length c), (1, .func (.func g) #[] #[.pointer (some ⟨id, k, sp⟩)]), (7, .int .i64 xs.length), (8, .int .i64 i)]) (fun i => i ≤ xs.length ∧ ∀ j, j < i → ∀ x, xs[j]? = some x → p x = false) (fun i => xs.length - i) (0) (⟨by omega, fun j h => absurd h (by omega)⟩) ⟨rfl, rfl, rfl, rfl, trivial⟩ (fun i hi bE n => ?_)
  obtain ⟨hi, hj⟩ := hi
  refine KW.cnd rfl rfl (fun h => ?_) (fun h => ?_)
  · refine KW.getI hs.up rfl rfl rfl rfl rfl rfl rfl rfl rfl rfl rfl rfl rfl rfl rfl rfl (by omega) (h) (fun x hx => ?_)
    have hx : xs[i]? = some x := hx
    have hmem := List.mem_of_getElem? hx
    refine KW.callE rfl rfl rfl rfl rfl (hp _ _ inferInstance x hmem) (fun _ _ => ?_)
    refine KW.cndB rfl rfl (fun h2 => ?_) (fun h2 => ?_)
    · exact KW.ret rfl rfl rfl rfl (⟨(i : Int), rfl, fun _ => ⟨x, hmem, h2⟩, fun _ => by omega⟩)
    · refine KW.nxt rfl rfl (fun H' g => ⟨i + 1, ⟨by omega, upto hj (fun y hy => by rw [hx] at hy; cases hy; exact h2)⟩, by first | omega | (simp only; omega), ⟨rfl, rfl, rfl, congrArg (Value.int .i64) (inc64 (by omega)), trivial⟩, g⟩)
  · refine KW.ret rfl rfl rfl rfl ⟨-1, rfl, fun h => absurd h (by decide), fun ⟨x, hx, hpx⟩ => ?_⟩
    obtain ⟨j, hjx⟩ := List.getElem?_of_mem hx
    have := hj j (by have := (List.getElem?_eq_some_iff.1 hjx).1; omega) x hjx
    rw [hpx] at this; cases this
theorem containsFuncI {a c} {xs : List Int} {g : FuncId} {id k : Nat} {sp : Option Nat} {p : Int → Bool} (hl : xs.length ≤ 4611686018427387904) (hs : KI.Sl S H0 (.slice a xs.length c) xs) (hp : TellsI Try.prog S H0 xs g [.pointer (some ⟨id, k, none⟩)] p) :
    Spec Try.prog S H0 198 [.slice a xs.length c, .func (.func g) #[] #[.pointer (some ⟨id, k, sp⟩)]] (fun v => v = .bool (tv (∃ x ∈ xs, p x = true))) := by
  refine Spec.of1 Try.func198 rfl (by kernel_rfl) rfl (fun H _ => ?_)
  refine KW.call rfl rfl rfl rfl rfl (indexFuncI hl hs.up hp.up) (fun v _ _ hv => ?_)
  obtain ⟨r, rfl, hr⟩ := hv
  refine KW.ret rfl rfl rfl rfl ?_
  show Value.bool (decide (r ≥ 0)) = _
  rw [tv_dec, tv_congr hr]
/-- A function value that tells something of each row. -/
def TellsL (P : Program) (S : Ids) (H0 : AH) (xs : List (List Int)) (g : FuncId) (cap : List Value) (p : List Int → Bool) : Prop :=
  ∀ S' H', On S H0 S' H' → ∀ y ∈ xs, ∀ a c, KI.Sl S' H' (.slice a y.length c) y → Spec P S' H' g (.slice a y.length c :: cap) (fun v => v = .bool (p y))
theorem TellsL.up {P : Program} {S' : Ids} {H' : AH} {xs : List (List Int)} {g : FuncId} {cap : List Value} {p : List Int → Bool} [o : On S H0 S' H'] (h : TellsL P S H0 xs g cap p) : TellsL P S' H' xs g cap p := fun S2 H2 o2 => h S2 H2 ⟨o.st.trans o2.st⟩
theorem indexFuncL {a c} {xs : List (List Int)} {g : FuncId} {id k : Nat} {sp : Option Nat} {p : List Int → Bool} (hl : xs.length ≤ 4611686018427387904) (hs : KI.sl.Sl S H0 (.slice a xs.length c) xs) (hp : TellsL Try.prog S H0 xs g [.pointer (some ⟨id, k, none⟩)] p) :
    Spec Try.prog S H0 239 [.slice a xs.length c, .func (.func g) #[] #[.pointer (some ⟨id, k, sp⟩)]] (fun v => ∃ r : Int, v = .int .i64 r ∧ (r ≥ 0 ↔ ∃ x ∈ xs, p x = true)) := by
  refine Spec.of1 Try.func239 rfl (by kernel_rfl) rfl (fun H _ => ?_)
  refine KW.lp rfl rfl (fun i : Nat => [(0, .slice a xs.length c), (1, .func (.func g) #[] #[.pointer (some ⟨id, k, sp⟩)]), (7, .int .i64 xs.length), (8, .int .i64 i)]) (fun i => i ≤ xs.length ∧ ∀ j, j < i → ∀ x, xs[j]? = some x → p x = false) (fun i => xs.length - i) (0) (⟨by omega, fun j h => absurd h (by omega)⟩) ⟨rfl, rfl, rfl, rfl, trivial⟩ (fun i hi bE n => ?_)
  obtain ⟨hi, hj⟩ := hi
  refine KW.cnd rfl rfl (fun h => ?_) (fun h => ?_)
  · refine KW.getL hs.up rfl rfl rfl rfl rfl rfl rfl rfl rfl rfl rfl rfl rfl rfl rfl rfl (by omega) (h) (fun x ax cx hx hsx => ?_)
    have hx : xs[i]? = some x := hx
    have hmem := List.mem_of_getElem? hx
    refine KW.callE rfl rfl rfl rfl rfl (hp _ _ inferInstance x hmem _ _ hsx) (fun _ _ => ?_)
    refine KW.cndB rfl rfl (fun h2 => ?_) (fun h2 => ?_)
    · exact KW.ret rfl rfl rfl rfl (⟨(i : Int), rfl, fun _ => ⟨x, hmem, h2⟩, fun _ => by omega⟩)
    · refine KW.nxt rfl rfl (fun H' g => ⟨i + 1, ⟨by omega, upto hj (fun y hy => by rw [hx] at hy; cases hy; exact h2)⟩, by first | omega | (simp only; omega), ⟨rfl, rfl, rfl, congrArg (Value.int .i64) (inc64 (by omega)), trivial⟩, g⟩)
  · refine KW.ret rfl rfl rfl rfl ⟨-1, rfl, fun h => absurd h (by decide), fun ⟨x, hx, hpx⟩ => ?_⟩
    obtain ⟨j, hjx⟩ := List.getElem?_of_mem hx
    have := hj j (by have := (List.getElem?_eq_some_iff.1 hjx).1; omega) x hjx
    rw [hpx] at this; cases this
theorem containsFuncL {a c} {xs : List (List Int)} {g : FuncId} {id k : Nat} {sp : Option Nat} {p : List Int → Bool} (hl : xs.length ≤ 4611686018427387904) (hs : KI.sl.Sl S H0 (.slice a xs.length c) xs) (hp : TellsL Try.prog S H0 xs g [.pointer (some ⟨id, k, none⟩)] p) :
    Spec Try.prog S H0 195 [.slice a xs.length c, .func (.func g) #[] #[.pointer (some ⟨id, k, sp⟩)]] (fun v => v = .bool (tv (∃ x ∈ xs, p x = true))) := by
  refine Spec.of1 Try.func195 rfl (by kernel_rfl) rfl (fun H _ => ?_)
  refine KW.call rfl rfl rfl rfl rfl (indexFuncL hl hs.up hp.up) (fun v _ _ hv => ?_)
  obtain ⟨r, rfl, hr⟩ := hv
  refine KW.ret rfl rfl rfl rfl ?_
  show Value.bool (decide (r ≥ 0)) = _
  rw [tv_dec, tv_congr hr]
end
end Go.Proofs.Ytmkpfllbmdahkaa.Am
/- Contracts: primes, elements, valid matrices, of the program and of the reference. Each holds under its own conditions. -/
set_option linter.unusedVariables false
set_option maxRecDepth 20000
namespace Go.Proofs.Ytmkpfllbmdahkaa.Am
open Go Go.RowKit Go.Proofs
section
variable {P : Program} {S : Ids} {H0 : AH} {Q : PostC} {k k1 : List It} {e e1 : Env} {T T1 : List Var} {n n1 : Nat} {l1 r1 : List Nat} {d1 : Tmp}
theorem KW.rem {o : Oper} {dr : Bool} {t u : TypeId} {x y : Operand} {ik : IntKind} {a b : Int} (h : Go1 P k e T n (.op o dr) k1 e1 T1 n1 l1 r1) (hlr : l1 = r1) (ho : o.op = .binOp .rem t x y u) (hd : o.dst = some d1) (hx : ev e1 x = .int ik a) (hy : ev e1 y = .int ik b) (ha : 0 ≤ a) (hb : b ≠ 0)
    (hk : KW P S H0 Q n1 T1 k1 (put1 e1 d1 (.int ik (a % b)))) : KW P S H0 Q n T k e := by
  refine KW.pure h hlr ho hd rfl _ ?_ hk
  simp only [pop, hx, hy, abin, aint, if_true]
  rw [if_neg hb, Int.tmod_eq_emod_of_nonneg ha]
theorem KW.quo {o : Oper} {dr : Bool} {t u : TypeId} {x y : Operand} {a b : Int} (h : Go1 P k e T n (.op o dr) k1 e1 T1 n1 l1 r1) (hlr : l1 = r1) (ho : o.op = .binOp .quo t x y u) (hd : o.dst = some d1) (hx : ev e1 x = .int .i64 a) (hy : ev e1 y = .int .i64 b) (ha : 0 ≤ a ∧ a ≤ 9223372036854775807) (hb : 0 < b)
    (hk : KW P S H0 Q n1 T1 k1 (put1 e1 d1 (.int .i64 (a / b)))) : KW P S H0 Q n T k e := by
  refine KW.pure h hlr ho hd rfl _ ?_ hk
  simp only [pop, hx, hy, abin, aint, if_true]
  rw [if_neg (by omega), Int.tdiv_eq_ediv_of_nonneg ha.1]
  have h1 : 0 ≤ a / b := Int.ediv_nonneg ha.1 (by omega)
  have h2 : a / b ≤ a := Int.ediv_le_self _ ha.1
  rw [wr (by omega) (by omega)]
end
/-- A prime up to 31. -/
def PrimeP (p : Int) : Prop := 2 ≤ p ∧ p ≤ 31 ∧ ∀ d : Nat, 2 ≤ d → (d : Int) < p → ¬ p % d = 0
theorem prime_of {p : Int} {d : Nat} (h2 : 2 ≤ p) (h31 : p ≤ 31) (hd : 2 ≤ d) (hdd : ¬ (d : Int) * d ≤ p) (h : ∀ j : Nat, 2 ≤ j → j < d → ¬ p % j = 0) : PrimeP p := by
  refine ⟨h2, h31, fun q hq hqp hm => ?_⟩
  rcases Nat.lt_or_ge q d with hlt | hge
  · exact h q hq hlt hm
  · obtain ⟨r, hr⟩ := Int.dvd_of_emod_eq_zero hm
    have hr1 : 1 < r := by
      rcases Int.lt_or_le 1 r with h | h
      · exact h
      · have : (q : Int) * r ≤ q * 1 := Int.mul_le_mul_of_nonneg_left h (by omega)
        omega
    obtain ⟨s, rfl⟩ : ∃ s : Nat, r = s := ⟨r.toNat, by omega⟩
    have hs : (s : Int) < d := by
      rcases Int.lt_or_le (s : Int) d with h | h
      · exact h
      · have h1 : (d : Int) * d ≤ q * s := Int.mul_le_mul (by omega) h (by omega) (by omega)
        omega
    refine h s (by omega) (by omega) ?_
    rw [hr, Int.mul_emod_left]
theorem upto2 {d : Nat} {Q : Nat → Prop} (h : ∀ j, 2 ≤ j → j < d → Q j) (hd : Q d) : ∀ j, 2 ≤ j → j < d + 1 → Q j := fun j h2 hj => by
  rcases Nat.lt_or_ge j d with hl | hg
  · exact h j h2 hl
  · obtain rfl : j = d := by omega
    exact hd
section
variable {S : Ids} {H0 : AH}
theorem isPrime (p : Int) : Spec Try.prog S H0 194 [.int .i64 p] (fun v => v = .bool (tv (PrimeP p))) := by
  refine Spec.of1 Try.func194 rfl (by kernel_rfl) rfl (fun H _ => ?_)
  refine KW.lp rfl rfl (fun d : Nat => [(0, .int .i64 p), (3, .int .i64 d)]) (fun d => (2 ≤ d ∧ d ≤ 6) ∧ ∀ j : Nat, 2 ≤ j → j < d → ¬ p % j = 0) (fun d => 6 - d) (2) (⟨by omega, fun j h h' => by omega⟩) ⟨rfl, rfl, trivial⟩ (fun d hi bE n => ?_)
  obtain ⟨hd, hi⟩ := hi
  have hdd : (d : Int) * d ≤ 36 := by
    have : (d : Int) * d ≤ 6 * 6 := Int.mul_le_mul (by omega) (by omega) (by omega) (by omega)
    omega
  have hdd' : 0 ≤ (d : Int) * d := Int.mul_nonneg (by omega) (by omega)
  have ew : IntKind.i64.wrap ((d : Int) * d) = d * d := wr (by omega) (by omega)
  have fin : ¬ (d : Int) * d ≤ p ∨ ¬ p ≤ 31 → (decide (2 ≤ p ∧ p ≤ 31) : Bool) = tv (PrimeP p) := fun hx => by
    rw [tv_dec]
    refine tv_congr ⟨fun h => ?_, fun h => ⟨h.1, h.2.1⟩⟩
    exact prime_of h.1 h.2 hd.1 (hx.resolve_right (fun hc => hc h.2)) hi
  refine KW.tst rfl rfl (fun h => ?_) (fun h => ?_)
  · rw [ew] at h
    refine KW.cnd rfl rfl (fun h1 => ?_) (fun h1 => ?_)
    · refine KW.rem rfl rfl rfl rfl rfl rfl (by omega) (by omega) ?_
      refine KW.cndB rfl rfl (fun h2 => ?_) (fun h2 => ?_)
      · have hdp : (d : Int) < p := by
          have : (d : Int) * 2 ≤ d * d := Int.mul_le_mul_of_nonneg_left (by omega) (by omega)
          omega
        exact KW.ret rfl rfl rfl rfl (by rw [tv_false (fun hp => hp.2.2 d hd.1 hdp (by simpa using h2))]; rfl)
      · have h2 : ¬ p % (d : Int) = 0 := by simpa using h2
        have hd5 : d ≤ 5 := by
          rcases Nat.lt_or_ge d 6 with h | h
          · omega
          · have : (6 : Int) * 6 ≤ d * d := Int.mul_le_mul (by omega) (by omega) (by omega) (by omega)
            omega
        refine KW.nxt rfl rfl (fun H' g => ⟨d + 1, ⟨by omega, upto2 hi h2⟩, by first | omega | (simp only; omega), ⟨rfl, congrArg (Value.int .i64) (inc64 (by omega)), trivial⟩, g⟩)
    · refine KW.callE rfl rfl rfl rfl rfl (within _ _ _) (fun _ _ => ?_)
      exact KW.ret rfl rfl rfl rfl (congrArg Value.bool (fin (.inr h1)))
  · rw [ew] at h
    refine KW.cF rfl rfl (by first | (simp; done) | decide) ?_
    refine KW.callE rfl rfl rfl rfl rfl (within _ _ _) (fun _ _ => ?_)
    exact KW.ret rfl rfl rfl rfl (congrArg Value.bool (fin (.inl h)))
theorem specIsPrime (p : Int) : Spec Try.prog S H0 191 [.int .i64 p] (fun v => v = .bool (tv (PrimeP p))) := by
  refine Spec.of1 Try.func191 rfl (by kernel_rfl) rfl (fun H _ => ?_)
  refine KW.callE rfl rfl rfl rfl rfl (l00In _ _ _) (fun _ _ => ?_)
  refine KW.cndB rfl rfl (fun h => ?_) (fun h => ?_)
  · exact KW.ret rfl rfl rfl rfl (by rw [tv_false (fun hp => by have := hp.1; have := hp.2.1; simp at h; omega)]; rfl)
  have h : 2 ≤ p ∧ p ≤ 31 := by simpa using h
  refine KW.lp rfl rfl (fun d : Nat => [(0, .int .i64 p), (3, .int .i64 d)]) (fun d => (2 ≤ d ∧ (d : Int) ≤ p) ∧ ∀ j : Nat, 2 ≤ j → j < d → ¬ p % j = 0) (fun d => 32 - d) (2) (⟨by omega, fun j h h' => by omega⟩) ⟨rfl, rfl, trivial⟩ (fun d hi bE n => ?_)
  obtain ⟨hd, hi⟩ := hi
  refine KW.cnd rfl rfl (fun h1 => ?_) (fun h1 => ?_)
  · refine KW.rem rfl rfl rfl rfl rfl rfl (by omega) (by omega) ?_
    refine KW.cndB rfl rfl (fun h2 => ?_) (fun h2 => ?_)
    · exact KW.ret rfl rfl rfl rfl (by rw [tv_false (fun hp => hp.2.2 d hd.1 h1 (by simpa using h2))]; rfl)
    · refine KW.nxt rfl rfl (fun H' g => ⟨d + 1, ⟨by omega, upto2 hi (by simpa using h2)⟩, by first | omega | (simp only; omega), ⟨rfl, congrArg (Value.int .i64) (inc64 (by omega)), trivial⟩, g⟩)
  · exact KW.ret rfl rfl rfl rfl (by rw [tv_true (p := PrimeP p) ⟨h.1, h.2, fun j h2 hj => hi j h2 (by omega)⟩]; rfl)
/-- All are elements of the field. -/
def Elems (p : Int) (xs : List Int) : Prop := ∀ x ∈ xs, 0 ≤ x ∧ x ≤ p - 1
theorem areElements1 (p y : Int) (hp : I64 p) (hy : p ≠ -9223372036854775808) {id : Nat} {b : Blk} (hb : b.cells = [.int .i64 p]) (hv : S id ∧ H0.m id = some b) : Spec Try.prog S H0 206 [.int .i64 y, .pointer (some ⟨id, 0, none⟩)] (fun v => v = .bool (!decide (0 ≤ y ∧ y ≤ p - 1))) := by
  refine Spec.of1 Try.func206 rfl (by kernel_rfl) rfl (fun H _ => ?_)
  obtain ⟨hS1, hm1⟩ := On.blk (S' := Low H.n) (H' := H) hv.1 hv.2
  obtain ⟨ty, rw, cs⟩ := b
  subst hb
  refine KW.ldP hS1 hm1 rfl rfl rfl rfl rfl rfl ?_
  refine KW.callE rfl rfl rfl rfl rfl (within _ _ _) (fun _ _ => ?_)
  have e : IntKind.i64.wrap (p - 1) = p - 1 := wr (by have := hp.1; omega) (by have := hp.2; omega)
  refine KW.ret rfl rfl rfl rfl ?_
  rw [e]; rfl
theorem areElements (p : Int) (hp : I64 p) {a c} {xs : List Int} (hl : xs.length ≤ 4611686018427387904) (hs : KI.Sl S H0 (.slice a xs.length c) xs) : Spec Try.prog S H0 143 [.int .i64 p, .slice a xs.length c] (fun v => v = .bool (tv (PrimeP p ∧ Elems p xs))) := by
  refine Spec.of1 Try.func143 rfl (by kernel_rfl) rfl (fun H _ => ?_)
  refine KW.callE rfl rfl rfl rfl rfl (isPrime p) (fun _ _ => ?_)
  refine KW.tstB rfl rfl (fun h => ?_) (fun h => ?_)
  · have h := tv_iff.1 h
    refine KW.callV1 rfl rfl rfl rfl rfl (fun H1 g _ => containsFuncI (p := fun y => !decide (0 ≤ y ∧ y ≤ p - 1)) hl hs.up (fun S' H' o y _ => areElements1 p y hp (by have := h.1; omega) rfl (g.var (j := 0) rfl))) (fun _ _ => ?_)
    refine KW.ret rfl rfl rfl rfl ?_
    show Value.bool (!tv (∃ x ∈ xs, (!decide (0 ≤ x ∧ x ≤ p - 1)) = true)) = _
    by_cases hx : Elems p xs
    · rw [tv_true (p := PrimeP p ∧ Elems p xs) ⟨h, hx⟩, tv_false (fun ⟨x, h1, h2⟩ => by have := hx x h1; simp at h2; omega)]; rfl
    · rw [tv_false (p := PrimeP p ∧ Elems p xs) (fun hc => hx hc.2), tv_true ?_]; · rfl
      refine Classical.byContradiction fun hc => hx fun x h1 => ?_
      refine Classical.byContradiction fun h2 => hc ⟨x, h1, by simp; omega⟩
  · exact KW.ret rfl rfl rfl rfl (by rw [tv_false (p := PrimeP p ∧ Elems p xs) (fun hc => by rw [tv_true hc.1] at h; cases h)]; rfl)
end
/-- A matrix that is valid. -/
structure OkMat (p c : Int) (rows : List (List Int)) : Prop where
  pr : PrimeP p
  c0 : 0 ≤ c
  c1 : c ≤ 12
  len : rows.length ≤ 20
  row : ∀ r ∈ rows, (r.length : Int) = c ∧ Elems p r
theorem tvn {q : Prop} {b : Bool} (h : b = false) (h' : q → b = true) : Value.bool false = .bool (tv q) := by rw [tv_false (fun hq => by rw [h' hq] at h; cases h)]
section
variable {S : Ids} {H0 : AH}
theorem validMatrix1 (p c : Int) (hp : I64 p) {y : List Int} (hl : y.length ≤ 1048576) {a m} (hs : KI.Sl S H0 (.slice a y.length m) y) {id : Nat} {b : Blk} {v : Value} (hb : b.cells = [.int .i64 p, .int .i64 c, v]) (hv : S id ∧ H0.m id = some b) :
    Spec Try.prog S H0 196 [.slice a y.length m, .pointer (some ⟨id, 0, none⟩)] (fun v => v = .bool (!tv ((y.length : Int) = c ∧ (PrimeP p ∧ Elems p y)))) := by
  refine Spec.of1 Try.func196 rfl (by kernel_rfl) rfl (fun H _ => ?_)
  obtain ⟨hS1, hm1⟩ := On.blk (S' := Low H.n) (H' := H) hv.1 hv.2
  obtain ⟨ty, rw, cs⟩ := b
  subst hb
  refine KW.ldP hS1 hm1 rfl rfl rfl rfl rfl rfl ?_
  refine KW.tstB rfl rfl (fun h => ?_) (fun h => ?_)
  · exact KW.ret rfl rfl rfl rfl (by rw [tv_false (p := (y.length : Int) = c ∧ (PrimeP p ∧ Elems p y)) (fun hc => by rw [hc.1] at h; simp at h)]; rfl)
  · have h : (y.length : Int) = c := by simpa using h
    refine KW.ldP hS1 hm1 rfl rfl rfl rfl rfl rfl ?_
    refine KW.callE rfl rfl rfl rfl rfl (areElements p hp (by omega) hs.up) (fun _ _ => ?_)
    refine KW.ret rfl rfl rfl rfl ?_
    rw [tv_congr (q := (y.length : Int) = c ∧ (PrimeP p ∧ Elems p y)) ⟨fun hx => ⟨h, hx⟩, fun hx => hx.2⟩]; rfl
theorem validMatrix (p c : Int) (hp : I64 p) {a m} {rows : List (List Int)} (hB : B_Int64SS rows) (hs : KI.sl.Sl S H0 (.slice a rows.length m) rows) :
    Spec Try.prog S H0 103 [.agg #[.int .i64 p, .int .i64 c, .slice a rows.length m]] (fun v => v = .bool (tv (OkMat p c rows))) := by
  refine Spec.of1 Try.func103 rfl (by kernel_rfl) rfl (fun H _ => ?_)
  refine KW.callE rfl rfl rfl rfl rfl (isPrime p) (fun _ _ => ?_)
  refine KW.tstB rfl rfl (fun h1 => ?_) (fun h1 => ?_)
  · have k1 := tv_iff.1 h1
    refine KW.callE rfl rfl rfl rfl rfl (within _ _ _) (fun _ _ => ?_)
    refine KW.tstB rfl rfl (fun h2 => ?_) (fun h2 => ?_)
    · have k2 : 0 ≤ c ∧ c ≤ 12 := by simpa using h2
      refine KW.tst rfl rfl (fun h3 => ?_) (fun h3 => ?_)
      · have h3 : (rows.length : Int) ≤ 20 := h3
        refine KW.callV1 rfl rfl rfl rfl rfl (fun H1 g _ => containsFuncL (p := fun y => !tv ((y.length : Int) = c ∧ (PrimeP p ∧ Elems p y))) (by omega) hs.up (fun S' H' o y hy a c hsy => validMatrix1 p _ hp (hB.each y hy) hsy rfl (g.var (j := 0) rfl))) (fun _ _ => ?_)
        refine KW.ret rfl rfl rfl rfl ?_
        show Value.bool (!tv (∃ x ∈ rows, (!tv ((x.length : Int) = c ∧ (PrimeP p ∧ Elems p x))) = true)) = _
        by_cases hx : OkMat p c rows
        · rw [tv_true hx, tv_false (fun ⟨x, h1, h2⟩ => by rw [tv_true ⟨(hx.row x h1).1, k1, (hx.row x h1).2⟩] at h2; cases h2)]; rfl
        · rw [tv_false hx, tv_true ?_]; · rfl
          refine Classical.byContradiction fun hc => hx ⟨k1, k2.1, k2.2, by omega, fun x h1 => ?_⟩
          refine Classical.byContradiction fun h2 => hc ⟨x, h1, by rw [tv_false (fun h => h2 ⟨h.1, h.2.2⟩)]; rfl⟩
      · have h3 : ¬ (rows.length : Int) ≤ 20 := h3
        exact KW.ret rfl rfl rfl rfl (by rw [tv_false (p := OkMat p c rows) (fun hc => by have := hc.len; omega)]; rfl)
    · have k2 : ¬ (0 ≤ c ∧ c ≤ 12) := by simpa using h2
      repeat first | refine KW.tT rfl rfl rfl ?_ | refine KW.tF rfl rfl rfl ?_
      exact KW.ret rfl rfl rfl rfl (by rw [tv_false (p := OkMat p c rows) (fun hc => k2 ⟨hc.c0, hc.c1⟩)]; rfl)
  · repeat first | refine KW.tT rfl rfl rfl ?_ | refine KW.tF rfl rfl rfl ?_
    exact KW.ret rfl rfl rfl rfl (by rw [tv_false (p := OkMat p c rows) (fun hc => by rw [tv_true hc.pr] at h1; cases h1)]; rfl)
theorem l03Row (p c : Int) (hp : I64 (p - 1)) {a m} {xs : List Int} (hl : xs.length ≤ 1048576) (hs : KI.Sl S H0 (.slice a xs.length m) xs) :
    Spec Try.prog S H0 192 [.int .i64 p, .int .i64 c, .slice a xs.length m] (fun v => v = .bool (tv ((xs.length : Int) = c ∧ Elems p xs))) := by
  refine Spec.of1 Try.func192 rfl (by kernel_rfl) rfl (fun H _ => ?_)
  have ep : IntKind.i64.wrap (p - 1) = p - 1 := wr (by have := hp.1; omega) (by have := hp.2; omega)
  refine KW.lp rfl rfl (fun i : Nat => [(0, .int .i64 p), (1, .int .i64 c), (2, .slice a xs.length m), (7, .int .i64 i)]) (fun i => i ≤ xs.length ∧ ∀ j, j < i → ∀ x, xs[j]? = some x → 0 ≤ x ∧ x ≤ p - 1) (fun i => xs.length - i) (0) (⟨by omega, fun j h => absurd h (by omega)⟩) ⟨rfl, rfl, rfl, rfl, trivial⟩ (fun i hi bE n => ?_)
  obtain ⟨hi, hj⟩ := hi
  refine KW.cnd rfl rfl (fun h => ?_) (fun h => ?_)
  · refine KW.getI hs.up rfl rfl rfl rfl rfl rfl rfl rfl rfl rfl rfl rfl rfl rfl rfl rfl (by omega) (h) (fun y hy => ?_)
    have hy : xs[i]? = some y := hy
    refine KW.callE rfl rfl rfl rfl rfl (l00In _ _ _) (fun _ _ => ?_)
    rw [ep]
    refine KW.cndB rfl rfl (fun h2 => ?_) (fun h2 => ?_)
    · have h2 : ¬ (0 ≤ y ∧ y ≤ p - 1) := by simp at h2; omega
      exact KW.ret rfl rfl rfl rfl (by rw [tv_false (p := (xs.length : Int) = c ∧ Elems p xs) (fun hc => h2 (hc.2 y (List.mem_of_getElem? hy)))]; rfl)
    · refine KW.nxt rfl rfl (fun H' g => ⟨i + 1, ⟨by omega, upto hj (fun z hz => by rw [hy] at hz; cases hz; simpa using h2)⟩, by first | omega | (simp only; omega), ⟨rfl, rfl, rfl, congrArg (Value.int .i64) (inc64 (by omega)), trivial⟩, g⟩)
  · refine KW.ret rfl rfl rfl rfl ?_
    show Value.bool (((xs.length : Nat) : Int) == c) = _
    congr 1
    have hE : Elems p xs := fun x hx => by
      obtain ⟨j, hjx⟩ := List.getElem?_of_mem hx
      exact hj j (by have := (List.getElem?_eq_some_iff.1 hjx).1; omega) x hjx
    by_cases hc : ((xs.length : Nat) : Int) = c
    · rw [tv_true ⟨hc, hE⟩, hc]; simp
    · rw [tv_false (fun h => hc h.1)]; simpa using hc
end
/-- A block that has so and so standing from a place on. -/
def Has3 (S : Ids) (H : AH) (id k : Nat) (vs : List Value) : Prop := S id ∧ ∃ b, H.m id = some b ∧ ∀ i v, vs[i]? = some v → b.cells[k + i]? = some v
theorem Has3.up {S S' : Ids} {H H' : AH} {id k : Nat} {vs : List Value} [o : On S H S' H'] (h : Has3 S H id k vs) : Has3 S' H' id k vs := by
  obtain ⟨h1, b, h2, h3⟩ := h
  obtain ⟨h4, h5⟩ := On.blk (S' := S') (H' := H') h1 h2
  exact ⟨h4, b, h5, h3⟩
section
variable {P : Program} {S : Ids} {H0 : AH} {Q : PostC} {k k1 : List It} {e e1 : Env} {T T1 : List Var} {n n1 : Nat} {l1 r1 : List Nat} {d1 : Tmp}
/-- A field is read by a pointer. -/
theorem KW.ldF {o : Oper} {dr : Bool} {t : TypeId} {x : Operand} {id kk k0 : Nat} {vs : List Value} {sp : Option Nat} {v : Value} {td : TypeDesc} (i : Nat) (hv : Has3 S H0 id k0 vs) (h : Go1 P k e T n (.op o dr) k1 e1 T1 n1 l1 r1) (hlr : l1 = r1) (ho : o.op = .load t x) (hd : o.dst = some d1) (hx : ev e1 x = .pointer (some ⟨id, kk, sp⟩)) (hk0 : kk = k0 + i) (hi : vs[i]? = some v)
    (hu : P.underlying t = some td) (hnot : (match td with | .struct _ => false | .array _ _ => false | _ => true) = true) (hk : KW P S H0 Q n1 T1 k1 (put1 e1 d1 v)) : KW P S H0 Q n T k e := by
  obtain ⟨hS, b, hm, hc⟩ := hv
  exact KW.ldP hS hm h hlr ho hd hx (bload_at (by rw [hk0]; exact hc i v hi) hu hnot) hk
end
section
variable {S : Ids} {H0 : AH}
theorem l03Ok (p c : Int) (hp : I64 p) {id k : Nat} {a m} {rows : List (List Int)} (hB : B_Int64SS rows) (hv : Has3 S H0 id k [.int .i64 p, .int .i64 c, .slice a rows.length m]) (hs : KI.sl.Sl S H0 (.slice a rows.length m) rows) :
    Spec Try.prog S H0 100 [.pointer (some ⟨id, k, none⟩)] (fun v => v = .bool (tv (OkMat p c rows))) := by
  refine Spec.of1 Try.func100 rfl (by kernel_rfl) rfl (fun H _ => ?_)
  have hv := hv.up (S' := Low H.n) (H' := H)
  have hs := hs.up (S' := Low H.n) (H' := H)
  refine KW.ldF 0 hv rfl rfl rfl rfl rfl rfl rfl rfl rfl ?_
  refine KW.callE rfl rfl rfl rfl rfl (specIsPrime p) (fun _ _ => ?_)
  refine KW.tstB rfl rfl (fun h1 => ?_) (fun h1 => ?_)
  · repeat first | refine KW.tT rfl rfl rfl ?_ | refine KW.tF rfl rfl rfl ?_
    refine KW.cT rfl rfl (by first | (simp; done) | decide) ?_
    exact KW.ret rfl rfl rfl rfl (by rw [tv_false (p := OkMat p c rows) (fun hc => by rw [tv_true hc.pr] at h1; cases h1)]; rfl)
  have k1 : PrimeP p := tv_iff.1 (by simpa using h1)
  refine KW.ldF 1 hv rfl rfl rfl rfl rfl rfl rfl rfl rfl ?_
  refine KW.callE rfl rfl rfl rfl rfl (l00In _ _ _) (fun _ _ => ?_)
  refine KW.tstB rfl rfl (fun h2 => ?_) (fun h2 => ?_)
  · have k2 : ¬ (0 ≤ c ∧ c ≤ 12) := by simp at h2; omega
    repeat first | refine KW.tT rfl rfl rfl ?_ | refine KW.tF rfl rfl rfl ?_
    refine KW.cT rfl rfl (by first | (simp; done) | decide) ?_
    exact KW.ret rfl rfl rfl rfl (by rw [tv_false (p := OkMat p c rows) (fun hc => k2 ⟨hc.c0, hc.c1⟩)]; rfl)
  have k2 : 0 ≤ c ∧ c ≤ 12 := by simpa using h2
  refine KW.ldF 2 hv rfl rfl rfl rfl rfl rfl rfl rfl rfl ?_
  refine KW.cnd rfl rfl (fun h3 => ?_) (fun h3 => ?_)
  · have h3 : (rows.length : Int) > 20 := h3
    exact KW.ret rfl rfl rfl rfl (by rw [tv_false (p := OkMat p c rows) (fun hc => by have := hc.len; omega)]; rfl)
  have h3 : ¬ (rows.length : Int) > 20 := h3
  refine KW.lp rfl rfl (fun i : Nat => [(0, .pointer (some ⟨id, k, none⟩)), (3, .int .i64 i)]) (fun i => i ≤ rows.length ∧ ∀ j, j < i → ∀ x, rows[j]? = some x → (x.length : Int) = c ∧ Elems p x) (fun i => rows.length - i) (0) (⟨by omega, fun j h => absurd h (by omega)⟩) ⟨rfl, rfl, trivial⟩ (fun i hi bE n => ?_)
  obtain ⟨hi, hj⟩ := hi
  refine KW.ldF 2 hv rfl rfl rfl rfl rfl rfl rfl rfl rfl ?_
  refine KW.cnd rfl rfl (fun h => ?_) (fun h => ?_)
  · refine KW.ldF 0 hv rfl rfl rfl rfl rfl rfl rfl rfl rfl ?_
    refine KW.ldF 1 hv rfl rfl rfl rfl rfl rfl rfl rfl rfl ?_
    refine KW.ldF 2 hv rfl rfl rfl rfl rfl rfl rfl rfl rfl ?_
    refine KW.getL hs.up rfl rfl rfl rfl rfl rfl rfl rfl rfl rfl rfl rfl rfl rfl rfl rfl (by omega) (h) (fun y a' m' hy hsy => ?_)
    have hy : rows[i]? = some y := hy
    refine KW.callE rfl rfl rfl rfl rfl (l03Row p c (by unfold I64 at *; have := k1.1; omega) (hB.each y (List.mem_of_getElem? hy)) hsy) (fun _ _ => ?_)
    refine KW.cndB rfl rfl (fun h4 => ?_) (fun h4 => ?_)
    · exact KW.ret rfl rfl rfl rfl (by rw [tv_false (p := OkMat p c rows) (fun hc => by rw [tv_true (hc.row y (List.mem_of_getElem? hy))] at h4; cases h4)]; rfl)
    · have h4 := tv_iff.1 (by simpa using h4)
      refine KW.nxt rfl rfl (fun H' g => ⟨i + 1, ⟨by omega, upto hj (fun z hz => by rw [hy] at hz; cases hz; exact h4)⟩, by first | omega | (simp only; omega), ⟨rfl, congrArg (Value.int .i64) (inc64 (by omega)), trivial⟩, g⟩)
  · have hE : ∀ x ∈ rows, (x.length : Int) = c ∧ Elems p x := fun x hx => by
      obtain ⟨j, hjx⟩ := List.getElem?_of_mem hx
      exact hj j (by have := (List.getElem?_eq_some_iff.1 hjx).1; omega) x hjx
    exact KW.ret rfl rfl rfl rfl (by rw [tv_true (p := OkMat p c rows) ⟨k1, k2.1, k2.2, by omega, hE⟩]; rfl)
end
end Go.Proofs.Ytmkpfllbmdahkaa.Am
/- Contracts: the source of choices of the reference. Each holds under its own conditions. -/
set_option linter.unusedVariables false
set_option linter.unusedSimpArgs false
set_option maxRecDepth 20000
set_option maxHeartbeats 1000000
namespace Go.Proofs.Ytmkpfllbmdahkaa.Am
open Go Go.RowKit Go.Proofs
abbrev KB : Kn Int := Kn.int .u8
/-- A source that has been read at so many places. -/
def Src (ac : Option Addr) (n cc : Nat) (A : AH) (id at_ : Nat) : Prop := ∃ sd : Int, A.m id = some ⟨214, true, [.slice ac n cc, .int .i64 at_, .int .u64 sd]⟩
theorem srcOf {ac : Option Addr} {n cc : Nat} {A : AH} {id at_ : Nat} {w sd : Int} (h : A.m id = some ⟨214, true, [.slice ac n cc, .int .i64 w, .int .u64 sd]⟩) (e : w = (at_ : Nat)) : Src ac n cc A id at_ := ⟨sd, by rw [h, e]⟩
theorem and255 (x : Int) : (BitVec.ofInt IntKind.u64.bits x &&& BitVec.ofInt IntKind.u64.bits 255).toNat ≤ 255 := by
  rw [BitVec.toNat_and]
  exact Nat.le_trans Nat.and_le_right (by decide)
theorem last255 (x : Int) : ∃ z : Nat, z < 256 ∧ Value.int .i64 (IntKind.i64.wrap (IntKind.u64.wrap ((BitVec.ofInt IntKind.u64.bits x &&& BitVec.ofInt IntKind.u64.bits 255).toNat : Int))) = .int .i64 z := by
  have h := and255 x
  exact ⟨_, Nat.lt_succ_of_le h, congrArg (Value.int .i64) (by rw [wru (by omega) (by omega), wr (by omega) (by omega)])⟩
section
variable {S : Ids} {H0 : AH}
theorem srcNext {bs : List Int} (hb : ∀ x ∈ bs, 0 ≤ x ∧ x < 256) (hl : bs.length ≤ 1048576) {ac : Option Addr} {cc id at_ : Nat} {Y : Ids} (hat : at_ ≤ 1000000) (hS : S id) (hY : ∀ i, Y i → S i ∧ i ≠ id) (hsrc : Src ac bs.length cc H0 id at_) (hs : KB.Sl Y H0 (.slice ac bs.length cc) bs) :
    SpecW Try.prog S H0 (fun i => i = id) 213 [.pointer (some ⟨id, 0, none⟩)] (fun n v H1 => ∃ z : Nat, z < 256 ∧ v = .int .i64 z ∧ Src ac bs.length cc H1 id (at_ + 1)) := by
  obtain ⟨sd, hm⟩ := hsrc
  refine SpecW.of Try.func213 rfl (by kernel_rfl) rfl hS hm (fun H hfin hfz => ?_)
  have hs := hs.stX (S' := fun i => Low H.n i ∧ i ≠ id) (H' := H) (fun i hi => ⟨⟨(hfz i (hY i hi).1).1, (hY i hi).2⟩, (hfz i (hY i hi).1).2⟩)
  refine KW.ldT 0 rfl rfl rfl rfl rfl rfl rfl ?_
  refine KW.ldT 0 rfl rfl rfl rfl rfl rfl rfl ?_
  refine KW.cnd rfl rfl (fun k1 => ?gin) (fun k1 => ?gout)
  case' gin =>
    have k1 : (at_ : Int) < (bs.length : Int) := k1
    refine KW.ldT 0 rfl rfl rfl rfl rfl rfl rfl ?_
    refine KW.ldT 0 rfl rfl rfl rfl rfl rfl rfl ?_
    refine KW.getI hs rfl rfl rfl rfl rfl rfl rfl rfl rfl rfl rfl rfl rfl rfl rfl rfl (by omega) (k1) (fun y hy => ?_)
    have hyb := hb y (List.mem_of_getElem? hy)
  case' gout =>
    have k1 : ¬ (at_ : Int) < (bs.length : Int) := k1
  all_goals
    have ei : IntKind.i64.wrap ((at_ : Int) + 1) = ((at_ + 1 : Nat) : Int) := inc64 (by omega)
    refine KW.ldT 0 rfl rfl rfl rfl rfl rfl rfl ?_
    refine KW.st1 0 rfl rfl rfl rfl rfl rfl rfl rfl rfl rfl rfl rfl (by simp) ?_
    refine KW.ldT 0 rfl rfl rfl rfl rfl rfl rfl ?_
    refine KW.st1 0 rfl rfl rfl rfl rfl rfl rfl rfl rfl rfl rfl rfl (by simp) ?_
    refine KW.ldT 0 rfl rfl rfl rfl rfl rfl rfl ?_
    refine KW.ldT 0 rfl rfl rfl rfl rfl rfl rfl ?_
  case gin =>
    refine KW.yes rfl rfl (by rw [ei]; omega) ?_
    have e0 : IntKind.i64.wrap y = y := wr (by omega) (by omega)
    refine KW.retW rfl rfl rfl rfl (fun H1 g => by have := g.n_; omega) (fun i hi hw => ⟨⟨hi, hw⟩, rfl⟩) (fun H1 g => ⟨y.toNat, by omega, ?_, ?_⟩)
    · show Value.int .i64 (IntKind.i64.wrap y) = _
      rw [e0, Int.toNat_of_nonneg hyb.1]
    · have h := (g.blk (j := 0) rfl).1
      exact srcOf h ei
  case gout =>
    refine KW.no rfl rfl (by rw [ei]; omega) ?_
    refine KW.ldT 0 rfl rfl rfl rfl rfl rfl rfl ?_
    refine KW.retW rfl rfl rfl rfl (fun H1 g => by have := g.n_; omega) (fun i hi hw => ⟨⟨hi, hw⟩, rfl⟩) (fun H1 g => ?_)
    have h := (g.blk (j := 0) rfl).1
    have hsrc : Src ac bs.length cc H1 id (at_ + 1) := by
      exact srcOf h ei
    exact Exists.imp (fun z hz => ⟨hz.1, hz.2, hsrc⟩) (last255 _)
/-- What a choice leaves. -/
def SrcP (ac : Option Addr) (n cc id at_ : Nat) (p : Nat → Prop) (v : Value) (H1 : AH) : Prop := ∃ z at' : Nat, p z ∧ at_ ≤ at' ∧ at' ≤ at_ + 2 ∧ v = .int .i64 z ∧ Src ac n cc H1 id at'
theorem srcPick {bs : List Int} (hb : ∀ x ∈ bs, 0 ≤ x ∧ x < 256) (hl : bs.length ≤ 1048576) {ac : Option Addr} {cc id at_ : Nat} {Y : Ids} {n : Int} (hn : n ≤ 1000000) (hat : at_ ≤ 900000) (hS : S id) (hY : ∀ i, Y i → S i ∧ i ≠ id) (hsrc : Src ac bs.length cc H0 id at_) (hs : KB.Sl Y H0 (.slice ac bs.length cc) bs) :
    SpecW Try.prog S H0 (fun i => i = id) 153 [.pointer (some ⟨id, 0, none⟩), .int .i64 n] (fun _ v H1 => SrcP ac bs.length cc id at_ (fun z => 1 ≤ n → (z : Int) < n) v H1) := by
  refine SpecW.of0 Try.func153 rfl (by kernel_rfl) rfl (fun H hfin hfz => ?_)
  have fx : ∀ i, S i → Low H.n i ∧ H.m i = H0.m i := fun i hi => hfz i hi
  have hid : id < H.n := (fx id hS).1
  have hsrcH : Src ac bs.length cc H id at_ := by obtain ⟨sd, h⟩ := hsrc; exact ⟨sd, (fx id hS).2.trans h⟩
  have hsH := hs.stX (S' := fun i => Low H.n i ∧ i ≠ id) (H' := H) (fun i hi => ⟨⟨(fx i (hY i hi).1).1, (hY i hi).2⟩, (fx i (hY i hi).1).2⟩)
  refine KW.cnd rfl rfl (fun k1 => ?_) (fun k1 => ?_)
  · have k1 : n ≤ 1 := k1
    refine KW.retW rfl rfl rfl rfl (fun H1 g => by have := g.n_; omega) (fun i hi hw => ⟨hi, rfl⟩) (fun H1 g => ⟨0, at_, fun h => by omega, Nat.le_refl _, by omega, rfl, ?_⟩)
    obtain ⟨sd, h⟩ := hsrcH
    exact ⟨sd, (g.froz id hid).2.trans h⟩
  · have k1 : ¬ n ≤ 1 := k1
    obtain ⟨m, rfl⟩ : ∃ m : Nat, n = m := ⟨n.toNat, by omega⟩
    refine KW.callW (W := fun i => i = id) (fun i hi => by subst hi; exact hid) rfl rfl rfl rfl rfl (srcNext (S := Low H.n) (H0 := H) hb hl (by omega) hid (fun i hi => hi) hsrcH hsH) (fun v H1 S1 hn1 st1 hw1 hp => ?_)
    obtain ⟨z1, hz1, rfl, hsrc1⟩ := hp
    refine KW.cnd rfl rfl (fun k2 => ?_) (fun k2 => ?_)
    · have t1 : ∀ i, Low H.n i ∧ i ≠ id → (S1 i ∧ i ≠ id) ∧ H1.m i = H.m i := fun i hi => ⟨⟨(st1 i hi.1).1, hi.2⟩, (st1 i hi.1).2 hi.2⟩
      refine KW.callW (W := fun i => i = id) (fun i hi => by subst hi; exact (st1 i hid).1) rfl rfl rfl rfl rfl (srcNext (S := S1) (H0 := H1) hb hl (by omega) (st1 id hid).1 (fun i hi => hi) hsrc1 (hsH.stX t1)) (fun v H2 S2 hn2 st2 hw2 hp => ?_)
      obtain ⟨z2, hz2, rfl, hsrc2⟩ := hp
      have e1 : IntKind.i64.wrap (IntKind.i64.wrap ((z1 : Int) * 256) + (z2 : Int)) = ((z1 * 256 + z2 : Nat) : Int) := by rw [wr (x := (z1 : Int) * 256) (by omega) (by omega), wr (by omega) (by omega)]; omega
      refine KW.rem rfl rfl rfl rfl rfl rfl (by rw [e1]; omega) (by omega) ?_
      refine KW.retW rfl rfl rfl rfl (fun H3 g => by have := g.n_; omega) (fun i hi hw => ⟨(st2 i (st1 i hi).1).1, ((st2 i (st1 i hi).1).2 hw).trans ((st1 i hi).2 hw)⟩) (fun H3 g => ⟨((z1 * 256 + z2 : Nat) % m), at_ + 2, fun h => ?_, by omega, by omega, ?_, ?_⟩)
      · have := Nat.mod_lt (z1 * 256 + z2) (show 0 < m by omega)
        omega
      · show Value.int .i64 (IntKind.i64.wrap (IntKind.i64.wrap ((z1 : Int) * 256) + (z2 : Int)) % (m : Int)) = _
        rw [e1]
        rfl
      · obtain ⟨sd, h⟩ := hsrc2
        exact ⟨sd, (g.froz id (st2 id (st1 id hid).1).1).2.trans h⟩
    · refine KW.rem rfl rfl rfl rfl rfl rfl (by omega) (by omega) ?_
      refine KW.retW rfl rfl rfl rfl (fun H3 g => by have := g.n_; omega) (fun i hi hw => ⟨(st1 i hi).1, (st1 i hi).2 hw⟩) (fun H3 g => ⟨z1 % m, at_ + 1, fun h => ?_, by omega, by omega, ?_, ?_⟩)
      · have := Nat.mod_lt z1 (show 0 < m by omega)
        omega
      · rfl
      · obtain ⟨sd, h⟩ := hsrc1
        exact ⟨sd, (g.froz id (st1 id hid).1).2.trans h⟩
theorem srcOne {bs : List Int} (hb : ∀ x ∈ bs, 0 ≤ x ∧ x < 256) (hl : bs.length ≤ 1048576) {ac : Option Addr} {cc id at_ : Nat} {Y : Ids} {n : Int} (hn : n ≤ 1000000) (hat : at_ ≤ 900000) (hS : S id) (hY : ∀ i, Y i → S i ∧ i ≠ id) (hsrc : Src ac bs.length cc H0 id at_) (hs : KB.Sl Y H0 (.slice ac bs.length cc) bs) :
    SpecW Try.prog S H0 (fun i => i = id) 152 [.pointer (some ⟨id, 0, none⟩), .int .i64 n] (fun _ v H1 => ∃ (b : Bool) (at' : Nat), at_ ≤ at' ∧ at' ≤ at_ + 2 ∧ v = .bool b ∧ Src ac bs.length cc H1 id at') := by
  refine SpecW.of0 Try.func152 rfl (by kernel_rfl) rfl (fun H hfin hfz => ?_)
  have fx : ∀ i, S i → Low H.n i ∧ H.m i = H0.m i := fun i hi => hfz i hi
  have hid : id < H.n := (fx id hS).1
  have hsrcH : Src ac bs.length cc H id at_ := by obtain ⟨sd, h⟩ := hsrc; exact ⟨sd, (fx id hS).2.trans h⟩
  have hsH := hs.stX (S' := fun i => Low H.n i ∧ i ≠ id) (H' := H) (fun i hi => ⟨⟨(fx i (hY i hi).1).1, (hY i hi).2⟩, (fx i (hY i hi).1).2⟩)
  refine KW.callW (W := fun i => i = id) (fun i hi => by subst hi; exact hid) rfl rfl rfl rfl rfl (srcPick (S := Low H.n) (H0 := H) hb hl hn hat hid (fun i hi => hi) hsrcH hsH) (fun v H1 S1 hn1 st1 hw1 hp => ?_)
  obtain ⟨z, at', _, h1, h2, rfl, sd, hm⟩ := hp
  refine KW.retW rfl rfl rfl rfl (fun H3 g => by have := g.n_; omega) (fun i hi hw => ⟨(st1 i hi).1, (st1 i hi).2 hw⟩) (fun H3 g => ⟨_, at', h1, h2, rfl, sd, (g.froz id (st1 id hid).1).2.trans hm⟩)
theorem built_Src (a : Option Addr) (n c : Nat) : Try.prog.built 214 [(0, .slice a n c)] = some #[.slice a n c, .int .i64 0, .int .u64 0] := by kernel_rfl
theorem srcFrom {a : Option Addr} {n c : Nat} : SpecM Try.prog S H0 131 [.slice a n c] (fun m v H1 => ∃ (o : Nat) (sp : Option Nat), v = .pointer (some ⟨o, 0, sp⟩) ∧ New m H1.n o ∧ Src a n c H1 o 0) := by
  refine SpecM.of1 Try.func131 rfl (by kernel_rfl) rfl (fun H _ => ?_)
  refine KW.build rfl rfl rfl rfl rfl (built_Src _ _ _) ?_
  refine KW.retM1 rfl rfl rfl rfl (fun H1 g => ?_)
  exact ⟨_, _, rfl, ⟨g.ge (H1 := H) (j := 0) rfl, (g.blk (j := 0) rfl).2⟩, _, (g.blk (j := 0) rfl).1⟩
end
end Go.Proofs.Ytmkpfllbmdahkaa.Am
/- Contracts: families and their validity. Each holds under its own conditions. -/
set_option linter.unusedVariables false
set_option maxRecDepth 20000
namespace Go.Proofs.Ytmkpfllbmdahkaa.Am
open Go Go.RowKit Go.Proofs
section
variable {S : Ids} {H0 : AH}
theorem l01Before {a c a' c'} {xs ys : List Int} (hl : xs.length ≤ 1048576) (hs : (Kn.int .i64).Sl S H0 (.slice a xs.length c) xs) (hs' : (Kn.int .i64).Sl S H0 (.slice a' ys.length c') ys) :
    Spec Try.prog S H0 260 [.slice a xs.length c, .slice a' ys.length c'] (fun v => v = .bool (lexB xs ys)) := by
  refine Spec.of Try.func260 rfl (by kernel_rfl) rfl (fun H hfin hfz => ?_)
  have hs := hs.to hfz
  have hs' := hs'.to hfz
  refine KW.lp rfl rfl (fun i : Nat => [(0, .slice a xs.length c), (1, .slice a' ys.length c'), (5, .int .i64 i)]) (fun i => i ≤ xs.length ∧ i ≤ ys.length ∧ lexB xs ys = lexB (xs.drop i) (ys.drop i)) (fun i => xs.length - i) 0 ⟨by omega, by omega, rfl⟩ ⟨rfl, rfl, rfl, trivial⟩ (fun i hi b n => ?_)
  obtain ⟨hi, hi', hj⟩ := hi
  have fin : (i = xs.length ∨ i = ys.length) → aout [Value.bool (decide ((xs.length : Int) < ys.length))] = .bool (lexB xs ys) := fun h => by
    rw [hj, lexB_end h hi hi']
    show Value.bool _ = _
    congr 1
    simp
  refine KW.tst rfl rfl (fun h => ?_) (fun h => ?_)
  · refine KW.cnd rfl rfl (fun h2 => ?_) (fun h2 => KW.ret rfl rfl rfl rfl (fin (.inr (by omega))))
    refine KW.getI hs rfl rfl rfl rfl rfl rfl rfl rfl rfl rfl rfl rfl rfl rfl rfl rfl (by omega) (by omega) (fun x hx => ?_)
    have hx : xs[i]? = some x := hx
    refine KW.getI hs' rfl rfl rfl rfl rfl rfl rfl rfl rfl rfl rfl rfl rfl rfl rfl rfl (by omega) (by omega) (fun y hy => ?_)
    have hy : ys[i]? = some y := hy
    have e := lexB_self_step hx hy
    refine KW.cndB rfl rfl (fun h3 => ?_) (fun h3 => ?_)
    · refine KW.getI hs rfl rfl rfl rfl rfl rfl rfl rfl rfl rfl rfl rfl rfl rfl rfl rfl (by omega) (by omega) (fun x1 hx1 => ?_)
      obtain rfl : x = x1 := by have : xs[i]? = some x1 := hx1; rw [hx] at this; cases this; rfl
      refine KW.getI hs' rfl rfl rfl rfl rfl rfl rfl rfl rfl rfl rfl rfl rfl rfl rfl rfl (by omega) (by omega) (fun y1 hy1 => ?_)
      obtain rfl : y = y1 := by have : ys[i]? = some y1 := hy1; rw [hy] at this; cases this; rfl
      refine KW.ret rfl rfl rfl rfl ?_
      have h3 : ¬ x = y := by simpa using h3
      show Value.bool (decide (x < y)) = _
      rw [hj, e, if_neg h3]
    · have h3 : x = y := by simpa using h3
      exact KW.nxt rfl rfl (fun H g => ⟨i + 1, ⟨by omega, by omega, by rw [hj, e, if_pos h3]⟩, by omega, ⟨rfl, rfl, congrArg (Value.int .i64) (inc64 (by omega)), trivial⟩, g⟩)
  · exact KW.cndB rfl rfl (fun h => absurd h (by decide)) (fun _ => KW.ret rfl rfl rfl rfl (fin (.inl (by omega))))
theorem isNaN (x : Int) : Spec Try.prog S H0 275 [.int .i64 x] (fun v => v = .bool false) := by
  refine Spec.of Try.func275 rfl (by kernel_rfl) rfl (fun H hfin hfz => ?_)
  refine KW.ret rfl rfl rfl rfl ?_
  show Value.bool (x != x) = _
  simp
theorem cmpCompare (x y : Int) : Spec Try.prog S H0 267 [.int .i64 x, .int .i64 y] (fun v => v = .int .i64 (if x < y then -1 else if x > y then 1 else 0)) := by
  refine Spec.of Try.func267 rfl (by kernel_rfl) rfl (fun H hfin hfz => ?_)
  refine KW.callE rfl rfl rfl rfl rfl (isNaN _) (fun _ _ => ?_)
  refine KW.callE rfl rfl rfl rfl rfl (isNaN _) (fun _ _ => ?_)
  refine KW.cndB rfl rfl (fun h => absurd h (by decide)) (fun _ => ?_)
  refine KW.cndB rfl rfl (fun h => absurd h (by decide)) (fun _ => ?_)
  refine KW.cnd rfl rfl (fun h => KW.ret rfl rfl rfl rfl ?_) (fun h => ?_)
  · rw [if_pos h]; rfl
  refine KW.cnd rfl rfl (fun h2 => KW.ret rfl rfl rfl rfl ?_) (fun h2 => KW.ret rfl rfl rfl rfl ?_)
  · rw [if_neg h, if_pos h2]; rfl
  · rw [if_neg h, if_neg h2]; rfl
theorem slicesCompare {a c a' c'} {xs ys : List Int} (hl : xs.length ≤ 1048576) (hs : (Kn.int .i64).Sl S H0 (.slice a xs.length c) xs) (hs' : (Kn.int .i64).Sl S H0 (.slice a' ys.length c') ys) :
    Spec Try.prog S H0 250 [.slice a xs.length c, .slice a' ys.length c'] (fun v => ∃ r : Int, v = .int .i64 r ∧ (r ≥ 0 ↔ lexB xs ys = false)) := by
  refine Spec.of Try.func250 rfl (by kernel_rfl) rfl (fun H hfin hfz => ?_)
  have hs := hs.to hfz
  have hs' := hs'.to hfz
  refine KW.lp rfl rfl (fun i : Nat => [(0, .slice a xs.length c), (1, .slice a' ys.length c'), (9, .slice a xs.length c), (10, .int .i64 xs.length), (11, .int .i64 i)]) (fun i => i ≤ xs.length ∧ i ≤ ys.length ∧ lexB xs ys = lexB (xs.drop i) (ys.drop i)) (fun i => xs.length - i) 0 ⟨by omega, by omega, rfl⟩ ⟨rfl, rfl, rfl, rfl, rfl, trivial⟩ (fun i hi b n => ?_)
  obtain ⟨hi, hi', hj⟩ := hi
  refine KW.cnd rfl rfl (fun h => ?_) (fun h => ?_)
  · refine KW.getI hs rfl rfl rfl rfl rfl rfl rfl rfl rfl rfl rfl rfl rfl rfl rfl rfl (by omega) (by omega) (fun x hx => ?_)
    have hx : xs[i]? = some x := hx
    refine KW.cnd rfl rfl (fun h2 => KW.ret rfl rfl rfl rfl ⟨1, rfl, ?_⟩) (fun h2 => ?_)
    · rw [hj, lexB_end (.inr (by omega)) hi hi']
      simp
      omega
    refine KW.getI hs' rfl rfl rfl rfl rfl rfl rfl rfl rfl rfl rfl rfl rfl rfl rfl rfl (by omega) (by omega) (fun y hy => ?_)
    have hy : ys[i]? = some y := hy
    have e := lexB_self_step hx hy
    refine KW.callE rfl rfl rfl rfl rfl (cmpCompare _ _) (fun _ _ => ?_)
    refine KW.cndB rfl rfl (fun h3 => KW.ret rfl rfl rfl rfl ⟨_, rfl, ?_⟩) (fun h3 => ?_)
    · rw [hj, e]
      by_cases h4 : x = y
      · subst h4; simp at h3
      · rw [if_neg h4]
        by_cases h5 : x < y
        · rw [if_pos h5]; simp [h5]
        · rw [if_neg h5, if_pos (by omega)]; simp; omega
    · have h3 : x = y := by
        by_cases h5 : x < y
        · rw [if_pos h5] at h3; simp at h3
        · rw [if_neg h5] at h3
          by_cases h6 : x > y
          · rw [if_pos h6] at h3; simp at h3
          · omega
      exact KW.nxt rfl rfl (fun H g => ⟨i + 1, ⟨by omega, by omega, by rw [hj, e, if_pos h3]⟩, by omega, ⟨rfl, rfl, rfl, rfl, congrArg (Value.int .i64) (inc64 (by omega)), trivial⟩, g⟩)
  · have e := lexB_end (a := xs) (b := ys) (i := i) (.inl (by omega)) hi hi'
    refine KW.cnd rfl rfl (fun h2 => KW.ret rfl rfl rfl rfl ⟨-1, rfl, ?_⟩) (fun h2 => KW.ret rfl rfl rfl rfl ⟨0, rfl, ?_⟩)
    · rw [hj, e]; simp; omega
    · rw [hj, e]; simp; omega
theorem l00Rises (lo hi : Int) {a c} {xs : List Int} (hl : xs.length ≤ 1048576) (hs : (Kn.int .i64).Sl S H0 (.slice a xs.length c) xs) : Spec Try.prog S H0 167 [.slice a xs.length c, .int .i64 lo, .int .i64 hi] (fun v => v = .bool (tv (Rises lo hi xs))) := by
  refine Spec.of Try.func167 rfl (by kernel_rfl) rfl (fun H hfin hfz => ?_)
  have hs := hs.to hfz
  refine KW.lp rfl rfl (fun i : Nat => [(0, .slice a xs.length c), (1, .int .i64 lo), (2, .int .i64 hi), (7, .int .i64 i)]) (fun i => i ≤ xs.length ∧ ∀ j, j < i → RiseAt lo hi xs j) (fun i => xs.length - i) 0 ⟨by omega, fun j h => absurd h (by omega)⟩ ⟨rfl, rfl, rfl, rfl, trivial⟩ (fun i hi' b n => ?_)
  obtain ⟨hi', hr⟩ := hi'
  have e1 := inc64 (i := i) (by omega)
  have bad : i < xs.length → ¬ RiseAt lo hi xs i → aout [Value.bool false] = .bool (tv (Rises lo hi xs)) := fun hi hx => by
    rw [tv_false (fun hc => hx (hc i (by omega)))]; rfl
  refine KW.cnd rfl rfl (fun h => ?_) (fun h => KW.ret rfl rfl rfl rfl ?_)
  · refine KW.getI hs rfl rfl rfl rfl rfl rfl rfl rfl rfl rfl rfl rfl rfl rfl rfl rfl (by omega) h (fun y hy => ?_)
    have hy : xs.getD i 0 = y := getD_of hy
    refine KW.callE rfl rfl rfl rfl rfl (l00In _ _ _) (fun n' _ => ?_)
    refine KW.tstB rfl rfl (fun h1 => ?_) (fun h1 => ?_)
    · simp at h1
      refine KW.cndB rfl rfl (fun h => KW.ret rfl rfl rfl rfl (bad (by omega) (fun hx => ?_))) (fun h => absurd h (by decide))
      have := hx.1; omega
    · have h1 : lo ≤ y ∧ y ≤ hi := by simpa using h1
      refine KW.tst rfl rfl (fun h2 => ?_) (fun h2 => ?_)
      · have e2 : IntKind.i64.wrap ((i : Int) - 1) = ((i - 1 : Nat) : Int) := by rw [wr (by omega) (by omega)]; omega
        refine KW.getI hs rfl rfl rfl rfl rfl rfl rfl rfl rfl rfl rfl rfl rfl rfl rfl rfl (by rw [e2]; omega) (by rw [e2]; omega) (fun z hz => ?_)
        rw [e2] at hz
        have hz : xs.getD (i - 1) 0 = z := getD_of hz
        refine KW.getI hs rfl rfl rfl rfl rfl rfl rfl rfl rfl rfl rfl rfl rfl rfl rfl rfl (by omega) (by omega) (fun y1 hy1 => ?_)
        obtain rfl : y = y1 := hy.symm.trans (getD_of hy1)
        refine KW.cnd rfl rfl (fun h3 => KW.ret rfl rfl rfl rfl (bad (by omega) (fun hx => ?_))) (fun h3 => ?_)
        · have := hx.2 (by omega); omega
        · exact KW.nxt rfl rfl (fun H g => ⟨i + 1, ⟨by omega, upto hr ⟨by omega, fun _ => by omega⟩⟩, by omega, ⟨rfl, rfl, rfl, congrArg (Value.int .i64) e1, trivial⟩, g⟩)
      · refine KW.cndB rfl rfl (fun h => absurd h (by decide)) (fun _ => ?_)
        exact KW.nxt rfl rfl (fun H g => ⟨i + 1, ⟨by omega, upto hr ⟨by omega, fun _ => by omega⟩⟩, by omega, ⟨rfl, rfl, rfl, congrArg (Value.int .i64) e1, trivial⟩, g⟩)
  · rw [tv_true (p := Rises lo hi xs) (fun j hj => hr j (by omega))]; rfl
theorem l01Group (m : Int) {a c} {xs : List Int} (hl : xs.length ≤ 1048576) (hm : -9223372036854775807 ≤ m ∧ m ≤ 9223372036854775807) (hs : (Kn.int .i64).Sl S H0 (.slice a xs.length c) xs) : Spec Try.prog S H0 221 [.int .i64 m, .slice a xs.length c] (fun v => v = .bool (tv (Rises 0 (m - 1) xs))) := by
  refine Spec.of Try.func221 rfl (by kernel_rfl) rfl (fun H hfin hfz => ?_)
  have e : IntKind.i64.wrap (m - 1) = m - 1 := wr (by omega) (by omega)
  refine KW.callE rfl rfl rfl rfl rfl (by have := l00Rises 0 (IntKind.i64.wrap (m - 1)) hl (hs.to hfz); rw [e] at this ⊢; exact this) (fun n' _ => ?_)
  exact KW.ret rfl rfl rfl rfl rfl
theorem l01Bits {m : Nat} (hm : m ≤ 8) {a c} {xs : List Int} (hl : xs.length ≤ 1048576) (hx : ∀ x ∈ xs, 0 ≤ x ∧ x < m) (hs : (Kn.int .i64).Sl S H0 (.slice a xs.length c) xs) : Spec Try.prog S H0 234 [.slice a xs.length c] (fun v => v = .int .i64 (bitsOf xs : Nat)) := by
  refine Spec.of Try.func234 rfl (by kernel_rfl) rfl (fun H hfin hfz => ?_)
  have hs := hs.to hfz
  refine KW.lp rfl rfl (fun i : Nat => [(0, .slice a xs.length c), (3, .int .i64 (bitsOf (xs.take i) : Nat)), (4, .int .i64 i)]) (fun i => i ≤ xs.length) (fun i => xs.length - i) 0 (by omega) ⟨rfl, rfl, rfl, trivial⟩ (fun i hi b n => ?_)
  refine KW.cnd rfl rfl (fun h => ?_) (fun h => KW.ret rfl rfl rfl rfl ?_)
  · obtain ⟨r, e, hr, hb, hp⟩ := step_small hm hx i (by omega)
    refine KW.getI hs rfl rfl rfl rfl rfl rfl rfl rfl rfl rfl rfl rfl rfl rfl rfl rfl (by omega) h (fun y hy => ?_)
    obtain rfl : y = (r : Int) := by rw [← e]; exact (getD_of hy).symm
    refine KW.shlI rfl rfl rfl rfl rfl rfl r (wru (by omega) (by omega)) (by omega) ?_
    have e2 : IntKind.i64.wrap ((BitVec.ofInt IntKind.i64.bits ((bitsOf (xs.take i) : Nat) : Int) ||| BitVec.ofInt IntKind.i64.bits ((2 ^ r : Nat) : Int)).toNat : Int) = ((bitsOf (xs.take (i + 1)) : Nat) : Int) := by
      rw [or_i64 (by omega) (by omega), bits_take xs i (by omega), e]; rfl
    exact KW.nxt rfl rfl (fun H g => ⟨i + 1, by omega, by omega, ⟨rfl, congrArg (Value.int .i64) e2, congrArg (Value.int .i64) (inc64 (by omega)), trivial⟩, g⟩)
  · show Value.int .i64 (bitsOf (xs.take i) : Nat) = _
    rw [List.take_of_length_le (by omega)]
theorem l01Within {m : Nat} (hm : m ≤ 7) {a c a' c'} {xs ys : List Int} (hl : xs.length ≤ 1048576) (hl' : ys.length ≤ 1048576) (hx : ∀ x ∈ xs, 0 ≤ x ∧ x < m) (hy : ∀ x ∈ ys, 0 ≤ x ∧ x < m) (hs : (Kn.int .i64).Sl S H0 (.slice a xs.length c) xs) (hs' : (Kn.int .i64).Sl S H0 (.slice a' ys.length c') ys) :
    Spec Try.prog S H0 261 [.slice a xs.length c, .slice a' ys.length c'] (fun v => v = .bool (tv (bitsOf xs &&& bitsOf ys = bitsOf xs))) := by
  refine Spec.of Try.func261 rfl (by kernel_rfl) rfl (fun H hfin hfz => ?_)
  have b1 : bitsOf xs < 2 ^ m := bitsOf_lt (fun x h => by have := hx x h; omega)
  have b2 : bitsOf ys < 2 ^ m := bitsOf_lt (fun x h => by have := hy x h; omega)
  have hp := small_pow (m := m) (by omega)
  refine KW.callE rfl rfl rfl rfl rfl (l01Bits (by omega) hl hx (hs.to hfz)) (fun n' _ => ?_)
  refine KW.callE rfl rfl rfl rfl rfl (l01Bits (by omega) hl' hy (hs'.to hfz)) (fun n' _ => ?_)
  refine KW.ret rfl rfl rfl rfl ?_
  show Value.bool (IntKind.i64.wrap ((BitVec.ofInt IntKind.i64.bits ((bitsOf xs : Nat) : Int) &&& BitVec.ofInt IntKind.i64.bits ((bitsOf ys : Nat) : Int)).toNat : Int) == ((bitsOf xs : Nat) : Int)) = _
  rw [and_i64 (by omega) (by omega)]
  congr 1
  by_cases h : bitsOf xs &&& bitsOf ys = bitsOf xs
  · rw [tv_true h, h]; simp
  · rw [tv_false h]; simp; omega
end
end Go.Proofs.Ytmkpfllbmdahkaa.Am
/- Contracts: valid families. Each holds under its own conditions. -/
set_option linter.unusedVariables false
set_option maxRecDepth 20000
namespace Go.Proofs.Ytmkpfllbmdahkaa.Am
open Go Go.RowKit Go.Proofs
section
variable {S : Ids} {H0 : AH}
theorem Sml.at_ {gs : List (List Int)} (h : Sml gs) {i : Nat} {g : List Int} (hg : gs[i]? = some g) : g.length ≤ 1048576 := h.each g (List.mem_of_getElem? hg)
theorem l01Ok (m : Int) {id : Nat} {ty : TypeId} {rw : Bool} {s c} {gs : List (List Int)} (hsm : Sml gs) (hS : S id) (hm : H0.m id = some ⟨ty, rw, [.int .i64 m, .slice s gs.length c]⟩) (hs : (Kn.int .i64).sl.Sl S H0 (.slice s gs.length c) gs) :
    Spec Try.prog S H0 233 [.pointer (some ⟨id, 0, none⟩)] (fun v => v = .bool (tv (FamOk m gs))) := by
  refine Spec.of Try.func233 rfl (by kernel_rfl) rfl (fun H hfin hfz => ?_)
  have hs := hs.to hfz
  have hm := ((hfz id hS).2).trans hm
  have hS : Low H.n id := (hfz id hS).1
  have hgl := hsm.len
  have bad : ¬ FamOk m gs → aout [Value.bool false] = .bool (tv (FamOk m gs)) := fun hx => by rw [tv_false hx]; rfl
  refine KW.ldP hS hm rfl rfl rfl rfl rfl rfl ?_
  refine KW.callE rfl rfl rfl rfl rfl (l00In _ _ _) (fun _ _ => ?_)
  refine KW.cndB rfl rfl (fun h1 => KW.ret rfl rfl rfl rfl (bad (fun hc => ?_))) (fun h1 => ?_)
  · have := hc.h1; have := hc.h2; simp at h1; omega
  have h1 : 1 ≤ m ∧ m ≤ 7 := by simpa using h1
  refine KW.lp rfl rfl (fun i : Nat => [(0, .pointer (some ⟨id, 0, none⟩)), (3, .int .i64 i)]) (fun i => i ≤ gs.length ∧ ∀ j, j < i → GrpAt m gs j) (fun i => gs.length - i) 0 ⟨by omega, fun j h => absurd h (by omega)⟩ ⟨rfl, rfl, trivial⟩ (fun i hi b n => ?_)
  obtain ⟨hi, hr⟩ := hi
  refine KW.ldP hS hm rfl rfl rfl rfl rfl rfl ?_
  refine KW.cnd rfl rfl (fun h => ?_) (fun h => ?_)
  · have hil : i < gs.length := by omega
    have bad' : ¬ GrpAt m gs i → aout [Value.bool false] = .bool (tv (FamOk m gs)) := fun hx => bad (fun hc => hx (hc.grp i hil))
    refine KW.ldP hS hm rfl rfl rfl rfl rfl rfl ?_
    refine KW.ldP hS hm rfl rfl rfl rfl rfl rfl ?_
    refine KW.getL hs rfl rfl rfl rfl rfl rfl rfl rfl rfl rfl rfl rfl rfl rfl rfl rfl (by omega) h (fun g ag cg hg hsg => ?_)
    have hg : gs[i]? = some g := hg
    have hgd := getDL_of hg
    refine KW.callE rfl rfl rfl rfl rfl (l01Group _ (hsm.at_ hg) (by omega) hsg) (fun _ _ => ?_)
    refine KW.tstB rfl rfl (fun h2 => ?_) (fun h2 => ?_)
    · refine KW.cndB rfl rfl (fun _ => KW.ret rfl rfl rfl rfl (bad' (fun hx => ?_))) (fun h => absurd h (by decide))
      have := hx.1; rw [hgd] at this; rw [tv_true this] at h2; cases h2
    have h2 : Rises 0 (m - 1) g := tv_iff.1 (by simpa using h2)
    refine KW.tst rfl rfl (fun h3 => ?_) (fun h3 => ?_)
    · have e2 : IntKind.i64.wrap ((i : Int) - 1) = ((i - 1 : Nat) : Int) := by rw [wr (by omega) (by omega)]; omega
      refine KW.ldP hS hm rfl rfl rfl rfl rfl rfl ?_
      refine KW.getL hs rfl rfl rfl rfl rfl rfl rfl rfl rfl rfl rfl rfl rfl rfl rfl rfl (by rw [e2]; omega) (by rw [e2]; omega) (fun p ap cp hp hsp => ?_)
      rw [e2] at hp
      have hp : gs[i - 1]? = some p := hp
      have hpd := getDL_of hp
      refine KW.ldP hS hm rfl rfl rfl rfl rfl rfl ?_
      refine KW.getL hs rfl rfl rfl rfl rfl rfl rfl rfl rfl rfl rfl rfl rfl rfl rfl rfl (by omega) h (fun g1 ag1 cg1 hg1 hsg1 => ?_)
      obtain rfl : g = g1 := by have : gs[i]? = some g1 := hg1; rw [hg] at this; cases this; rfl
      refine KW.callE rfl rfl rfl rfl rfl (l01Before (hsm.at_ hp) hsp hsg1) (fun _ _ => ?_)
      refine KW.cndB rfl rfl (fun h4 => KW.ret rfl rfl rfl rfl (bad' (fun hx => ?_))) (fun h4 => ?_)
      · have := hx.2 (by omega); rw [hgd, hpd] at this; rw [this] at h4; cases h4
      · exact KW.nxt rfl rfl (fun H g' => ⟨i + 1, ⟨by omega, upto hr ⟨by rw [hgd]; exact h2, fun _ => by rw [hgd, hpd]; simpa using h4⟩⟩, by omega, ⟨rfl, congrArg (Value.int .i64) (inc64 (by omega)), trivial⟩, g'⟩)
    · refine KW.cndB rfl rfl (fun h => absurd h (by decide)) (fun _ => ?_)
      exact KW.nxt rfl rfl (fun H g' => ⟨i + 1, ⟨by omega, upto hr ⟨by rw [hgd]; exact h2, fun h => absurd h (by omega)⟩⟩, by omega, ⟨rfl, congrArg (Value.int .i64) (inc64 (by omega)), trivial⟩, g'⟩)
  have hG : ∀ j, j < gs.length → GrpAt m gs j := fun j hj => hr j (by omega)
  have hB : ∀ {j : Nat} {g : List Int}, gs[j]? = some g → ∀ x ∈ g, 0 ≤ x ∧ x < (m.toNat : Nat) := fun {j g} hj => by
    have := (hG j (List.getElem?_eq_some_iff.1 hj).1).1
    rw [getDL_of hj] at this
    exact rises_bound h1.1 this
  refine KW.lp rfl rfl (fun i : Nat => [(0, .pointer (some ⟨id, 0, none⟩)), (4, .int .i64 i)]) (fun i => i ≤ gs.length ∧ ∀ i', i' < i → ∀ j, j < gs.length → i' ≠ j → ¬ Sub gs i' j) (fun i => gs.length - i) 0 ⟨by omega, fun j h => absurd h (by omega)⟩ ⟨rfl, rfl, trivial⟩ (fun i hi b n => ?_)
  obtain ⟨hi, hf⟩ := hi
  refine KW.ldP hS hm rfl rfl rfl rfl rfl rfl ?_
  refine KW.cnd rfl rfl (fun h => ?_) (fun h => KW.ret rfl rfl rfl rfl ?_)
  · have hil : i < gs.length := by omega
    refine KW.lp rfl rfl (fun j : Nat => [(0, .pointer (some ⟨id, 0, none⟩)), (4, .int .i64 i), (5, .int .i64 j)]) (fun j => j ≤ gs.length ∧ ∀ j', j' < j → i ≠ j' → ¬ Sub gs i j') (fun j => gs.length - j) 0 ⟨by omega, fun j h => absurd h (by omega)⟩ ⟨rfl, rfl, rfl, trivial⟩ (fun j hj b n => ?_)
    obtain ⟨hj, hf2⟩ := hj
    refine KW.ldP hS hm rfl rfl rfl rfl rfl rfl ?_
    refine KW.cnd rfl rfl (fun h => ?_) (fun h => ?_)
    · have hjl : j < gs.length := by omega
      refine KW.tstB rfl rfl (fun h2 => ?_) (fun h2 => ?_)
      · have hne : i ≠ j := by intro e; subst e; simp at h2
        refine KW.ldP hS hm rfl rfl rfl rfl rfl rfl ?_
        refine KW.getL hs rfl rfl rfl rfl rfl rfl rfl rfl rfl rfl rfl rfl rfl rfl rfl rfl (by omega) (by omega) (fun g ag cg hg hsg => ?_)
        have hg : gs[i]? = some g := hg
        refine KW.ldP hS hm rfl rfl rfl rfl rfl rfl ?_
        refine KW.getL hs rfl rfl rfl rfl rfl rfl rfl rfl rfl rfl rfl rfl rfl rfl rfl rfl (by omega) (by omega) (fun q aq cq hq hsq => ?_)
        have hq : gs[j]? = some q := hq
        have hsub : Sub gs i j ↔ bitsOf g &&& bitsOf q = bitsOf g := by unfold Sub; rw [getDL_of hg, getDL_of hq]
        refine KW.callE rfl rfl rfl rfl rfl (l01Within (m := m.toNat) (by omega) (hsm.at_ hg) (hsm.at_ hq) (hB hg) (hB hq) hsg hsq) (fun _ _ => ?_)
        refine KW.cndB rfl rfl (fun h4 => KW.ret rfl rfl rfl rfl (bad (fun hx => hx.free i hil j hjl hne (hsub.2 (tv_iff.1 h4))))) (fun h4 => ?_)
        exact KW.nxt rfl rfl (fun H g' => ⟨j + 1, ⟨by omega, upto hf2 (fun _ hc => by rw [tv_true (hsub.1 hc)] at h4; cases h4)⟩, by omega, ⟨rfl, rfl, congrArg (Value.int .i64) (inc64 (by omega)), trivial⟩, g'⟩)
      · refine KW.cndB rfl rfl (fun h => absurd h (by decide)) (fun _ => ?_)
        exact KW.nxt rfl rfl (fun H g' => ⟨j + 1, ⟨by omega, upto hf2 (fun hne => absurd (by simp at h2; omega) hne)⟩, by omega, ⟨rfl, rfl, congrArg (Value.int .i64) (inc64 (by omega)), trivial⟩, g'⟩)
    · exact KW.nxt rfl rfl (fun H g' => ⟨i + 1, ⟨by omega, upto hf (fun j' hj' => hf2 j' (by omega))⟩, by omega, ⟨rfl, congrArg (Value.int .i64) (inc64 (by omega)), trivial⟩, g'⟩)
  · rw [tv_true (p := FamOk m gs) ⟨h1.1, h1.2, hG, fun i' hi' => hf i' (by omega)⟩]; rfl
theorem specValidFamily (m : Int) {s c} {gs : List (List Int)} (hsm : Sml gs) (hs : (Kn.int .i64).sl.Sl S H0 (.slice s gs.length c) gs) :
    Spec Try.prog S H0 215 [familyV m (.slice s gs.length c)] (fun v => v = .bool (tv (FamOk m gs))) := by
  refine Spec.of Try.func215 rfl (by kernel_rfl) rfl (fun H hfin hfz => ?_)
  refine KW.callV rfl rfl rfl rfl rfl (fun H1 g => l01Ok m hsm (g.blk (j := 0) rfl).2 (g.blk (j := 0) rfl).1 ((hs.to hfz).on (fun id hid => (g.froz id hid).2) (fun id hid => by have := (g.froz id hid).1; have := g.n_; show id < H1.n; omega))) (fun _ _ => ?_)
  exact KW.ret rfl rfl rfl rfl rfl
end
end Go.Proofs.Ytmkpfllbmdahkaa.Am
/- Contracts: the program's check of families, and the codes. Each holds under its own conditions. -/
set_option linter.unusedVariables false
set_option maxRecDepth 20000
namespace Go.Proofs.Ytmkpfllbmdahkaa.Am
open Go Go.RowKit Go.Proofs
section
variable {S : Ids} {H0 : AH}
def ImpAt (m : Int) (gs : List (List Int)) (i : Nat) : Prop := GrpAt m gs i ∧ ∀ j, j < i → ¬ Sub gs i j ∧ ¬ Sub gs j i
theorem fam_of_imp {m : Int} {gs : List (List Int)} (h1 : 1 ≤ m ∧ m ≤ 7) (h : ∀ i, i < gs.length → ImpAt m gs i) : FamOk m gs :=
  ⟨h1.1, h1.2, fun i hi => (h i hi).1, fun i hi j hj hne => by
    rcases Nat.lt_or_ge j i with hlt | hge
    · exact ((h i hi).2 j hlt).1
    · exact ((h j hj).2 i (by omega)).2⟩
theorem imp_of_fam {m : Int} {gs : List (List Int)} (h : FamOk m gs) (i : Nat) (hi : i < gs.length) : ImpAt m gs i :=
  ⟨h.grp i hi, fun j hj => ⟨h.free i hi j (by omega) (by omega), h.free j (by omega) i hi (by omega)⟩⟩
theorem validFamily (m : Int) {s c} {gs : List (List Int)} (hsm : Sml gs) (hs : (Kn.int .i64).sl.Sl S H0 (.slice s gs.length c) gs) :
    Spec Try.prog S H0 217 [familyV m (.slice s gs.length c)] (fun v => v = .bool (tv (FamOk m gs))) := by
  refine Spec.of Try.func217 rfl (by kernel_rfl) rfl (fun H hfin hfz => ?_)
  have hs := hs.to hfz
  have hgl := hsm.len
  have bad : ¬ FamOk m gs → aout [Value.bool false] = .bool (tv (FamOk m gs)) := fun hx => by rw [tv_false hx]; rfl
  refine KW.callE rfl rfl rfl rfl rfl (within _ _ _) (fun _ _ => ?_)
  refine KW.cndB rfl rfl (fun h1 => KW.ret rfl rfl rfl rfl (bad (fun hc => ?_))) (fun h1 => ?_)
  · have := hc.h1; have := hc.h2; simp at h1; omega
  have h1 : 1 ≤ m ∧ m ≤ 7 := by simpa using h1
  refine KW.lp rfl rfl (fun i : Nat => [(1, .pointer (some ⟨H.n, 0, some 0⟩)), (14, .slice s gs.length c), (15, .int .i64 gs.length), (16, .int .i64 i)]) (fun i => i ≤ gs.length ∧ ∀ j, j < i → ImpAt m gs j) (fun i => gs.length - i) 0 ⟨by omega, fun j h => absurd h (by omega)⟩ ⟨rfl, rfl, rfl, rfl, trivial⟩ (fun i hi b n => ?_)
  obtain ⟨hi, hr⟩ := hi
  refine KW.cnd rfl rfl (fun h => ?_) (fun h => KW.ret rfl rfl rfl rfl ?_)
  · have hil : i < gs.length := by omega
    have bad' : ¬ ImpAt m gs i → aout [Value.bool false] = .bool (tv (FamOk m gs)) := fun hx => bad (fun hc => hx (imp_of_fam hc i hil))
    refine KW.getL hs rfl rfl rfl rfl rfl rfl rfl rfl rfl rfl rfl rfl rfl rfl rfl rfl (by omega) h (fun g ag cg hg hsg => ?_)
    have hg : gs[i]? = some g := hg
    have hgd := getDL_of hg
    refine KW.callE rfl rfl rfl rfl rfl (isGroup _ (by have := hsm.at_ hg; omega) (by omega) hsg) (fun _ _ => ?_)
    refine KW.tstB rfl rfl (fun h2 => ?_) (fun h2 => ?_)
    · refine KW.cndB rfl rfl (fun _ => KW.ret rfl rfl rfl rfl (bad' (fun hx => ?_))) (fun h => absurd h (by decide))
      have := hx.1.1; rw [hgd] at this; rw [tv_true this] at h2; cases h2
    have h2 : Rises 0 (m - 1) g := tv_iff.1 (by simpa using h2)
    have hB : ∀ {j : Nat} {q : List Int}, j ≤ i → gs[j]? = some q → ∀ x ∈ q, 0 ≤ x ∧ x < (m.toNat : Nat) := fun {j q} hj hq => by
      rcases Nat.lt_or_ge j i with hlt | hge
      · have := (hr j hlt).1.1
        rw [getDL_of hq] at this
        exact rises_bound h1.1 this
      · obtain rfl : j = i := by omega
        rw [hg] at hq
        cases hq
        exact rises_bound h1.1 h2
    have hsmall : ∀ {j : Nat} {q : List Int}, j ≤ i → gs[j]? = some q → bitsOf q < 128 := fun {j q} hj hq => by
      have h3 : bitsOf q < 2 ^ 7 := bitsOf_lt (fun x hx => by have := hB hj hq x hx; omega)
      have h4 : (2 : Nat) ^ 7 = 128 := by decide
      omega
    refine KW.tst rfl rfl (fun h3 => ?g1) (fun h3 => ?g2)
    case' g1 =>
      have e2 : IntKind.i64.wrap ((i : Int) - 1) = ((i - 1 : Nat) : Int) := by rw [wr (by omega) (by omega)]; omega
      refine KW.getL hs rfl rfl rfl rfl rfl rfl rfl rfl rfl rfl rfl rfl rfl rfl rfl rfl (by rw [e2]; omega) (by rw [e2]; omega) (fun p ap cp hp hsp => ?_)
      rw [e2] at hp
      have hp : gs[i - 1]? = some p := hp
      have hpd := getDL_of hp
      refine KW.call rfl rfl rfl rfl rfl (slicesCompare (hsm.at_ hp) hsp hsg) (fun v n' _ hv => ?_)
      obtain ⟨r, rfl, hv⟩ := hv
      refine KW.cnd rfl rfl (fun h4 => KW.ret rfl rfl rfl rfl (bad' (fun hx => ?_))) (fun h4 => ?_)
      · have := hx.1.2 (by omega); rw [hgd, hpd] at this; rw [hv.1 h4] at this; cases this
      have hgrp : GrpAt m gs i := ⟨by rw [hgd]; exact h2, fun _ => by
        rw [hgd, hpd]
        cases e : lexB p g with
        | true => rfl
        | false => exact absurd (hv.2 e) h4⟩
      clear hv hp hpd hsp
    case' g2 =>
      refine KW.cndB rfl rfl (fun h => absurd h (by decide)) (fun _ => ?_)
      have hgrp : GrpAt m gs i := ⟨by rw [hgd]; exact h2, fun h => absurd h (by omega)⟩
    all_goals
      refine KW.cutTo hs rfl rfl rfl rfl rfl rfl rfl rfl rfl i rfl (by omega) (by omega) (fun at' ct hst => ?_)
      have htl : (gs.take i).length = i := by simp; omega
      refine KW.lp rfl rfl (fun j : Nat => [(1, .pointer (some ⟨H.n, 0, some 0⟩)), (4, .slice ag g.length cg), (14, .slice s gs.length c), (15, .int .i64 gs.length), (16, .int .i64 i), (44, .slice at' (gs.take i).length ct), (45, .int .i64 (gs.take i).length), (46, .int .i64 j)]) (fun j => j ≤ i ∧ ∀ j', j' < j → ¬ Sub gs i j' ∧ ¬ Sub gs j' i) (fun j => i - j) 0 ⟨by omega, fun j h => absurd h (by omega)⟩ ⟨rfl, rfl, rfl, rfl, rfl, rfl, rfl, rfl, trivial⟩ (fun j hj b n => ?_)
      obtain ⟨hj, hf⟩ := hj
      refine KW.cnd rfl rfl (fun h5 => ?_) (fun h5 => ?_)
      · have hji : j < i := by rw [htl] at h5; omega
        refine KW.getL hst rfl rfl rfl rfl rfl rfl rfl rfl rfl rfl rfl rfl rfl rfl rfl rfl (by omega) h5 (fun q aq cq hq hsq => ?_)
        have hq : gs[j]? = some q := by
          have hq : (gs.take i)[j]? = some q := hq
          rw [List.getElem?_take, if_pos hji] at hq; exact hq
        have hqd := getDL_of hq
        have b1 := hsmall (Nat.le_refl i) hg
        have b2 := hsmall (Nat.le_of_lt hji) hq
        refine KW.callE rfl rfl rfl rfl rfl (crowdOf (m := m.toNat) (by omega) (by have := hsm.at_ hq; omega) (hB (Nat.le_of_lt hji) hq) hsq) (fun _ _ => ?_)
        refine KW.callE rfl rfl rfl rfl rfl (crowdOf (m := m.toNat) (by omega) (by have := hsm.at_ hg; omega) (hB (Nat.le_refl i) hg) hsg) (fun _ _ => ?_)
        refine KW.callE rfl rfl rfl rfl rfl (contains (by omega) (by omega)) (fun _ _ => ?_)
        have s1 : Sub gs i j ↔ bitsOf q &&& bitsOf g = bitsOf g := by unfold Sub; rw [hgd, hqd, Nat.and_comm]
        have s2 : Sub gs j i ↔ bitsOf g &&& bitsOf q = bitsOf q := by unfold Sub; rw [hgd, hqd, Nat.and_comm]
        refine KW.tstB rfl rfl (fun h6 => ?_) (fun h6 => ?_)
        · refine KW.cndB rfl rfl (fun _ => KW.ret rfl rfl rfl rfl (bad' (fun hx => ?_))) (fun h => absurd h (by decide))
          exact (hx.2 j hji).1 (s1.2 (tv_iff.1 h6))
        refine KW.callE rfl rfl rfl rfl rfl (contains (by omega) (by omega)) (fun _ _ => ?_)
        refine KW.cndB rfl rfl (fun h7 => KW.ret rfl rfl rfl rfl (bad' (fun hx => (hx.2 j hji).2 (s2.2 (tv_iff.1 h7))))) (fun h7 => ?_)
        exact KW.nxt rfl rfl (fun H g' => ⟨j + 1, ⟨by omega, upto hf ⟨fun hc => (by rw [tv_true (s1.1 hc)] at h6; cases h6), fun hc => (by rw [tv_true (s2.1 hc)] at h7; cases h7)⟩⟩, by omega, ⟨rfl, rfl, rfl, rfl, rfl, rfl, rfl, congrArg (Value.int .i64) (inc64 (by omega)), trivial⟩, g'⟩)
      · have : j = i := by rw [htl] at h5; omega
        subst this
        exact KW.nxt rfl rfl (fun H g' => ⟨j + 1, ⟨by omega, upto hr ⟨hgrp, hf⟩⟩, by omega, ⟨rfl, rfl, rfl, congrArg (Value.int .i64) (inc64 (by omega)), trivial⟩, g'⟩)
  · rw [tv_true (p := FamOk m gs) (fam_of_imp h1 (fun i' hi' => hr i' (by omega)))]; rfl
/-- The code of a family. -/
noncomputable def codeF (h : Int) (gs : List (List Int)) : Int := if tv (FamOk h gs) = true then (if h > 5 then 3 else if gs.length = 0 then 4 else if (gs.getD 0 []).length = 0 then 4 else 0) else 1
theorem rankedCode (m : Int) {s c} {gs : List (List Int)} (hsm : Sml gs) (hs : (Kn.int .i64).sl.Sl S H0 (.slice s gs.length c) gs) :
    Spec Try.prog S H0 160 [familyV m (.slice s gs.length c)] (fun v => v = .int .i64 (codeF m gs)) := by
  refine Spec.of Try.func160 rfl (by kernel_rfl) rfl (fun H hfin hfz => ?_)
  have hs := hs.to hfz
  refine KW.callE rfl rfl rfl rfl rfl (validFamily m hsm hs) (fun _ _ => ?_)
  refine KW.cndB rfl rfl (fun h1 => KW.ret rfl rfl rfl rfl ?_) (fun h1 => ?_)
  · have h1 : tv (FamOk m gs) = false := by simpa using h1
    unfold codeF; rw [h1]; rfl
  have h1 : tv (FamOk m gs) = true := by simpa using h1
  refine KW.cnd rfl rfl (fun h2 => KW.ret rfl rfl rfl rfl ?_) (fun h2 => ?_)
  · unfold codeF; rw [if_pos h1, if_pos h2]; rfl
  refine KW.tstB rfl rfl (fun h3 => ?_) (fun h3 => ?_)
  · refine KW.cndB rfl rfl (fun _ => KW.ret rfl rfl rfl rfl ?_) (fun h => absurd h (by decide))
    unfold codeF; rw [if_pos h1, if_neg h2, if_pos (by simp at h3; simp [h3])]; rfl
  have h3 : ¬ gs.length = 0 := by simp at h3; simp [h3]
  refine KW.getL hs rfl rfl rfl rfl rfl rfl rfl rfl rfl rfl rfl rfl rfl rfl rfl rfl (by omega) (by omega) (fun g ag cg hg hsg => ?_)
  have hgd : gs.getD 0 [] = g := getDL_of hg
  refine KW.cndB rfl rfl (fun h4 => KW.ret rfl rfl rfl rfl ?_) (fun h4 => KW.ret rfl rfl rfl rfl ?_)
  · unfold codeF; rw [if_pos h1, if_neg h2, if_neg h3, hgd, if_pos (by simp at h4; simp [h4])]; rfl
  · unfold codeF; rw [if_pos h1, if_neg h2, if_neg h3, hgd, if_neg (by simp at h4; simp [h4])]; rfl
theorem l07Family (m : Int) {id : Nat} {ty : TypeId} {rw : Bool} {s c} {gs : List (List Int)} (hsm : Sml gs) (hS : S id) (hm : H0.m id = some ⟨ty, rw, [.int .i64 m, .slice s gs.length c]⟩) (hs : (Kn.int .i64).sl.Sl S H0 (.slice s gs.length c) gs) :
    Spec Try.prog S H0 155 [.pointer (some ⟨id, 0, none⟩)] (fun v => v = .int .i64 (codeF m gs)) := by
  refine Spec.of Try.func155 rfl (by kernel_rfl) rfl (fun H hfin hfz => ?_)
  have hs := hs.to hfz
  have hm := ((hfz id hS).2).trans hm
  have hS : Low H.n id := (hfz id hS).1
  refine KW.ldP hS hm rfl rfl rfl rfl rfl rfl ?_
  refine KW.callE rfl rfl rfl rfl rfl (specValidFamily m hsm hs) (fun _ _ => ?_)
  refine KW.cndB rfl rfl (fun h1 => KW.ret rfl rfl rfl rfl ?_) (fun h1 => ?_)
  · have h1 : tv (FamOk m gs) = false := by simpa using h1
    unfold codeF; rw [h1]; rfl
  have h1 : tv (FamOk m gs) = true := by simpa using h1
  refine KW.ldP hS hm rfl rfl rfl rfl rfl rfl ?_
  refine KW.cnd rfl rfl (fun h2 => KW.ret rfl rfl rfl rfl ?_) (fun h2 => ?_)
  · unfold codeF; rw [if_pos h1, if_pos h2]; rfl
  refine KW.ldP hS hm rfl rfl rfl rfl rfl rfl ?_
  refine KW.tstB rfl rfl (fun h3 => ?_) (fun h3 => ?_)
  · refine KW.cndB rfl rfl (fun _ => KW.ret rfl rfl rfl rfl ?_) (fun h => absurd h (by decide))
    unfold codeF; rw [if_pos h1, if_neg h2, if_pos (by simp at h3; simp [h3])]; rfl
  have h3 : ¬ gs.length = 0 := by simp at h3; simp [h3]
  refine KW.ldP hS hm rfl rfl rfl rfl rfl rfl ?_
  refine KW.getL hs rfl rfl rfl rfl rfl rfl rfl rfl rfl rfl rfl rfl rfl rfl rfl rfl (by omega) (by omega) (fun g ag cg hg hsg => ?_)
  have hgd : gs.getD 0 [] = g := getDL_of hg
  refine KW.cndB rfl rfl (fun h4 => KW.ret rfl rfl rfl rfl ?_) (fun h4 => KW.ret rfl rfl rfl rfl ?_)
  · unfold codeF; rw [if_pos h1, if_neg h2, if_neg h3, hgd, if_pos (by simp at h4; simp [h4])]; rfl
  · unfold codeF; rw [if_pos h1, if_neg h2, if_neg h3, hgd, if_neg (by simp at h4; simp [h4])]; rfl
noncomputable def fitC (m u : Int) (l : List Int) (h : Int) (gs : List (List Int)) : Int := if tv (OkR m u l) = true then (if codeF h gs = 0 then (if m = h then 0 else 2) else codeF h gs) else 1
end
end Go.Proofs.Ytmkpfllbmdahkaa.Am
/- Contracts: which sets open, and the program's search for a misfit. Each holds under its own conditions. -/
set_option linter.unusedVariables false
set_option maxRecDepth 20000
namespace Go.Proofs.Ytmkpfllbmdahkaa.Am
open Go Go.RowKit Go.Proofs
theorem Fz.trans {S : Ids} {H0 H H' : AH} (h : Fz S H0 H) (k : Fz (Low H.n) H H') : Fz S H0 H' := fun id hid => by
  obtain ⟨h1, h2⟩ := h id hid
  obtain ⟨h3, h4⟩ := k id h1
  exact ⟨h3, h4.trans h2⟩
section
variable {S : Ids} {H0 : AH}
/-- A function value that tells something of each element. -/
def Tells {α : Type} (P : Program) (S : Ids) (H0 : AH) (d : Kn α) (xs : List (List α)) (g : FuncId) (cap : List Value) (p : List α → Bool) : Prop :=
  ∀ H', Fz S H0 H' → ∀ x a c, x ∈ xs → d.Sl (Low H'.n) H' (.slice a x.length c) x → Spec P (Low H'.n) H' g (.slice a x.length c :: cap) (fun v => v = .bool (p x))
theorem Tells.to {α : Type} {P : Program} {d : Kn α} {xs : List (List α)} {g : FuncId} {cap : List Value} {p : List α → Bool} {H : AH} (h : Tells P S H0 d xs g cap p) (hf : Fz S H0 H) : Tells P (Low H.n) H d xs g cap p := fun H' hf' => h H' (hf.trans hf')
theorem indexFunc2 {a c} {xs : List (List Int)} {g : FuncId} {id k : Nat} {sp : Option Nat} {p : List Int → Bool} (hl : xs.length ≤ 1048576) (hs : (Kn.int .i64).sl.Sl S H0 (.slice a xs.length c) xs) (hp : Tells Try.prog S H0 (Kn.int .i64) xs g [.pointer (some ⟨id, k, none⟩)] p) :
    Spec Try.prog S H0 239 [.slice a xs.length c, .func (.func g) #[] #[.pointer (some ⟨id, k, sp⟩)]] (fun v => ∃ r : Int, v = .int .i64 r ∧ (r ≥ 0 ↔ ∃ x ∈ xs, p x = true)) := by
  refine Spec.of Try.func239 rfl (by kernel_rfl) rfl (fun H hfin hfz => ?_)
  have hs := hs.to hfz
  have hp := hp.to hfz
  refine KW.lp rfl rfl (fun i : Nat => [(0, .slice a xs.length c), (1, .func (.func g) #[] #[.pointer (some ⟨id, k, sp⟩)]), (7, .int .i64 xs.length), (8, .int .i64 i)]) (fun i => i ≤ xs.length ∧ ∀ j, j < i → ∀ x, xs[j]? = some x → p x = false) (fun i => xs.length - i) 0 ⟨by omega, fun j h => absurd h (by omega)⟩ ⟨rfl, rfl, rfl, rfl, trivial⟩ (fun i hi b n => ?_)
  obtain ⟨hi, hj⟩ := hi
  refine KW.cnd rfl rfl (fun h => ?_) (fun h => KW.ret rfl rfl rfl rfl ⟨-1, rfl, ?_⟩)
  · refine KW.getL hs rfl rfl rfl rfl rfl rfl rfl rfl rfl rfl rfl rfl rfl rfl rfl rfl (by omega) h (fun x ax cx hx hsx => ?_)
    have hx : xs[i]? = some x := hx
    have hmem := List.mem_of_getElem? hx
    refine KW.callE rfl rfl rfl rfl rfl (hp H (fun id h => ⟨h, rfl⟩) x ax cx hmem hsx) (fun _ _ => ?_)
    refine KW.cndB rfl rfl (fun h2 => KW.ret rfl rfl rfl rfl ⟨(i : Int), rfl, ?_⟩) (fun h2 => ?_)
    · exact ⟨fun _ => ⟨x, hmem, h2⟩, fun _ => by omega⟩
    · exact KW.nxt rfl rfl (fun H g' => ⟨i + 1, ⟨by omega, upto hj (fun y hy => by rw [hx] at hy; cases hy; exact h2)⟩, by omega, ⟨rfl, rfl, rfl, congrArg (Value.int .i64) (inc64 (by omega)), trivial⟩, g'⟩)
  · refine ⟨fun h => absurd h (by decide), fun ⟨x, hx, hpx⟩ => ?_⟩
    obtain ⟨j, hjx⟩ := List.getElem?_of_mem hx
    have := hj j (by have := (List.getElem?_eq_some_iff.1 hjx).1; omega) x hjx
    rw [hpx] at this; cases this
theorem containsFunc2 {a c} {xs : List (List Int)} {g : FuncId} {id k : Nat} {sp : Option Nat} {p : List Int → Bool} (hl : xs.length ≤ 1048576) (hs : (Kn.int .i64).sl.Sl S H0 (.slice a xs.length c) xs) (hp : Tells Try.prog S H0 (Kn.int .i64) xs g [.pointer (some ⟨id, k, none⟩)] p) :
    Spec Try.prog S H0 195 [.slice a xs.length c, .func (.func g) #[] #[.pointer (some ⟨id, k, sp⟩)]] (fun v => v = .bool (tv (∃ x ∈ xs, p x = true))) := by
  refine Spec.of Try.func195 rfl (by kernel_rfl) rfl (fun H hfin hfz => ?_)
  refine KW.call rfl rfl rfl rfl rfl (indexFunc2 hl (hs.to hfz) (hp.to hfz)) (fun v n' _ hv => ?_)
  obtain ⟨r, rfl, hr⟩ := hv
  refine KW.ret rfl rfl rfl rfl ?_
  show Value.bool (decide (r ≥ 0)) = _
  rw [tv_dec, tv_congr hr]
/-- The set c has all holders of a group. -/
def Opens (gs : List (List Int)) (c : Nat) : Prop := ∃ g ∈ gs, c &&& bitsOf g = bitsOf g
/-- All groups are of holders below m. -/
def Below' (m : Nat) (gs : List (List Int)) : Prop := ∀ g ∈ gs, ∀ x ∈ g, 0 ≤ x ∧ x < (m : Int)
theorem below_bits {m : Nat} (hm : m ≤ 7) {gs : List (List Int)} (hb : Below' m gs) {g : List Int} (hg : g ∈ gs) : bitsOf g < 128 := by
  have h3 : bitsOf g < 2 ^ 7 := bitsOf_lt (fun x hx => by have := hb g hg x hx; omega)
  have h4 : (2 : Nat) ^ 7 = 128 := by decide
  omega
theorem FamOk.below {m : Int} {gs : List (List Int)} (h : FamOk m gs) : Below' m.toNat gs := fun g hg x hx => by
  obtain ⟨i, hi⟩ := List.getElem?_of_mem hg
  have h1 := (h.grp i (List.getElem?_eq_some_iff.1 hi).1).1
  rw [getDL_of hi] at h1
  exact rises_bound h.h1 h1 x hx
theorem opens1 {m : Nat} (hm : m ≤ 7) {q : Nat} (hq : q < 4611686018427387904) {g : List Int} (hg : ∀ x ∈ g, 0 ≤ x ∧ x < (m : Int)) (hl : g.length ≤ 1048576) {a c} {id : Nat} {ty : TypeId} {rw : Bool} (hS : S id) (hm' : H0.m id = some ⟨ty, rw, [.int .u64 q]⟩) (hs : (Kn.int .i64).Sl S H0 (.slice a g.length c) g) :
    Spec Try.prog S H0 251 [.slice a g.length c, .pointer (some ⟨id, 0, none⟩)] (fun v => v = .bool (tv (q &&& bitsOf g = bitsOf g))) := by
  refine Spec.of Try.func251 rfl (by kernel_rfl) rfl (fun H hfin hfz => ?_)
  have hm' := ((hfz id hS).2).trans hm'
  have hS : Low H.n id := (hfz id hS).1
  have hb : bitsOf g < 2 ^ m := bitsOf_lt (fun x h => by have := hg x h; omega)
  have hp := small_pow (m := m) (by omega)
  refine KW.ldP hS hm' rfl rfl rfl rfl rfl rfl ?_
  refine KW.callE rfl rfl rfl rfl rfl (crowdOf (m := m) (by omega) (by omega) hg (hs.to hfz)) (fun _ _ => ?_)
  refine KW.callE rfl rfl rfl rfl rfl (contains hq (by omega)) (fun _ _ => ?_)
  exact KW.ret rfl rfl rfl rfl rfl
theorem opens {m : Nat} (hm : m ≤ 7) (h : Int) {q : Nat} (hq : q < 4611686018427387904) {gs : List (List Int)} (hsm : Sml gs) (hb : Below' m gs) {a c} (hs : (Kn.int .i64).sl.Sl S H0 (.slice a gs.length c) gs) :
    Spec Try.prog S H0 218 [familyV h (.slice a gs.length c), .int .u64 q] (fun v => v = .bool (tv (Opens gs q))) := by
  refine Spec.of Try.func218 rfl (by kernel_rfl) rfl (fun H hfin hfz => ?_)
  refine KW.callV rfl rfl rfl rfl rfl (fun H1 g => containsFunc2 (p := fun x => tv (q &&& bitsOf x = bitsOf x)) hsm.len ((hs.to hfz).on (fun id hid => (g.froz id hid).2) (fun id hid => by have := (g.froz id hid).1; have := g.n_; show id < H1.n; omega)) (fun H' hf' x ax cx hx hsx => ?_)) (fun _ _ => ?_)
  · have hb1 := g.blk (j := 1) rfl
    obtain ⟨h1, h2⟩ := hf' _ hb1.2
    exact opens1 hm hq (hb x hx) (hsm.each x hx) h1 (h2.trans hb1.1) hsx
  · refine KW.ret rfl rfl rfl rfl ?_
    show Value.bool (tv _) = _
    congr 1
    exact tv_congr ⟨fun ⟨x, h1, h2⟩ => ⟨x, h1, tv_iff.1 h2⟩, fun ⟨x, h1, h2⟩ => ⟨x, h1, tv_iff.2 h2⟩⟩
end
end Go.Proofs.Ytmkpfllbmdahkaa.Am
/- Contracts: the program's search for a misfit. Each holds under its own conditions. -/
set_option linter.unusedVariables false
set_option maxRecDepth 20000
namespace Go.Proofs.Ytmkpfllbmdahkaa.Am
open Go Go.RowKit Go.Proofs
def Grow (l : List Int) (u : Int) (gs : List (List Int)) (a b : Nat) : Prop := a &&& b = a ∧ ¬ Opens gs a ∧ Opens gs b ∧ l.getD b 0 < l.getD a 0 + u
def Meet (l : List Int) (u : Int) (gs : List (List Int)) (a b : Nat) : Prop := Opens gs a ∧ Opens gs b ∧ ¬ Opens gs (a &&& b) ∧ l.getD a 0 + l.getD b 0 < l.getD (a ||| b) 0 + l.getD (a &&& b) 0 + u
def Mis (l : List Int) (u : Int) (gs : List (List Int)) (a b : Nat) : Prop := Grow l u gs a b ∨ Meet l u gs a b
/-- The first misfit, or that there is none. -/
def Fst (l : List Int) (u : Int) (gs : List (List Int)) (a b : Nat) (f : Bool) : Prop :=
  (f = true ∧ a < l.length ∧ b < l.length ∧ Mis l u gs a b ∧ (∀ a', a' < a → ∀ b', b' < l.length → ¬ Mis l u gs a' b') ∧ ∀ b', b' < b → ¬ Mis l u gs a b') ∨
  (f = false ∧ a = 0 ∧ b = 0 ∧ ∀ a', a' < l.length → ∀ b', b' < l.length → ¬ Mis l u gs a' b')
theorem Fst.one {l : List Int} {u : Int} {gs : List (List Int)} {a b a' b' : Nat} {f f' : Bool} (h : Fst l u gs a b f) (k : Fst l u gs a' b' f') : a = a' ∧ b = b' ∧ f = f' := by
  rcases h with ⟨rfl, h1, h2, h3, h4, h5⟩ | ⟨rfl, rfl, rfl, h4⟩ <;> rcases k with ⟨rfl, k1, k2, k3, k4, k5⟩ | ⟨rfl, rfl, rfl, k4⟩
  · have ha : a = a' := by
      rcases Nat.lt_trichotomy a a' with h | h | h
      · exact absurd h3 (k4 a h b h2)
      · exact h
      · exact absurd k3 (h4 a' h b' k2)
    subst ha
    refine ⟨rfl, ?_, rfl⟩
    rcases Nat.lt_trichotomy b b' with h | h | h
    · exact absurd h3 (k5 b h)
    · exact h
    · exact absurd k3 (h5 b' h)
  · exact absurd h3 (k4 a h1 b h2)
  · exact absurd k3 (h4 a' k1 b' k2)
  · exact ⟨rfl, rfl, rfl⟩
section
variable {S : Ids} {H0 : AH}
end
end Go.Proofs.Ytmkpfllbmdahkaa.Am
/- Dual ranks, plain: they are ranks if none is too great. No condition beyond each lemma's own. -/
set_option linter.unusedVariables false
namespace Go.Proofs.Ytmkpfllbmdahkaa.Am
open Go Go.RowKit
def dif (a b : Nat) : Nat := a ^^^ (a &&& b)
theorem dif_bit (a b i : Nat) : (dif a b).testBit i = (a.testBit i && !b.testBit i) := by
  unfold dif
  rw [Nat.testBit_xor, Nat.testBit_and]
  cases a.testBit i <;> cases b.testBit i <;> rfl
theorem dif_lt {a b m : Nat} (ha : a < 2 ^ m) : dif a b < 2 ^ m := by
  refine Nat.lt_pow_two_of_testBit _ fun i hi => ?_
  rw [dif_bit, Nat.testBit_lt_two_pow (Nat.lt_of_lt_of_le ha (Nat.pow_le_pow_right (by decide) hi))]; rfl
theorem dif_or (A a b : Nat) : dif A (a ||| b) = dif A a &&& dif A b := by
  apply Nat.eq_of_testBit_eq; intro i
  rw [Nat.testBit_and, dif_bit, dif_bit, dif_bit, Nat.testBit_or]
  cases A.testBit i <;> cases a.testBit i <;> cases b.testBit i <;> rfl
theorem dif_and (A a b : Nat) : dif A (a &&& b) = dif A a ||| dif A b := by
  apply Nat.eq_of_testBit_eq; intro i
  rw [Nat.testBit_or, dif_bit, dif_bit, dif_bit, Nat.testBit_and]
  cases A.testBit i <;> cases a.testBit i <;> cases b.testBit i <;> rfl
theorem dif_zero (A : Nat) : dif A 0 = A := by
  apply Nat.eq_of_testBit_eq; intro i
  rw [dif_bit]; simp
/-- The sum of the single ranks of the holders below n in a set. -/
def sumH (l : List Int) (c : Nat) : Nat → Int
  | 0 => 0
  | n + 1 => sumH l c n + (if c.testBit n = true then l.getD (2 ^ n) 0 else 0)
theorem sumH_mod (l : List Int) (a b : Nat) : ∀ n, sumH l a n + sumH l b n = sumH l (a ||| b) n + sumH l (a &&& b) n
  | 0 => rfl
  | n + 1 => by
    have h := sumH_mod l a b n
    simp only [sumH, Nat.testBit_or, Nat.testBit_and]
    cases a.testBit n <;> cases b.testBit n <;> simp <;> omega
theorem sumH_zero (l : List Int) : ∀ n, sumH l 0 n = 0
  | 0 => rfl
  | n + 1 => by simp only [sumH, sumH_zero l n, Nat.zero_testBit]; rfl
section
variable {l : List Int} {m : Nat}
theorem getD_nonneg (hw : Within l) (i : Nat) : 0 ≤ l.getD i 0 := by
  rcases Nat.lt_or_ge i l.length with h | h
  · exact (hw i h).1
  · rw [List.getD_eq_getElem?_getD, List.getElem?_eq_none h]; exact Int.le_refl _
theorem meets_at (hM : Meets l) {a b : Nat} (ha : a < l.length) (hb : b < l.length) : l.getD (a ||| b) 0 + l.getD (a &&& b) 0 ≤ l.getD a 0 + l.getD b 0 := by
  have := hM a ha b hb
  unfold Bad at this
  omega
/-- Added holders raise a rank by no more than their own. -/
theorem rank_add (hl : l.length = 2 ^ m) (hw : Within l) (hM : Meets l) {z c : Nat} (hz : z < 2 ^ m) (hc : c < 2 ^ m) : ∀ n, n ≤ m → l.getD (z ||| c % 2 ^ n) 0 ≤ l.getD z 0 + sumH l c n
  | 0, _ => by
    have : c % 2 ^ 0 = 0 := by rw [Nat.pow_zero]; exact Nat.mod_one c
    rw [this, Nat.or_zero]; simp [sumH]
  | n + 1, hn => by
    have ih := rank_add hl hw hM hz hc n (by omega)
    have hlt : c % 2 ^ n < 2 ^ m := Nat.lt_of_le_of_lt (Nat.mod_le _ _) hc
    have hpn : 2 ^ n < 2 ^ m := Nat.pow_lt_pow_right (by decide) (by omega)
    by_cases hb : c.testBit n = true
    · have e : z ||| c % 2 ^ (n + 1) = (z ||| c % 2 ^ n) ||| 2 ^ n := by
        apply Nat.eq_of_testBit_eq; intro i
        rw [Nat.testBit_or, Nat.testBit_or, Nat.testBit_or, Nat.testBit_mod_two_pow, Nat.testBit_mod_two_pow, Nat.testBit_two_pow]
        by_cases h1 : n = i
        · subst h1; simp [hb]
        · by_cases h2 : i < n
          · have : i < n + 1 := by omega
            simp [h2, this, h1]
          · have : ¬ i < n + 1 := by omega
            simp [h2, this, h1]
      have h1 := meets_at hM (a := z ||| c % 2 ^ n) (b := 2 ^ n) (by rw [hl]; exact Nat.or_lt_two_pow hz hlt) (by rw [hl]; exact hpn)
      have h2 := getD_nonneg hw ((z ||| c % 2 ^ n) &&& 2 ^ n)
      rw [e]
      simp only [sumH, if_pos hb]
      omega
    · have e : c % 2 ^ (n + 1) = c % 2 ^ n := by
        apply Nat.eq_of_testBit_eq; intro i
        rw [Nat.testBit_mod_two_pow, Nat.testBit_mod_two_pow]
        by_cases h1 : n = i
        · subst h1; simp at hb; simp [hb]
        · by_cases h2 : i < n
          · have : i < n + 1 := by omega
            simp [h2, this]
          · have : ¬ i < n + 1 := by omega
            simp [h2, this]
      rw [e]
      simp only [sumH, if_neg hb]
      omega
theorem opens_up {gs : List (List Int)} {a b : Nat} (h : Opens gs a) (hab : a &&& b = a) : Opens gs b := by
  obtain ⟨g, hg, h1⟩ := h
  refine ⟨g, hg, ?_⟩
  apply Nat.eq_of_testBit_eq; intro i
  have h2 := congrArg (fun x => x.testBit i) h1
  have h3 := congrArg (fun x => x.testBit i) hab
  simp only [Nat.testBit_and] at h2 h3 ⊢
  revert h2 h3
  cases a.testBit i <;> cases b.testBit i <;> cases (bitsOf g).testBit i <;> simp
end
/-- What the unit adds for a set that does not open. -/
noncomputable def uO (u : Int) (gs : List (List Int)) (x : Nat) : Int := if tv (Opens gs x) = true then 0 else u
noncomputable def dualAt (l : List Int) (u : Int) (gs : List (List Int)) (m c : Nat) : Int := l.getD (dif (2 ^ m - 1) c) 0 - l.getD (2 ^ m - 1) 0 + sumH l c m + uO u gs (dif (2 ^ m - 1) c)
noncomputable def dualL (l : List Int) (u : Int) (gs : List (List Int)) (m n : Nat) : List Int := (List.range n).map (dualAt l u gs m)
theorem dualL_len (l : List Int) (u : Int) (gs : List (List Int)) (m n : Nat) : (dualL l u gs m n).length = n := by simp [dualL]
theorem dualL_at {l : List Int} {u : Int} {gs : List (List Int)} {m n i : Nat} (h : i < n) : (dualL l u gs m n).getD i 0 = dualAt l u gs m i := by
  rw [List.getD_eq_getElem?_getD]
  simp [dualL, h]
section
variable {l : List Int} {u : Int} {gs : List (List Int)} {m : Nat}
theorem uO_mono {a b : Nat} (hu : 0 ≤ u) (hab : a &&& b = a) : uO u gs b ≤ uO u gs a := by
  unfold uO
  by_cases ha : Opens gs a
  · rw [tv_true ha, tv_true (opens_up ha hab)]; exact Int.le_refl _
  · rw [tv_false ha]
    by_cases hb : Opens gs b
    · rw [tv_true hb]; simpa using hu
    · rw [tv_false hb]; exact Int.le_refl _
theorem dual_mono (hl : l.length = 2 ^ m) (hw : Within l) (hM : Meets l) (hu : 0 ≤ u) {a b : Nat} (ha : a < 2 ^ m) (hb : b < 2 ^ m) (hab : a &&& b = a) : dualAt l u gs m a ≤ dualAt l u gs m b := by
  have hA : 2 ^ m - 1 < 2 ^ m := by have := Nat.two_pow_pos m; omega
  have full : ∀ i, (2 ^ m - 1).testBit i = decide (i < m) := fun i => Nat.testBit_two_pow_sub_one m i
  -- what stands outside a is what stands outside b, with d = b without a
  have e1 : dif (2 ^ m - 1) b ||| dif b a % 2 ^ m = dif (2 ^ m - 1) a := by
    have hd : dif b a % 2 ^ m = dif b a := Nat.mod_eq_of_lt (dif_lt hb)
    rw [hd]
    apply Nat.eq_of_testBit_eq; intro i
    have h3 := congrArg (fun x => x.testBit i) hab
    have h4 : i ≥ m → b.testBit i = false := fun hi => Nat.testBit_lt_two_pow (Nat.lt_of_lt_of_le hb (Nat.pow_le_pow_right (by decide) hi))
    simp only [Nat.testBit_and, Nat.testBit_or, dif_bit, full] at h3 ⊢
    by_cases hi : i < m
    · revert h3
      cases a.testBit i <;> cases b.testBit i <;> simp [hi]
    · rw [h4 (by omega)] at h3 ⊢
      revert h3
      cases a.testBit i <;> simp [hi]
  have h1 := rank_add hl hw hM (z := dif (2 ^ m - 1) b) (c := dif b a) (dif_lt hA) (dif_lt hb) m (Nat.le_refl _)
  rw [e1] at h1
  -- the single ranks
  have e2 : sumH l a m + sumH l (dif b a) m = sumH l b m := by
    have h := sumH_mod l a (dif b a) m
    have e3 : a ||| dif b a = b := by
      apply Nat.eq_of_testBit_eq; intro i
      have h3 := congrArg (fun x => x.testBit i) hab
      simp only [Nat.testBit_and, Nat.testBit_or, dif_bit] at h3 ⊢
      revert h3
      cases a.testBit i <;> cases b.testBit i <;> simp
    have e4 : a &&& dif b a = 0 := by
      apply Nat.eq_of_testBit_eq; intro i
      simp only [Nat.testBit_and, dif_bit, Nat.zero_testBit]
      cases a.testBit i <;> cases b.testBit i <;> rfl
    rw [e3, e4, sumH_zero] at h
    omega
  have h2 := uO_mono (gs := gs) hu (a := dif (2 ^ m - 1) b) (b := dif (2 ^ m - 1) a) (by
    apply Nat.eq_of_testBit_eq; intro i
    have h3 := congrArg (fun x => x.testBit i) hab
    simp only [Nat.testBit_and, dif_bit] at h3 ⊢
    revert h3
    cases a.testBit i <;> cases b.testBit i <;> cases (2 ^ m - 1).testBit i <;> simp)
  unfold dualAt
  omega
theorem dual_meets (hl : l.length = 2 ^ m) (hM : Meets l) (hu : 0 ≤ u) (hfit : ∀ a, a < l.length → ∀ b, b < l.length → ¬ Mis l u gs a b) {a b : Nat} (ha : a < 2 ^ m) (hb : b < 2 ^ m) :
    dualAt l u gs m (a ||| b) + dualAt l u gs m (a &&& b) ≤ dualAt l u gs m a + dualAt l u gs m b := by
  have hA : 2 ^ m - 1 < 2 ^ m := by have := Nat.two_pow_pos m; omega
  unfold dualAt
  rw [dif_or, dif_and]
  have hs := sumH_mod l a b m
  have hX : dif (2 ^ m - 1) a < l.length := by rw [hl]; exact dif_lt hA
  have hY : dif (2 ^ m - 1) b < l.length := by rw [hl]; exact dif_lt hA
  generalize dif (2 ^ m - 1) a = X at *
  generalize dif (2 ^ m - 1) b = Y at *
  have h1 := meets_at hM hX hY
  have m1 := uO_mono (gs := gs) hu (a := X &&& Y) (b := X) (by apply Nat.eq_of_testBit_eq; intro i; simp only [Nat.testBit_and]; cases X.testBit i <;> cases Y.testBit i <;> rfl)
  have m2 := uO_mono (gs := gs) hu (a := X) (b := X ||| Y) (by apply Nat.eq_of_testBit_eq; intro i; simp only [Nat.testBit_and, Nat.testBit_or]; cases X.testBit i <;> cases Y.testBit i <;> rfl)
  have m3 := uO_mono (gs := gs) hu (a := X &&& Y) (b := Y) (by apply Nat.eq_of_testBit_eq; intro i; simp only [Nat.testBit_and]; cases X.testBit i <;> cases Y.testBit i <;> rfl)
  have m4 := uO_mono (gs := gs) hu (a := Y) (b := X ||| Y) (by apply Nat.eq_of_testBit_eq; intro i; simp only [Nat.testBit_and, Nat.testBit_or]; cases X.testBit i <;> cases Y.testBit i <;> rfl)
  have v : ∀ z, (uO u gs z = 0 ∧ Opens gs z) ∨ (uO u gs z = u ∧ ¬ Opens gs z) := fun z => by
    unfold uO
    by_cases hz : Opens gs z
    · rw [tv_true hz]; exact .inl ⟨rfl, hz⟩
    · rw [tv_false hz]; exact .inr ⟨rfl, hz⟩
  have hf := hfit X hX Y hY
  rcases v X with ⟨x1, x2⟩ | ⟨x1, x2⟩ <;> rcases v Y with ⟨y1, y2⟩ | ⟨y1, y2⟩ <;> rcases v (X &&& Y) with ⟨z1, z2⟩ | ⟨z1, z2⟩ <;> first
    | omega
    | (have : ¬ (l.getD X 0 + l.getD Y 0 < l.getD (X ||| Y) 0 + l.getD (X &&& Y) 0 + u) := fun hc => hf (.inr ⟨x2, y2, z2, hc⟩)
       omega)
/-- Dual ranks are ranks if none is too great. -/
theorem dual_ok (hr : OkR m u l) (hop : Opens gs (2 ^ m - 1)) (hfit : ∀ a, a < l.length → ∀ b, b < l.length → ¬ Mis l u gs a b) : OkR m u (dualL l u gs m (2 ^ m)) ↔ ∀ x ∈ dualL l u gs m (2 ^ m), x ≤ 100000 := by
  obtain ⟨h1, h2, h3, h4, h5, h6⟩ := hr
  have h3 : l.length = 2 ^ m := by simpa using h3
  have hpos := Nat.two_pow_pos m
  have len := dualL_len l u gs m (2 ^ m)
  have z0 : dualAt l u gs m 0 = 0 := by
    unfold dualAt uO
    rw [dif_zero, sumH_zero, tv_true hop]; simp
  have mono := fun {a b : Nat} (ha : a < 2 ^ m) (hb : b < 2 ^ m) (hab : a &&& b = a) => dual_mono (gs := gs) h3 h5 h6 (by omega : 0 ≤ u) ha hb hab
  constructor
  · intro h x hx
    obtain ⟨i, hi⟩ := List.getElem?_of_mem hx
    have hil := (List.getElem?_eq_some_iff.1 hi).1
    have := (h.2.2.2.2.1 i hil).2
    rw [getD_of hi] at this
    exact this
  · intro h
    refine ⟨h1, h2, by simpa using len, by rw [dualL_at hpos, z0], fun i hi => ?_, fun a ha b hb hbad => ?_⟩
    · rw [len] at hi
      have h7 := mono hpos hi (Nat.zero_and i)
      rw [z0] at h7
      rw [dualL_at hi]
      refine ⟨h7, h _ ?_⟩
      rw [← dualL_at (l := l) (u := u) (gs := gs) (m := m) hi, List.getD_eq_getElem?_getD, List.getElem?_eq_getElem (by omega)]
      exact List.getElem_mem _
    · rw [len] at ha hb
      have hab := Nat.or_lt_two_pow ha hb
      have hcd := Nat.and_lt_two_pow a hb
      unfold Bad at hbad
      rw [dualL_at ha, dualL_at hb, dualL_at hab, dualL_at hcd] at hbad
      have h7 := dual_meets h3 h6 (by omega : 0 ≤ u) hfit ha hb
      rcases hbad with ⟨h8, h9⟩ | h8
      · have := mono ha hb h8; omega
      · omega
end
end Go.Proofs.Ytmkpfllbmdahkaa.Am
/- Contracts: the reference's table of what opens, and its search for a misfit. Each holds under its own conditions. -/
set_option linter.unusedVariables false
set_option maxRecDepth 20000
namespace Go.Proofs.Ytmkpfllbmdahkaa.Am
open Go Go.RowKit Go.Proofs
theorem bool_sl {xs : List Bool} {S : Ids} {H : AH} {id c : Nat} {b : Blk} (hS : S id) (hb : H.m id = some b) (hc : b.cells = xs.map Value.bool) (hl : xs.length ≤ c) : Kn.bool.Sl S H (.slice (some ⟨id, 0, some 1⟩) xs.length c) xs := by
  refine .inr ⟨id, 0, c, b, rfl, hl, hS, hb, by rw [hc]; simp [Kn.bool], fun i x hx => ?_⟩
  obtain ⟨hi, rfl⟩ := List.getElem?_eq_some_iff.1 hx
  show _ = _
  rw [hc]
  show ((xs.map Value.bool).drop (0 + i * 1)).take 1 = _
  rw [List.take_one, Nat.zero_add, Nat.mul_one, List.head?_drop]
  simp [hi]
noncomputable def tabO (gs : List (List Int)) (n : Nat) : List Bool := (List.range n).map fun q => tv (Opens gs q)
theorem tabO_len (gs : List (List Int)) (n : Nat) : (tabO gs n).length = n := by simp [tabO]
theorem tabO_at {gs : List (List Int)} {n q : Nat} (h : q < n) {y : Bool} (hy : (tabO gs n)[q]? = some y) : y = tv (Opens gs q) := by
  unfold tabO at hy
  rw [List.getElem?_map, List.getElem?_range h] at hy
  simpa using hy.symm
theorem tabO_next (gs : List (List Int)) (n : Nat) : tabO gs (n + 1) = tabO gs n ++ [tv (Opens gs n)] := by simp [tabO, List.range_succ]
section
variable {S : Ids} {H0 : AH}
theorem l07Open {m : Nat} (hm : m ≤ 7) {id : Nat} {ty : TypeId} {rw : Bool} {a1 c1} {gs : List (List Int)} (hsm : Sml gs) (hb : Below' m gs) (hS : S id) (hmm : H0.m id = some ⟨ty, rw, [.int .i64 m, .slice a1 gs.length c1]⟩) (hs : (Kn.int .i64).sl.Sl S H0 (.slice a1 gs.length c1) gs) :
    SpecM Try.prog S H0 156 [.pointer (some ⟨id, 0, none⟩)] (fun n v H1 => ∃ a c, v = .slice a (tabO gs (2 ^ m)).length c ∧ Kn.bool.Sl (New n H1.n) H1 (.slice a (tabO gs (2 ^ m)).length c) (tabO gs (2 ^ m))) := by
  refine SpecM.of Try.func156 rfl (by kernel_rfl) rfl (fun H hfin hfz => ?_)
  have hs := hs.to hfz
  have hm2 := ((hfz id hS).2).trans hmm
  have hS2 : Low H.n id := (hfz id hS).1
  have hgl := hsm.len
  have hp := small_pow (m := m) (by omega)
  refine KW.lit rfl rfl rfl rfl rfl rfl rfl rfl rfl rfl [] rfl rfl (fun v hv => by simp at hv) rfl ?_
  refine KW.lpM rfl rfl (fun s : Nat × Nat => [(0, .pointer (some ⟨id, 0, none⟩)), (3, .slice (some ⟨s.2, 0, some 1⟩) s.1 s.1), (4, .int .i64 s.1)]) (fun _ => Low H.n) (fun _ => H) (fun s => [(s.2, ⟨_, true, (tabO gs s.1).map Value.bool⟩)]) (fun s => s.1 ≤ 2 ^ m) (fun s => 2 ^ m - s.1) (0, H.n) (by simp) ⟨rfl, rfl, rfl, trivial⟩ rfl rfl rfl (fun s hi b n => ?_)
  obtain ⟨q, o⟩ := s
  simp only at hi
  refine KW.fact (p := ¬ o < H.n) (fun _ g => (g.vars 0 _ rfl).2.2) (fun ho => ?_)
  refine KW.ldP hS2 hm2 rfl rfl rfl rfl rfl rfl ?_
  refine KW.shlI rfl rfl rfl rfl rfl rfl m (wru (by omega) (by omega)) (by omega) ?_
  refine KW.cnd rfl rfl (fun h => ?_) (fun h => ?_)
  · have hql : q < 2 ^ m := by omega
    refine KW.lp rfl rfl (fun i : Nat => [(0, .pointer (some ⟨id, 0, none⟩)), (3, .slice (some ⟨o, 0, some 1⟩) q q), (4, .int .i64 q), (5, .bool (tv (Opens (gs.take i) q))), (6, .int .i64 i)]) (fun i => i ≤ gs.length) (fun i => gs.length - i) 0 (by omega) ⟨rfl, rfl, rfl, congrArg Value.bool (tv_false (fun ⟨g, hg, _⟩ => by simp at hg)).symm, rfl, trivial⟩ (fun i hi b n => ?_)
    refine KW.ldP hS2 hm2 rfl rfl rfl rfl rfl rfl ?_
    refine KW.cnd rfl rfl (fun h2 => ?_) (fun h2 => ?_)
    · refine KW.ldP hS2 hm2 rfl rfl rfl rfl rfl rfl ?_
      refine KW.getL hs rfl rfl rfl rfl rfl rfl rfl rfl rfl rfl rfl rfl rfl rfl rfl rfl (by omega) h2 (fun g ag cg hg hsg => ?_)
      have hg : gs[i]? = some g := hg
      have hmem := List.mem_of_getElem? hg
      have hbs := below_bits hm hb hmem
      refine KW.callE rfl rfl rfl rfl rfl (l07Bits (m := m) (by omega) (by have := hsm.each g hmem; omega) (hb g hmem) hsg) (fun _ _ => ?_)
      have etake : gs.take (i + 1) = gs.take i ++ [g] := by
        obtain ⟨hi', rfl⟩ := List.getElem?_eq_some_iff.1 hg
        exact List.take_succ_eq_append_getElem hi'
      have eop : Opens (gs.take (i + 1)) q ↔ Opens (gs.take i) q ∨ q &&& bitsOf g = bitsOf g := by
        rw [etake]
        constructor
        · rintro ⟨x, hx, h⟩
          rcases List.mem_append.1 hx with hx | hx
          · exact .inl ⟨x, hx, h⟩
          · obtain rfl : x = g := by simpa using hx
            exact .inr h
        · rintro (⟨x, hx, h⟩ | h)
          · exact ⟨x, List.mem_append_left _ hx, h⟩
          · exact ⟨g, by simp, h⟩
      refine KW.tstB rfl rfl (fun h3 => ?_) (fun h3 => ?_)
      · exact KW.nxt rfl rfl (fun H g' => ⟨i + 1, by omega, by omega, ⟨rfl, rfl, rfl, congrArg Value.bool (tv_true (eop.2 (.inl (tv_iff.1 h3)))).symm, congrArg (Value.int .i64) (inc64 (by omega)), trivial⟩, g'⟩)
      · refine KW.nxt rfl rfl (fun H g' => ⟨i + 1, by omega, by omega, ⟨rfl, rfl, rfl, ?_, congrArg (Value.int .i64) (inc64 (by omega)), trivial⟩, g'⟩)
        show Value.bool (IntKind.i64.wrap ((BitVec.ofInt IntKind.i64.bits ((bitsOf g : Nat) : Int) &&& BitVec.ofInt IntKind.i64.bits (q : Int)).toNat : Int) == ((bitsOf g : Nat) : Int)) = _
        rw [and_i64 (by omega) (by omega), Nat.and_comm]
        congr 1
        by_cases h4 : q &&& bitsOf g = bitsOf g
        · rw [tv_true (eop.2 (.inr h4)), h4]; simp
        · rw [tv_false (fun hc => by rcases eop.1 hc with hc | hc; · rw [tv_true hc] at h3; cases h3
                                     · exact h4 hc)]
          simp; omega
    · have hil : i = gs.length := by omega
      subst hil
      rw [List.take_length]
      refine KW.lit rfl rfl rfl rfl rfl rfl rfl rfl rfl rfl [.bool (tv (Opens gs q))] rfl rfl (fun v hv => by simp at hv; subst hv; rfl) rfl ?_
      refine KW.appT (ys := [.bool (tv (Opens gs q))]) (m := 1) 0 rfl rfl rfl rfl rfl rfl rfl rfl rfl rfl (fun H g => acells_T (g.blk (j := 1) rfl).1 rfl rfl) (by simp [tabO_len]) (fun v hv => by simp at hv; subst hv; rfl) (by decide) (by show (q + 1) * 1 ≤ _; omega) (by omega) ?_
      refine KW.nxt rfl rfl (fun H g' => ⟨(q + 1, _), by simp only; omega, by simp only; omega, ⟨rfl, rfl, congrArg (Value.int .i64) (inc64 (by omega)), trivial⟩, (g'.take 1).eqT ?_⟩)
      rw [tabO_next, List.map_append]
      rfl
  · obtain rfl : q = 2 ^ m := by omega
    refine KW.retM rfl rfl rfl rfl (fun id hid => ⟨hid, rfl⟩) (fun H1 g => ?_)
    have hb := g.blk (j := 0) rfl
    refine ⟨some ⟨o, 0, some 1⟩, 2 ^ m, ?_, bool_sl ⟨by omega, hb.2⟩ hb.1 rfl (by rw [tabO_len]; omega)⟩
    rw [tabO_len]
    rfl
end
end Go.Proofs.Ytmkpfllbmdahkaa.Am
/- Contracts: FitsFamily, of the program and of the reference. Each holds under its own conditions. -/
set_option linter.unusedVariables false
set_option maxRecDepth 20000
namespace Go.Proofs.Ytmkpfllbmdahkaa.Am
open Go Go.RowKit Go.Proofs
/-- What both return. -/
noncomputable def fitsB (m u : Int) (l : List Int) (h : Int) (gs : List (List Int)) : Bool := if fitC m u l h gs = 0 then tv (∀ a, a < l.length → ∀ b, b < l.length → ¬ Mis l u gs a b) else false
noncomputable def fitsV (m u : Int) (l : List Int) (h : Int) (gs : List (List Int)) : Value := .tuple #[.bool (fitsB m u l h gs), .int .i64 (fitC m u l h gs)]
theorem fits_no {m u : Int} {l : List Int} {h : Int} {gs : List (List Int)} (e : ¬ fitC m u l h gs = 0) : fitsV m u l h gs = .tuple #[.bool false, .int .i64 (fitC m u l h gs)] := by unfold fitsV fitsB; rw [if_neg e]
theorem fits_yes {m u : Int} {l : List Int} {h : Int} {gs : List (List Int)} (e : fitC m u l h gs = 0) : fitsV m u l h gs = .tuple #[.bool (tv (∀ a, a < l.length → ∀ b, b < l.length → ¬ Mis l u gs a b)), .int .i64 0] := by unfold fitsV fitsB; rw [if_pos e, e]
theorem fitC_zero {m u : Int} {l : List Int} {h : Int} {gs : List (List Int)} (e : fitC m u l h gs = 0) : OkR m u l ∧ FamOk h gs ∧ m = h := by
  unfold fitC at e
  by_cases h1 : tv (OkR m u l) = true
  · rw [if_pos h1] at e
    by_cases h2 : codeF h gs = 0
    · rw [if_pos h2] at e
      by_cases h3 : m = h
      · refine ⟨tv_iff.1 h1, ?_, h3⟩
        unfold codeF at h2
        by_cases h4 : tv (FamOk h gs) = true
        · exact tv_iff.1 h4
        · rw [if_neg h4] at h2; omega
      · rw [if_neg h3] at e; omega
    · rw [if_neg h2] at e; omega
  · rw [if_neg h1] at e; omega
theorem Fst.none_ {l : List Int} {u : Int} {gs : List (List Int)} {a b : Nat} {f : Bool} (h : Fst l u gs a b f) : (!f) = tv (∀ a, a < l.length → ∀ b, b < l.length → ¬ Mis l u gs a b) := by
  rcases h with ⟨rfl, h1, h2, h3, _⟩ | ⟨rfl, _, _, h4⟩
  · rw [tv_false (fun hc => hc a h1 b h2 h3)]; rfl
  · rw [tv_true h4]; rfl
section
variable {S : Ids} {H0 : AH}
end
end Go.Proofs.Ytmkpfllbmdahkaa.Am
/- Contracts: sets as groups, marks on ranks and families. Each holds under its own conditions. -/
set_option linter.unusedVariables false
set_option maxRecDepth 20000
namespace Go.Proofs.Ytmkpfllbmdahkaa.Am
open Go Go.RowKit Go.Proofs
section
variable {P : Program} {S : Ids} {H0 : AH} {Q : PostC} {k k1 : List It} {e e1 : Env} {T T1 : List Var} {n n1 : Nat} {l1 r1 : List Nat} {d1 : Tmp}
theorem KW.shr {o : Oper} {dr : Bool} {t u : TypeId} {x y : Operand} {ik kk : IntKind} {j : Int} {v : Int} (h : Go1 P k e T n (.op o dr) k1 e1 T1 n1 l1 r1) (hlr : l1 = r1) (ho : o.op = .binOp .shr t x y u) (hd : o.dst = some d1) (hx : ev e1 x = .int ik v) (hy : ev e1 y = .int kk j) (hb : ik.bits = 64) (a m : Nat) (hv : v = a) (hj : j = m) (hm : m ≤ 63)
    (hk : KW P S H0 Q n1 T1 k1 (put1 e1 d1 (.int ik ((a / 2 ^ m : Nat) : Int)))) : KW P S H0 Q n T k e := by
  refine KW.pure h hlr ho hd rfl _ ?_ hk
  subst hj hv
  simp only [pop, hx, hy, abin, ashift]
  rw [if_neg (by omega), hb]
  have e1 : min (m : Int).toNat 64 = m := by omega
  rw [e1]
  congr 2
  rw [Int.fdiv_eq_ediv_of_nonneg _ (by exact Int.pow_nonneg (by decide))]
  exact_mod_cast rfl
end
/-- The holders below n that are in a set. -/
def hold (x n : Nat) : List Int := ((List.range n).filter fun i => x.testBit i).map fun (i : Nat) => (i : Int)
theorem hold_next (x n : Nat) : hold x (n + 1) = if x.testBit n = true then hold x n ++ [(n : Int)] else hold x n := by
  unfold hold
  rw [List.range_succ, List.filter_append, List.map_append]
  by_cases h : x.testBit n = true
  · simp [h]
  · have h : x.testBit n = false := by simpa using h
    simp [h]
theorem hold_len (x n : Nat) : (hold x n).length ≤ n := by
  unfold hold
  rw [List.length_map]
  exact Nat.le_trans (List.length_filter_le _ _) (by simp)
theorem hold_up {x m : Nat} (hx : x < 2 ^ m) : ∀ d, hold x (m + d) = hold x m
  | 0 => rfl
  | d + 1 => by
    rw [← Nat.add_assoc, hold_next, if_neg (by rw [Nat.testBit_lt_two_pow (Nat.lt_of_lt_of_le hx (Nat.pow_le_pow_right (by decide) (by omega)))]; decide)]
    exact hold_up hx d
theorem bit_is {x h : Nat} : (((x / 2 ^ h) &&& 1 : Nat) == 1) = x.testBit h := by
  rw [Nat.testBit_eq_decide_div_mod_eq, Nat.and_one_is_mod]
  rfl
section
variable {S : Ids} {H0 : AH}
theorem has {x h : Nat} (hx : x < 4611686018427387904) (hh : h ≤ 63) : Spec Try.prog S H0 208 [.int .u64 x, .int .i64 h] (fun v => v = .bool (x.testBit h)) := by
  refine Spec.of Try.func208 rfl (by kernel_rfl) rfl (fun H hfin hfz => ?_)
  refine KW.shr rfl rfl rfl rfl rfl rfl rfl x h rfl rfl hh ?_
  refine KW.ret rfl rfl rfl rfl ?_
  show Value.bool (IntKind.u64.wrap ((BitVec.ofInt IntKind.u64.bits ((x / 2 ^ h : Nat) : Int) &&& BitVec.ofInt IntKind.u64.bits ((1 : Nat) : Int)).toNat : Int) == ((1 : Nat) : Int)) = _
  rw [and_u64 (Nat.lt_of_le_of_lt (Nat.div_le_self _ _) hx) (by decide), ← bit_is]
  congr 1
  generalize x / 2 ^ h &&& 1 = q
  by_cases e : q = 1
  · subst e; rfl
  · rw [show (q == 1) = false from by simpa using e]
    simp only [beq_eq_false_iff_ne, ne_eq]
    omega
theorem group {x : Nat} (hx : x < 4611686018427387904) : SpecM Try.prog S H0 164 [.int .u64 x] (fun n v H1 => ∃ a c, v = .slice a (hold x 7).length c ∧ KI.Ml (New n H1.n) H1 (.slice a (hold x 7).length c) (hold x 7)) := by
  refine SpecM.of Try.func164 rfl (by kernel_rfl) rfl (fun H hfin hfz => ?_)
  refine KW.lit rfl rfl rfl rfl rfl rfl rfl rfl rfl rfl [] rfl rfl (fun v hv => by simp at hv) rfl ?_
  refine KW.lpM rfl rfl (fun s : Nat × Nat => [(0, .int .u64 x), (3, .slice (some ⟨s.2, 0, some 1⟩) (hold x s.1).length (hold x s.1).length), (4, .int .i64 s.1)]) (fun _ => Low H.n) (fun _ => H) (fun s => [(s.2, ⟨_, true, (hold x s.1).map (Value.int .i64)⟩)]) (fun s => s.1 ≤ 7) (fun s => 7 - s.1) (0, H.n) (by simp) ⟨rfl, rfl, rfl, trivial⟩ rfl rfl rfl (fun s hi b n => ?_)
  obtain ⟨q, o⟩ := s
  simp only at hi
  refine KW.fact (p := ¬ o < H.n) (fun _ g => (g.vars 0 _ rfl).2.2) (fun ho => ?_)
  have hq := hold_len x q
  refine KW.cnd rfl rfl (fun h => ?_) (fun h => ?_)
  · refine KW.callE rfl rfl rfl rfl rfl (has hx (by omega)) (fun _ _ => ?_)
    refine KW.cndB rfl rfl (fun h2 => ?_) (fun h2 => ?_)
    · refine KW.lit rfl rfl rfl rfl rfl rfl rfl rfl rfl rfl [.int .i64 q] rfl rfl (fun v hv => by simp at hv; subst hv; rfl) rfl ?_
      refine KW.appT (len := (hold x q).length) (ys := [.int .i64 q]) (m := 1) 0 rfl rfl rfl rfl rfl rfl rfl rfl rfl rfl (fun H g => acells_T (g.blk (j := 1) rfl).1 rfl rfl) (by simp) (fun v hv => by simp at hv; subst hv; rfl) (by decide) (by show ((hold x q).length + 1) * 8 ≤ _; omega) (by omega) ?_
      have e := hold_next x q
      rw [if_pos h2] at e
      refine KW.nxt rfl rfl (fun H g' => ⟨(q + 1, _), by simp only; omega, by simp only; omega, ⟨rfl, by simp only [e, List.length_append, List.length_singleton]; rfl, congrArg (Value.int .i64) (inc64 (by omega)), trivial⟩, (g'.take 1).eqT ?_⟩)
      simp only [e, List.map_append]
      rfl
    · have e := hold_next x q
      rw [if_neg (by rw [h2]; decide)] at e
      exact KW.nxt rfl rfl (fun H g' => ⟨(q + 1, o), by simp only; omega, by simp only; omega, ⟨rfl, by simp only [e]; rfl, congrArg (Value.int .i64) (inc64 (by omega)), trivial⟩, g'.eqT (by simp only [e])⟩)
  · obtain rfl : q = 7 := by omega
    refine KW.retM rfl rfl rfl rfl (fun id hid => ⟨hid, rfl⟩) (fun H1 g => ?_)
    have hb := g.blk (j := 0) rfl
    exact ⟨_, _, rfl, int_ml ⟨by omega, hb.2⟩ hb.1 rfl rfl (Nat.le_refl _)⟩
theorem l06Holders {x m : Nat} (hx : x < 4611686018427387904) (hm : m ≤ 63) : SpecM Try.prog S H0 109 [.int .i64 x, .int .i64 m] (fun n v H1 => ∃ a c, v = .slice a (hold x m).length c ∧ KI.Ml (New n H1.n) H1 (.slice a (hold x m).length c) (hold x m)) := by
  refine SpecM.of Try.func109 rfl (by kernel_rfl) rfl (fun H hfin hfz => ?_)
  refine KW.lit rfl rfl rfl rfl rfl rfl rfl rfl rfl rfl [] rfl rfl (fun v hv => by simp at hv) rfl ?_
  refine KW.lpM rfl rfl (fun s : Nat × Nat => [(0, .int .i64 x), (1, .int .i64 m), (5, .slice (some ⟨s.2, 0, some 1⟩) (hold x s.1).length (hold x s.1).length), (6, .int .i64 s.1)]) (fun _ => Low H.n) (fun _ => H) (fun s => [(s.2, ⟨_, true, (hold x s.1).map (Value.int .i64)⟩)]) (fun s => s.1 ≤ m) (fun s => m - s.1) (0, H.n) (by simp) ⟨rfl, rfl, rfl, rfl, trivial⟩ rfl rfl rfl (fun s hi b n => ?_)
  obtain ⟨q, o⟩ := s
  simp only at hi
  refine KW.fact (p := ¬ o < H.n) (fun _ g => (g.vars 0 _ rfl).2.2) (fun ho => ?_)
  have hq := hold_len x q
  refine KW.cnd rfl rfl (fun h => ?_) (fun h => ?_)
  · refine KW.shr rfl rfl rfl rfl rfl rfl rfl x q rfl (wru (by omega) (by omega)) (by omega) ?_
    have eb : (IntKind.i64.wrap ((BitVec.ofInt IntKind.i64.bits ((x / 2 ^ q : Nat) : Int) &&& BitVec.ofInt IntKind.i64.bits ((1 : Nat) : Int)).toNat : Int) == ((1 : Nat) : Int)) = x.testBit q := by
      rw [and_i64 (Nat.lt_of_le_of_lt (Nat.div_le_self _ _) hx) (by decide), ← bit_is]
      generalize x / 2 ^ q &&& 1 = q
      by_cases e : q = 1
      · subst e; rfl
      · rw [show (q == 1) = false from by simpa using e]
        simp only [beq_eq_false_iff_ne, ne_eq]
        omega
    refine KW.cndB rfl rfl (fun h2 => ?_) (fun h2 => ?_)
    · have h2 : x.testBit q = true := eb.symm.trans h2
      refine KW.lit rfl rfl rfl rfl rfl rfl rfl rfl rfl rfl [.int .i64 q] rfl rfl (fun v hv => by simp at hv; subst hv; rfl) rfl ?_
      refine KW.appT (len := (hold x q).length) (ys := [.int .i64 q]) (m := 1) 0 rfl rfl rfl rfl rfl rfl rfl rfl rfl rfl (fun H g => acells_T (g.blk (j := 1) rfl).1 rfl rfl) (by simp) (fun v hv => by simp at hv; subst hv; rfl) (by decide) (by show ((hold x q).length + 1) * 8 ≤ _; omega) (by omega) ?_
      have e := hold_next x q
      rw [if_pos h2] at e
      refine KW.nxt rfl rfl (fun H g' => ⟨(q + 1, _), by simp only; omega, by simp only; omega, ⟨rfl, rfl, by simp only [e, List.length_append, List.length_singleton]; rfl, congrArg (Value.int .i64) (inc64 (by omega)), trivial⟩, (g'.take 1).eqT ?_⟩)
      simp only [e, List.map_append]
      rfl
    · have h2 : x.testBit q = false := eb.symm.trans h2
      have e := hold_next x q
      rw [if_neg (by rw [h2]; decide)] at e
      exact KW.nxt rfl rfl (fun H g' => ⟨(q + 1, o), by simp only; omega, by simp only; omega, ⟨rfl, rfl, by simp only [e]; rfl, congrArg (Value.int .i64) (inc64 (by omega)), trivial⟩, g'.eqT (by simp only [e])⟩)
  · obtain rfl : q = m := by omega
    refine KW.retM rfl rfl rfl rfl (fun id hid => ⟨hid, rfl⟩) (fun H1 g => ?_)
    have hb := g.blk (j := 0) rfl
    exact ⟨_, _, rfl, int_ml ⟨by omega, hb.2⟩ hb.1 rfl rfl (Nat.le_refl _)⟩
theorem markRanks {W : Ids} {m u : Int} {a c} {xs : List Int} {k : Int} (hl : xs.length ≤ 4194304) (hk : 0 ≤ k ∧ k ≤ 1099511627776) (hW : ∀ id, W id → S id) (hs : KI.Ml W H0 (.slice a xs.length c) xs) :
    SpecW Try.prog S H0 W 27 [ranksV m u (.slice a xs.length c), .int .i64 k] (fun n v H1 => v = .int .i64 (k + xs.length) ∧ KI.Ml W H1 (.slice a xs.length c) (cnt k xs.length)) := by
  refine SpecW.of0 Try.func27 rfl (by kernel_rfl) rfl (fun H hfin hfz => ?_)
  have hWl : ∀ id, W id → Low H.n id := fun id hid => (hfz id (hW id hid)).1
  refine KW.callW hWl rfl rfl rfl rfl rfl (markInt64S hl hk hWl (hs.same (fun id hid => (hfz id (hW id hid)).2))) (fun v H1 S' hn st hw hv => ?_)
  obtain ⟨rfl, hv⟩ := hv
  refine KW.retW rfl rfl rfl rfl (fun H2 g => by have := g.n_; omega) (fun id hid hno => ⟨(st id hid).1, (st id hid).2 hno⟩) (fun H2 g => ⟨rfl, hv.same (fun id hid => (g.froz id (st id (hWl id hid)).1).2)⟩)
theorem markFamily {W : Ids} {m : Int} {a c} {xs : List (List Int)} {k : Int} (hl : xs.length ≤ 4194304) (hx : sum (lens xs) ≤ 4194304) (hk : 0 ≤ k ∧ k ≤ 549755813888) (hW : ∀ id, W id → S id) (hs : KI.ml.Ml W H0 (.slice a xs.length c) xs) :
    SpecW Try.prog S H0 W 72 [familyV m (.slice a xs.length c), .int .i64 k] (fun n v H1 => v = .int .i64 (k + sum (lens xs)) ∧ KI.ml.Ml W H1 (.slice a xs.length c) (cnts k (lens xs))) := by
  refine SpecW.of0 Try.func72 rfl (by kernel_rfl) rfl (fun H hfin hfz => ?_)
  have hWl : ∀ id, W id → Low H.n id := fun id hid => (hfz id (hW id hid)).1
  refine KW.callW hWl rfl rfl rfl rfl rfl (markInt64SS hl hx hk hWl (hs.same (fun id hid => (hfz id (hW id hid)).2))) (fun v H1 S' hn st hw hv => ?_)
  obtain ⟨rfl, hv⟩ := hv
  refine KW.retW rfl rfl rfl rfl (fun H2 g => by have := g.n_; omega) (fun id hid hno => ⟨(st id hid).1, (st id hid).2 hno⟩) (fun H2 g => ⟨rfl, hv.same (fun id hid => (g.froz id (st id (hWl id hid)).1).2)⟩)
end
end Go.Proofs.Ytmkpfllbmdahkaa.Am
/- Contracts: FirstMisfit, of the program and of the reference. Each holds under its own conditions. -/
set_option linter.unusedVariables false
set_option maxRecDepth 20000
namespace Go.Proofs.Ytmkpfllbmdahkaa.Am
open Go Go.RowKit Go.Proofs
/-- What both return: two groups and a code. -/
def FmR (m u : Int) (l : List Int) (h : Int) (gs : List (List Int)) (g0 g1 : List Int) (code : Int) : Prop :=
  (¬ fitC m u l h gs = 0 ∧ g0 = [] ∧ g1 = [] ∧ code = fitC m u l h gs) ∨
  (fitC m u l h gs = 0 ∧ ∃ a b f, Fst l u gs a b f ∧ ((f = false ∧ g0 = [] ∧ g1 = [] ∧ code = 6) ∨ (f = true ∧ g0 = hold a 7 ∧ g1 = hold b 7 ∧ code = 0)))
theorem FmR.one {m u : Int} {l : List Int} {h : Int} {gs : List (List Int)} {g0 g1 g0' g1' : List Int} {code code' : Int} (p : FmR m u l h gs g0 g1 code) (q : FmR m u l h gs g0' g1' code') : g0 = g0' ∧ g1 = g1' ∧ code = code' := by
  rcases p with ⟨h0, rfl, rfl, rfl⟩ | ⟨h0, a, b, f, hf, p⟩ <;> rcases q with ⟨k0, rfl, rfl, rfl⟩ | ⟨k0, a', b', f', kf, q⟩
  · exact ⟨rfl, rfl, rfl⟩
  · exact absurd k0 h0
  · exact absurd h0 k0
  · obtain ⟨rfl, rfl, rfl⟩ := hf.one kf
    rcases p with ⟨rfl, rfl, rfl, rfl⟩ | ⟨rfl, rfl, rfl, rfl⟩ <;> rcases q with ⟨e, rfl, rfl, rfl⟩ | ⟨e, rfl, rfl, rfl⟩ <;> first | exact ⟨rfl, rfl, rfl⟩ | cases e
theorem FmR.len {m u : Int} {l : List Int} {h : Int} {gs : List (List Int)} {g0 g1 : List Int} {code : Int} (p : FmR m u l h gs g0 g1 code) : g0.length ≤ 7 ∧ g1.length ≤ 7 := by
  rcases p with ⟨h0, rfl, rfl, rfl⟩ | ⟨h0, a, b, f, hf, ⟨rfl, rfl, rfl, rfl⟩ | ⟨rfl, rfl, rfl, rfl⟩⟩ <;> first | exact ⟨by simp, by simp⟩ | exact ⟨hold_len _ _, hold_len _ _⟩
/-- Two groups apart from each other, and a code. -/
def GgPost (p : List Int → List Int → Int → Prop) (n : Nat) (v : Value) (H1 : AH) : Prop :=
  ∃ (g0 g1 : List Int) (code : Int) (a0 : Option Addr) (c0 : Nat) (a1 : Option Addr) (c1 : Nat) (S0 S1 : Ids), v = .tuple #[.slice a0 g0.length c0, .slice a1 g1.length c1, .int .i64 code] ∧ p g0 g1 code ∧ KI.Ml S0 H1 (.slice a0 g0.length c0) g0 ∧ KI.Ml S1 H1 (.slice a1 g1.length c1) g1 ∧
    (∀ id, S0 id → New n H1.n id) ∧ (∀ id, S1 id → New n H1.n id) ∧ ∀ id, S0 id → S1 id → False
section
variable {S : Ids} {H0 : AH}
end
end Go.Proofs.Ytmkpfllbmdahkaa.Am
/- What has been held, at rows of numbers. Each holds under its own conditions. -/
set_option linter.unusedVariables false
set_option maxRecDepth 20000
namespace Go.Proofs.Ytmkpfllbmdahkaa.Am
open Go Go.RowKit Go.Proofs
section
variable {S : Ids} {H0 : AH} {W : Ids} {a a' : Option Addr} {c c' : Nat} {left k : Int}
theorem held_Int64S {x : List Int} (hB : B_Int64S x) (hk : Mk k (sz_Int64S x)) (hs : K_Int64S.R S H0 (mk_Int64S k x) [.slice a (mk_Int64S k x).length c]) : Spec Try.prog S H0 34 [.slice a (mk_Int64S k x).length c, .int .i64 k] (fun v => v = .int .i64 (k + sz_Int64S x)) := heldInt64S (by show x.length ≤ _; have : x.length ≤ 1048576 := hB; omega) ⟨hk.1, by have := hk.2; omega⟩ (sl1 hs)
theorem held_Int64SS {x : List (List Int)} (hB : B_Int64SS x) (hk : Mk k (sz_Int64SS x)) (hs : K_Int64SS.R S H0 (mk_Int64SS k x) [.slice a (mk_Int64SS k x).length c]) : Spec Try.prog S H0 165 [.slice a (mk_Int64SS k x).length c, .int .i64 k] (fun v => v = .int .i64 (k + sz_Int64SS x)) := by
  have hs := sl1 hs
  have hn : (mk_Int64SS k x).length = x.length := mks_len _ _ _ _
  have hxl : x.length ≤ 1048576 := hB.len
  refine Spec.of1 Try.func165 rfl (by kernel_rfl) rfl (fun H _ => ?_)
  refine KW.lp rfl rfl (fun i : Nat => [(0, .slice a (mk_Int64SS k x).length c), (1, .int .i64 (k + sum ((x.map sz_Int64S).take i))), (5, .int .i64 i)]) (fun i => i ≤ x.length) (fun i => x.length - i) (0) (by omega) ⟨rfl, congrArg (Value.int .i64) (by simp [sum]), rfl, trivial⟩ (fun i hi bE n => ?_)
  have hsl := sum_le (l := x.map sz_Int64S) i
  have hk1 := hk.1
  have hk2 : k + (sum (x.map sz_Int64S) : Nat) ≤ 274877906944 := hk.2
  refine KW.cnd rfl rfl (fun h => ?_) (fun h => ?_)
  · refine KW.getL hs.up rfl rfl rfl rfl rfl rfl rfl rfl rfl rfl rfl rfl rfl rfl rfl rfl (by omega) (by omega) (fun y a' m hy hsy => ?_)
    have hy : (mk_Int64SS k x)[i]? = some y := hy
    obtain ⟨z, hz⟩ : ∃ z, x[i]? = some z := ⟨x[i]'(by omega), List.getElem?_eq_getElem (by omega)⟩
    rw [mks_at k hz] at hy
    cases hy
    have hzl : (x.map sz_Int64S)[i]? = some (sz_Int64S z) := by simp [hz]
    have hsum := sum_take hzl
    have hsl1 := sum_le (l := x.map sz_Int64S) (i + 1)
    refine KW.callE rfl rfl rfl rfl rfl (held_Int64S (hB.each z (List.mem_of_getElem? hz)) (by constructor <;> omega) (sl1' hsy)) (fun _ _ => ?_)
    refine KW.no rfl rfl (by omega) ?_
    refine KW.nxt rfl rfl (fun H' g => ⟨i + 1, by omega, by first | omega | (simp only; omega), ⟨rfl, congrArg (Value.int .i64) (by rw [hsum]; omega), congrArg (Value.int .i64) (inc64 (by omega)), trivial⟩, g⟩)
  · refine KW.ret rfl rfl rfl rfl (congrArg (Value.int .i64) ?_)
    obtain rfl : i = x.length := by omega
    rw [List.take_of_length_le (by simp)]
theorem held_Int64S' {x : List Int} (hB : B_Int64S x) (hk : Mk k (sz_Int64S x)) (hs : K_Int64S.R S H0 (mk_Int64S k x) [.slice a x.length c]) : Spec Try.prog S H0 34 [.slice a x.length c, .int .i64 k] (fun v => v = .int .i64 (k + sz_Int64S x)) := by
  have e : (mk_Int64S k x).length = x.length := cnt_len _ _
  rw [← e] at hs ⊢
  exact held_Int64S hB hk hs
theorem held_Int64SS' {x : List (List Int)} (hB : B_Int64SS x) (hk : Mk k (sz_Int64SS x)) (hs : K_Int64SS.R S H0 (mk_Int64SS k x) [.slice a x.length c]) : Spec Try.prog S H0 165 [.slice a x.length c, .int .i64 k] (fun v => v = .int .i64 (k + sz_Int64SS x)) := by
  have e : (mk_Int64SS k x).length = x.length := mks_len _ _ _ _
  rw [← e] at hs ⊢
  exact held_Int64SS hB hk hs
end
end Go.Proofs.Ytmkpfllbmdahkaa.Am
/- What the laws' own functions do at Ranks: sizes, copies, equality, marks. Each holds under its own conditions. -/
set_option linter.unusedVariables false
set_option maxRecDepth 20000
namespace Go.Proofs.Ytmkpfllbmdahkaa.Am
open Go Go.RowKit Go.Proofs
abbrev T_Ranks : Type := (Int) × (Int) × (List Int)
abbrev K_Ranks : Kn T_Ranks := Kn.pair (KI) (Kn.pair (KI) (K_Int64S))
abbrev M_Ranks : Kn T_Ranks := Kn.mp (KI) (Kn.mp (KI) (M_Int64S))
theorem le_Ranks : KLe M_Ranks K_Ranks := KLe.pair ((KLe.refl KI)) (KLe.pair ((KLe.refl KI)) (le_Int64S))
abbrev B_Ranks (x : T_Ranks) : Prop := I64 x.1 ∧ I64 x.2.1 ∧ B_Int64S x.2.2
abbrev W_Ranks (x : T_Ranks) : Prop := I64 x.1 ∧ I64 x.2.1 ∧ W_Int64S x.2.2
abbrev sz_Ranks (x : T_Ranks) : Nat := sz_Int64S x.2.2
abbrev mk_Ranks (k : Int) (x : T_Ranks) : T_Ranks := (x.1, x.2.1, mk_Int64S (k) x.2.2)
theorem size_Ranks {x : T_Ranks} (hB : B_Ranks x) : sz_Ranks x ≤ 1048576 := by have := size_Int64S hB.2.2; simp only [sz_Ranks]; omega
section
variable {S : Ids} {H0 : AH} {W : Ids} {left k : Int}
theorem form_Ranks {x : T_Ranks} {cs : List Value} (h : K_Ranks.R S H0 x cs) : ∃ a1 c1, cs = [.int .i64 x.1, .int .i64 x.2.1, .slice a1 x.2.2.length c1] := by
  obtain ⟨e0, d0, rfl, h0, h0_⟩ := h
  obtain ⟨e1, d1, rfl, h1, h1_⟩ := h0_
  have h2 := h1_
  obtain rfl := KI_of h0
  obtain rfl := KI_of h1
  obtain ⟨a1, c1, rfl⟩ := slform h2
  exact ⟨a1, c1, rfl⟩
theorem formM_Ranks {x : T_Ranks} {cs : List Value} (h : M_Ranks.R S H0 x cs) : ∃ a1 c1, cs = [.int .i64 x.1, .int .i64 x.2.1, .slice a1 x.2.2.length c1] := form_Ranks (le_Ranks.2 _ _ _ _ h)
theorem split_Ranks {x : T_Ranks} {cs : List Value} (h : K_Ranks.R S H0 x cs) : ∃ a1 c1, cs = [.int .i64 x.1, .int .i64 x.2.1, .slice a1 x.2.2.length c1] ∧ K_Int64S.R S H0 x.2.2 [.slice a1 x.2.2.length c1] := by
  obtain ⟨e0, d0, rfl, h0, h0_⟩ := h
  obtain ⟨e1, d1, rfl, h1, h1_⟩ := h0_
  have h2 := h1_
  obtain rfl := KI_of h0
  obtain rfl := KI_of h1
  obtain ⟨a1, c1, rfl⟩ := slform h2
  exact ⟨a1, c1, rfl, h2⟩
theorem splitM_Ranks {x : T_Ranks} {cs : List Value} (h : M_Ranks.R S H0 x cs) : ∃ (a1 : Option Addr) (c1 : Nat) (X2 : Ids), cs = [.int .i64 x.1, .int .i64 x.2.1, .slice a1 x.2.2.length c1] ∧ M_Int64S.R X2 H0 x.2.2 [.slice a1 x.2.2.length c1] ∧ (∀ id, X2 id → S id) := by
  obtain ⟨e0, d0, X0, Y0, rfl, i0, j0, q0, h0, h0_⟩ := h
  obtain ⟨e1, d1, X1, Y1, rfl, i1, j1, q1, h1, h1_⟩ := h0_
  have h2 := h1_
  obtain rfl := KI_of h0
  obtain rfl := KI_of h1
  obtain ⟨a1, c1, rfl⟩ := mlform h2
  exact ⟨a1, c1, Y1, rfl, h2, fun _ p => j0 _ (j1 _ p)⟩
theorem to_Ranks {x : T_Ranks} {cs : List Value} (hB : B_Ranks x) (h : K_Ranks.R S H0 x cs) : SpecM Try.prog S H0 77 [.agg cs.toArray] (fun n v H1 => ∃ cs, v = .agg cs.toArray ∧ M_Ranks.R (New n H1.n) H1 x cs) := by
  obtain ⟨a1, c1, rfl, h2⟩ := split_Ranks h
  refine SpecM.of1 Try.func77 rfl (by kernel_rfl) rfl (fun H _ => ?_)
  refine KW.callN1 rfl rfl rfl rfl rfl (to_Int64S hB.2.2 (On.R h2)) (fun v G2 S2 m2 _ _ hv => ?_)
  obtain ⟨b2, d2, rfl, g2⟩ := hv
  refine KW.retM1 rfl rfl rfl rfl (fun H1 g => ?_)
  refine ⟨_, rfl, ?_⟩
  have k2 : M_Int64S.R (New H.n H1.n) H1 x.2.2 [.slice b2 x.2.2.length d2] := (M_Int64S).more (g.inn (H := G2) (fun _ p => by have := p.1; omega)) (g.keep g2)
  have k1 : (Kn.mp (KI) (M_Int64S)).R (New H.n H1.n) H1 (x.2) [.int .i64 x.2.1, .slice b2 x.2.2.length d2] := mpR (X := None_) (show KI.R None_ H1 _ [.int .i64 x.2.1] from rfl) k2 (fun _ p => p.elim) (fun _ p => p) (fun _ p _ => p.elim)
  have k0 : (Kn.mp (KI) (Kn.mp (KI) (M_Int64S))).R (New H.n H1.n) H1 (x) [.int .i64 x.1, .int .i64 x.2.1, .slice b2 x.2.2.length d2] := mpR (X := None_) (show KI.R None_ H1 _ [.int .i64 x.1] from rfl) k1 (fun _ p => p.elim) (fun _ p => p) (fun _ p _ => p.elim)
  exact k0
theorem eq_Ranks {x : T_Ranks} {cs cs' : List Value} (hB : B_Ranks x) (h : K_Ranks.R S H0 x cs) (h' : K_Ranks.R S H0 x cs') : Spec Try.prog S H0 24 [.agg cs.toArray, .agg cs'.toArray] (fun v => v = .bool true) := by
  obtain ⟨a1, c1, rfl, h2⟩ := split_Ranks h
  obtain ⟨b1, d1, rfl, k2⟩ := split_Ranks h'
  refine Spec.of1 Try.func24 rfl (by kernel_rfl) rfl (fun H _ => ?_)
  refine KW.cF rfl rfl (by first | (simp; done) | decide) ?_
  refine KW.cF rfl rfl (by first | (simp; done) | decide) ?_
  refine KW.callE rfl rfl rfl rfl rfl (eq_Int64S hB.2.2 (On.R h2) (On.R k2)) (fun _ _ => ?_)
  refine KW.cF rfl rfl (by first | (simp; done) | decide) ?_
  exact KW.ret rfl rfl rfl rfl (rfl)
theorem sz_Ranks' {x : T_Ranks} {cs : List Value} (l0 : 0 ≤ left) (l1 : left ≤ 1048576) (hW : W_Ranks x) (h : K_Ranks.R S H0 x cs) : Spec Try.prog S H0 75 [.agg cs.toArray, .int .i64 left] (SzPost left (B_Ranks x)) := by
  obtain ⟨a1, c1, rfl, h2⟩ := split_Ranks h
  refine Spec.of1 Try.func75 rfl (by kernel_rfl) rfl (fun H _ => ?_)
  refine KW.call rfl rfl rfl rfl rfl (sz_Int64S' l0 l1 hW.2.2 (On.R h2)) (fun v _ _ hv => ?_)
  obtain ⟨r2, rfl, k2⟩ := hv
  refine KW.cnd rfl rfl (fun h => KW.ret rfl rfl rfl rfl ⟨-1, rfl, .inl rfl⟩) (fun h => ?_)
  have k2 := k2.resolve_left (by omega)
  exact KW.ret rfl rfl rfl rfl (⟨_, rfl, .inr ⟨k2.1, by have := k2.2.1; omega, hW.1, hW.2.1, k2.2.2⟩⟩)
theorem mark_Ranks {x : T_Ranks} {cs : List Value} (hB : B_Ranks x) (hk : Mk k (sz_Ranks x)) (hW : ∀ id, W id → S id) (h : M_Ranks.R W H0 x cs) : SpecW Try.prog S H0 W 27 [.agg cs.toArray, .int .i64 k] (fun n v H1 => v = .int .i64 (k + (sz_Ranks x : Nat)) ∧ M_Ranks.R W H1 (mk_Ranks k x) cs) := by
  obtain ⟨a1, c1, X2, rfl, h2, i2⟩ := splitM_Ranks h
  refine SpecW.of0 Try.func27 rfl (by kernel_rfl) rfl (fun H hfin hfz => ?_)
  have F2 : Fk M_Int64S X2 (Low H.n) H _ _ := ⟨(M_Int64S).same (fun id hid => (hfz id (hW id (i2 id hid))).2) h2, fun id hid => (hfz id (hW id (i2 id hid))).1⟩
  have T : ∀ id, id < H.n → Low H.n id ∧ (¬ W id → H.m id = H.m id) := fun id hid => ⟨hid, fun _ => rfl⟩
  refine KW.callW F2.i rfl rfl rfl rfl rfl (mark_Int64S hB.2.2 (k := k) (by have := hk.1; have := hk.2; simp only [sz_Ranks] at this; constructor <;> omega) F2.i F2.r) (fun v H2 S2 m2 t2 w2 hv => ?_)
  obtain ⟨rfl, g2⟩ := hv
  have F2 : Fk M_Int64S X2 S2 H2 _ _ := ⟨g2, fun id hid => (t2 id (F2.i id hid)).1⟩
  have T : ∀ id, id < H.n → S2 id ∧ (¬ W id → H2.m id = H.m id) := fun id hid => ⟨(t2 id (T id hid).1).1, fun hw => ((t2 id (T id hid).1).2 (fun o => hw (i2 id o))).trans ((T id hid).2 hw)⟩
  refine KW.retW rfl rfl rfl rfl (fun H1 g => by have := g.n_; omega) (fun id hid hw => ⟨(T id hid).1, (T id hid).2 hw⟩) (fun H1 g => ?_)
  refine ⟨rfl, ?_⟩
  have G2 := (M_Int64S).same (H' := H1) (fun id hid => (g.froz id (F2.i id hid)).2) F2.r
  have k2 : M_Int64S.R (fun id => X2 id) H1 (mk_Int64S (k) x.2.2) [.slice a1 x.2.2.length c1] := G2
  have k1 : (Kn.mp (KI) (M_Int64S)).R (fun id => X2 id) H1 (x.2.1, (mk_Int64S (k) x.2.2)) [.int .i64 x.2.1, .slice a1 x.2.2.length c1] := mpR (X := None_) (show KI.R None_ H1 _ [.int .i64 x.2.1] from rfl) k2 (fun _ p => p.elim) (fun _ p => p) (fun _ p _ => p.elim)
  have k0 : (Kn.mp (KI) (Kn.mp (KI) (M_Int64S))).R (fun id => X2 id) H1 (x.1, x.2.1, (mk_Int64S (k) x.2.2)) [.int .i64 x.1, .int .i64 x.2.1, .slice a1 x.2.2.length c1] := mpR (X := None_) (show KI.R None_ H1 _ [.int .i64 x.1] from rfl) k1 (fun _ p => p.elim) (fun _ p => p) (fun _ p _ => p.elim)
  exact (M_Ranks).more (fun id p => i2 id p) k0
theorem held_Ranks {x : T_Ranks} {cs : List Value} (hB : B_Ranks x) (hk : Mk k (sz_Ranks x)) (h : K_Ranks.R S H0 (mk_Ranks k x) cs) : Spec Try.prog S H0 28 [.agg cs.toArray, .int .i64 k] (fun v => v = .int .i64 (k + (sz_Ranks x : Nat))) := by
  obtain ⟨a1, c1, rfl, h2⟩ := split_Ranks h
  refine Spec.of1 Try.func28 rfl (by kernel_rfl) rfl (fun H _ => ?_)
  refine KW.callE rfl rfl rfl rfl rfl (held_Int64S hB.2.2 (k := k) (by have := hk.1; have := hk.2; simp only [sz_Ranks] at this; constructor <;> omega) (On.R h2)) (fun _ _ => ?_)
  refine KW.no rfl rfl (by have := hk.1; omega) ?_
  exact KW.ret rfl rfl rfl rfl (rfl)
end
end Go.Proofs.Ytmkpfllbmdahkaa.Am
/- What the laws' own functions do at Family: sizes, copies, equality, marks. Each holds under its own conditions. -/
set_option linter.unusedVariables false
set_option maxRecDepth 20000
namespace Go.Proofs.Ytmkpfllbmdahkaa.Am
open Go Go.RowKit Go.Proofs
abbrev T_Family : Type := (Int) × (List (List Int))
abbrev K_Family : Kn T_Family := Kn.pair (KI) (K_Int64SS)
abbrev M_Family : Kn T_Family := Kn.mp (KI) (M_Int64SS)
theorem le_Family : KLe M_Family K_Family := KLe.pair ((KLe.refl KI)) (le_Int64SS)
abbrev B_Family (x : T_Family) : Prop := I64 x.1 ∧ B_Int64SS x.2
abbrev W_Family (x : T_Family) : Prop := I64 x.1 ∧ W_Int64SS x.2
abbrev sz_Family (x : T_Family) : Nat := sz_Int64SS x.2
abbrev mk_Family (k : Int) (x : T_Family) : T_Family := (x.1, mk_Int64SS (k) x.2)
theorem size_Family {x : T_Family} (hB : B_Family x) : sz_Family x ≤ 1048576 := by have := size_Int64SS hB.2; simp only [sz_Family]; omega
section
variable {S : Ids} {H0 : AH} {W : Ids} {left k : Int}
theorem form_Family {x : T_Family} {cs : List Value} (h : K_Family.R S H0 x cs) : ∃ a1 c1, cs = [.int .i64 x.1, .slice a1 x.2.length c1] := by
  obtain ⟨e0, d0, rfl, h0, h0_⟩ := h
  have h1 := h0_
  obtain rfl := KI_of h0
  obtain ⟨a1, c1, rfl⟩ := slform h1
  exact ⟨a1, c1, rfl⟩
theorem formM_Family {x : T_Family} {cs : List Value} (h : M_Family.R S H0 x cs) : ∃ a1 c1, cs = [.int .i64 x.1, .slice a1 x.2.length c1] := form_Family (le_Family.2 _ _ _ _ h)
theorem split_Family {x : T_Family} {cs : List Value} (h : K_Family.R S H0 x cs) : ∃ a1 c1, cs = [.int .i64 x.1, .slice a1 x.2.length c1] ∧ K_Int64SS.R S H0 x.2 [.slice a1 x.2.length c1] := by
  obtain ⟨e0, d0, rfl, h0, h0_⟩ := h
  have h1 := h0_
  obtain rfl := KI_of h0
  obtain ⟨a1, c1, rfl⟩ := slform h1
  exact ⟨a1, c1, rfl, h1⟩
theorem splitM_Family {x : T_Family} {cs : List Value} (h : M_Family.R S H0 x cs) : ∃ (a1 : Option Addr) (c1 : Nat) (X1 : Ids), cs = [.int .i64 x.1, .slice a1 x.2.length c1] ∧ M_Int64SS.R X1 H0 x.2 [.slice a1 x.2.length c1] ∧ (∀ id, X1 id → S id) := by
  obtain ⟨e0, d0, X0, Y0, rfl, i0, j0, q0, h0, h0_⟩ := h
  have h1 := h0_
  obtain rfl := KI_of h0
  obtain ⟨a1, c1, rfl⟩ := mlform h1
  exact ⟨a1, c1, Y0, rfl, h1, fun _ p => j0 _ p⟩
theorem to_Family {x : T_Family} {cs : List Value} (hB : B_Family x) (h : K_Family.R S H0 x cs) : SpecM Try.prog S H0 68 [.agg cs.toArray] (fun n v H1 => ∃ cs, v = .agg cs.toArray ∧ M_Family.R (New n H1.n) H1 x cs) := by
  obtain ⟨a1, c1, rfl, h1⟩ := split_Family h
  refine SpecM.of1 Try.func68 rfl (by kernel_rfl) rfl (fun H _ => ?_)
  refine KW.callN1 rfl rfl rfl rfl rfl (to_Int64SS hB.2 (On.R h1)) (fun v G1 S1 m1 _ _ hv => ?_)
  obtain ⟨b1, d1, rfl, g1⟩ := hv
  refine KW.retM1 rfl rfl rfl rfl (fun H1 g => ?_)
  refine ⟨_, rfl, ?_⟩
  have k1 : M_Int64SS.R (New H.n H1.n) H1 x.2 [.slice b1 x.2.length d1] := (M_Int64SS).more (g.inn (H := G1) (fun _ p => by have := p.1; omega)) (g.keep g1)
  have k0 : (Kn.mp (KI) (M_Int64SS)).R (New H.n H1.n) H1 (x) [.int .i64 x.1, .slice b1 x.2.length d1] := mpR (X := None_) (show KI.R None_ H1 _ [.int .i64 x.1] from rfl) k1 (fun _ p => p.elim) (fun _ p => p) (fun _ p _ => p.elim)
  exact k0
theorem eq_Family {x : T_Family} {cs cs' : List Value} (hB : B_Family x) (h : K_Family.R S H0 x cs) (h' : K_Family.R S H0 x cs') : Spec Try.prog S H0 71 [.agg cs.toArray, .agg cs'.toArray] (fun v => v = .bool true) := by
  obtain ⟨a1, c1, rfl, h1⟩ := split_Family h
  obtain ⟨b1, d1, rfl, k1⟩ := split_Family h'
  refine Spec.of1 Try.func71 rfl (by kernel_rfl) rfl (fun H _ => ?_)
  refine KW.cF rfl rfl (by first | (simp; done) | decide) ?_
  refine KW.callE rfl rfl rfl rfl rfl (eq_Int64SS hB.2 (On.R h1) (On.R k1)) (fun _ _ => ?_)
  refine KW.cF rfl rfl (by first | (simp; done) | decide) ?_
  exact KW.ret rfl rfl rfl rfl (rfl)
theorem sz_Family' {x : T_Family} {cs : List Value} (l0 : 0 ≤ left) (l1 : left ≤ 1048576) (hW : W_Family x) (h : K_Family.R S H0 x cs) : Spec Try.prog S H0 66 [.agg cs.toArray, .int .i64 left] (SzPost left (B_Family x)) := by
  obtain ⟨a1, c1, rfl, h1⟩ := split_Family h
  refine Spec.of1 Try.func66 rfl (by kernel_rfl) rfl (fun H _ => ?_)
  refine KW.call rfl rfl rfl rfl rfl (sz_Int64SS' l0 l1 hW.2 (On.R h1)) (fun v _ _ hv => ?_)
  obtain ⟨r1, rfl, k1⟩ := hv
  refine KW.cnd rfl rfl (fun h => KW.ret rfl rfl rfl rfl ⟨-1, rfl, .inl rfl⟩) (fun h => ?_)
  have k1 := k1.resolve_left (by omega)
  exact KW.ret rfl rfl rfl rfl (⟨_, rfl, .inr ⟨k1.1, by have := k1.2.1; omega, hW.1, k1.2.2⟩⟩)
theorem mark_Family {x : T_Family} {cs : List Value} (hB : B_Family x) (hk : Mk k (sz_Family x)) (hW : ∀ id, W id → S id) (h : M_Family.R W H0 x cs) : SpecW Try.prog S H0 W 72 [.agg cs.toArray, .int .i64 k] (fun n v H1 => v = .int .i64 (k + (sz_Family x : Nat)) ∧ M_Family.R W H1 (mk_Family k x) cs) := by
  obtain ⟨a1, c1, X1, rfl, h1, i1⟩ := splitM_Family h
  refine SpecW.of0 Try.func72 rfl (by kernel_rfl) rfl (fun H hfin hfz => ?_)
  have F1 : Fk M_Int64SS X1 (Low H.n) H _ _ := ⟨(M_Int64SS).same (fun id hid => (hfz id (hW id (i1 id hid))).2) h1, fun id hid => (hfz id (hW id (i1 id hid))).1⟩
  have T : ∀ id, id < H.n → Low H.n id ∧ (¬ W id → H.m id = H.m id) := fun id hid => ⟨hid, fun _ => rfl⟩
  refine KW.callW F1.i rfl rfl rfl rfl rfl (mark_Int64SS hB.2 (k := k) (by have := hk.1; have := hk.2; simp only [sz_Family] at this; constructor <;> omega) F1.i F1.r) (fun v H1 S1 m1 t1 w1 hv => ?_)
  obtain ⟨rfl, g1⟩ := hv
  have F1 : Fk M_Int64SS X1 S1 H1 _ _ := ⟨g1, fun id hid => (t1 id (F1.i id hid)).1⟩
  have T : ∀ id, id < H.n → S1 id ∧ (¬ W id → H1.m id = H.m id) := fun id hid => ⟨(t1 id (T id hid).1).1, fun hw => ((t1 id (T id hid).1).2 (fun o => hw (i1 id o))).trans ((T id hid).2 hw)⟩
  refine KW.retW rfl rfl rfl rfl (fun H1 g => by have := g.n_; omega) (fun id hid hw => ⟨(T id hid).1, (T id hid).2 hw⟩) (fun H1 g => ?_)
  refine ⟨rfl, ?_⟩
  have G1 := (M_Int64SS).same (H' := H1) (fun id hid => (g.froz id (F1.i id hid)).2) F1.r
  have k1 : M_Int64SS.R (fun id => X1 id) H1 (mk_Int64SS (k) x.2) [.slice a1 x.2.length c1] := G1
  have k0 : (Kn.mp (KI) (M_Int64SS)).R (fun id => X1 id) H1 (x.1, (mk_Int64SS (k) x.2)) [.int .i64 x.1, .slice a1 x.2.length c1] := mpR (X := None_) (show KI.R None_ H1 _ [.int .i64 x.1] from rfl) k1 (fun _ p => p.elim) (fun _ p => p) (fun _ p _ => p.elim)
  exact (M_Family).more (fun id p => i1 id p) k0
theorem held_Family {x : T_Family} {cs : List Value} (hB : B_Family x) (hk : Mk k (sz_Family x)) (h : K_Family.R S H0 (mk_Family k x) cs) : Spec Try.prog S H0 79 [.agg cs.toArray, .int .i64 k] (fun v => v = .int .i64 (k + (sz_Family x : Nat))) := by
  obtain ⟨a1, c1, rfl, h1⟩ := split_Family h
  refine Spec.of1 Try.func79 rfl (by kernel_rfl) rfl (fun H _ => ?_)
  refine KW.callE rfl rfl rfl rfl rfl (held_Int64SS hB.2 (k := k) (by have := hk.1; have := hk.2; simp only [sz_Family] at this; constructor <;> omega) (On.R h1)) (fun _ _ => ?_)
  refine KW.no rfl rfl (by have := hk.1; omega) ?_
  exact KW.ret rfl rfl rfl rfl (rfl)
end
end Go.Proofs.Ytmkpfllbmdahkaa.Am
/- Contracts: DualRanks, of the program and of the reference. Each holds under its own conditions. -/
set_option linter.unusedVariables false
set_option linter.unusedSimpArgs false
set_option maxRecDepth 20000
namespace Go.Proofs.Ytmkpfllbmdahkaa.Am
open Go Go.RowKit Go.Proofs
theorem andnot_nat (a b i : Nat) : ((BitVec.ofNat 64 a &&& ~~~BitVec.ofNat 64 b).toNat).testBit i = (decide (i < 64) && (a.testBit i && !b.testBit i)) := by
  rw [BitVec.testBit_toNat, BitVec.getLsbD_and, BitVec.getLsbD_not, BitVec.getLsbD_ofNat, BitVec.getLsbD_ofNat]
  by_cases h : i < 64 <;> simp [h]
theorem dif_small {a b : Nat} (ha : a < 4611686018427387904) : dif a b < 4611686018427387904 := dif_lt (m := 62) ha
theorem andnot_eq {a b : Nat} (ha : a < 4611686018427387904) : (BitVec.ofNat 64 a &&& ~~~BitVec.ofNat 64 b).toNat = dif a b := by
  apply Nat.eq_of_testBit_eq; intro i
  rw [andnot_nat, dif_bit]
  by_cases h : i < 64
  · simp [h]
  · have : a.testBit i = false := Nat.testBit_lt_two_pow (Nat.lt_of_lt_of_le (show a < 2 ^ 62 from ha) (Nat.pow_le_pow_right (by decide) (by omega)))
    simp [h, this]
theorem andnot_u64 {a b : Nat} (ha : a < 4611686018427387904) (hb : b < 4611686018427387904) : IntKind.u64.wrap ((BitVec.ofInt IntKind.u64.bits (a : Int) &&& ~~~BitVec.ofInt IntKind.u64.bits (b : Int)).toNat : Int) = ((dif a b : Nat) : Int) := by
  show IntKind.u64.wrap ((BitVec.ofInt 64 (a : Int) &&& ~~~BitVec.ofInt 64 (b : Int)).toNat : Int) = _
  rw [bv_nat ha, bv_nat hb, andnot_eq ha]
  have := dif_small (b := b) ha
  exact wru (by omega) (by omega)
theorem andnot_i64 {a b : Nat} (ha : a < 4611686018427387904) (hb : b < 4611686018427387904) : IntKind.i64.wrap ((BitVec.ofInt IntKind.i64.bits (a : Int) &&& ~~~BitVec.ofInt IntKind.i64.bits (b : Int)).toNat : Int) = ((dif a b : Nat) : Int) := by
  show IntKind.i64.wrap ((BitVec.ofInt 64 (a : Int) &&& ~~~BitVec.ofInt 64 (b : Int)).toNat : Int) = _
  rw [bv_nat ha, bv_nat hb, andnot_eq ha]
  have := dif_small (b := b) ha
  exact wr (by omega) (by omega)
/-- The sum of the single ranks of some holders. -/
def sumL (l : List Int) : List Int → Int
  | [] => 0
  | h :: hs => l.getD (2 ^ h.toNat) 0 + sumL l hs
theorem sumL_app (l : List Int) (xs : List Int) (h : Int) : sumL l (xs ++ [h]) = sumL l xs + l.getD (2 ^ h.toNat) 0 := by
  induction xs with
  | nil => simp [sumL]
  | cons x xs ih => simp only [List.cons_append, sumL, ih]; omega
theorem sumL_hold (l : List Int) (c : Nat) : ∀ n, sumL l (hold c n) = sumH l c n
  | 0 => rfl
  | n + 1 => by
    rw [hold_next]
    simp only [sumH]
    by_cases h : c.testBit n = true
    · rw [if_pos h, if_pos h, sumL_app, sumL_hold l c n]; rfl
    · rw [if_neg h, if_neg h, sumL_hold l c n]; omega
theorem hold_mem {c n : Nat} {x : Int} (h : x ∈ hold c n) : ∃ i : Nat, x = i ∧ i < n ∧ c.testBit i = true := by
  unfold hold at h
  obtain ⟨i, hi, rfl⟩ := List.mem_map.1 h
  obtain ⟨h1, h2⟩ := List.mem_filter.1 hi
  exact ⟨i, rfl, List.mem_range.1 h1, h2⟩
theorem sumL_in {l : List Int} (hw : Within l) : ∀ xs : List Int, 0 ≤ sumL l xs ∧ sumL l xs ≤ 100000 * xs.length
  | [] => by simp [sumL]
  | x :: xs => by
    have h := sumL_in hw xs
    have h1 : 0 ≤ l.getD (2 ^ x.toNat) 0 ∧ l.getD (2 ^ x.toNat) 0 ≤ 100000 := by
      rcases Nat.lt_or_ge (2 ^ x.toNat) l.length with h | h
      · exact hw _ h
      · rw [List.getD_eq_getElem?_getD, List.getElem?_eq_none h]; show 0 ≤ (0 : Int) ∧ (0 : Int) ≤ 100000; omega
    simp only [sumL, List.length_cons]
    omega
theorem getD_in {l : List Int} (hw : Within l) (i : Nat) : 0 ≤ l.getD i 0 ∧ l.getD i 0 ≤ 100000 := by
  rcases Nat.lt_or_ge i l.length with h | h
  · exact hw _ h
  · rw [List.getD_eq_getElem?_getD, List.getElem?_eq_none h]; show 0 ≤ (0 : Int) ∧ (0 : Int) ≤ 100000; omega
theorem sumL_take {l xs : List Int} {i : Nat} {x : Int} (h : xs[i]? = some x) : sumL l (xs.take (i + 1)) = sumL l (xs.take i) + l.getD (2 ^ x.toNat) 0 := by
  obtain ⟨hi, rfl⟩ := List.getElem?_eq_some_iff.1 h
  rw [List.take_succ_eq_append_getElem hi, sumL_app]
theorem sumH_in {l : List Int} (hw : Within l) (c : Nat) : ∀ n, 0 ≤ sumH l c n ∧ sumH l c n ≤ 100000 * n
  | 0 => by simp [sumH]
  | n + 1 => by
    have h := sumH_in hw c n
    have h1 := getD_in hw (2 ^ n)
    simp only [sumH]
    split <;> omega
theorem ranksM {X : Ids} {H : AH} {v : Value} {m u : Int} {xs : List Int} (h : KI.Ml X H v xs) : M_Ranks.R X H (m, u, xs) [.int .i64 m, .int .i64 u, v] :=
  mpR (X := None_) (cs := [.int .i64 m]) (show KI.R None_ H m _ from rfl) (mpR (X := None_) (cs := [.int .i64 u]) (show KI.R None_ H u _ from rfl) (ml1' h) (fun _ p => p.elim) (fun _ p => p) (fun _ p _ => p.elim)) (fun _ p => p.elim) (fun _ p => p) (fun _ p _ => p.elim)
theorem familyOpens {m : Int} {gs : List (List Int)} {q : Nat} (hq : m = q) (h : codeF m gs = 0) : FamOk m gs ∧ Opens gs (2 ^ q - 1) := by
  unfold codeF at h
  split at h
  · rename_i h1
    have h1 := tv_iff.1 h1
    refine ⟨h1, ?_⟩
    have h2 : gs.length ≠ 0 := fun hc => by
      rw [if_pos hc] at h
      split at h <;> cases h
    obtain ⟨g, hg⟩ : ∃ g, gs[0]? = some g := ⟨gs[0]'(by omega), List.getElem?_eq_getElem (by omega)⟩
    have hgm := List.mem_of_getElem? hg
    refine ⟨g, hgm, ?_⟩
    have hb : bitsOf g < 2 ^ q := bitsOf_lt (fun x hx => by have := h1.below g hgm x hx; omega)
    rw [Nat.and_comm, Nat.and_two_pow_sub_one_eq_mod, Nat.mod_eq_of_lt hb]
  · cases h
theorem range_map_succ' {α : Type} (f : Nat → α) (n : Nat) : (List.range (n + 1)).map f = (List.range n).map f ++ [f n] := by rw [List.range_succ, List.map_append]; rfl
/-- The code of dual ranks. -/
noncomputable def r1_DualRanks (x : T_Ranks) (y : T_Family) : Int :=
  if fitC x.1 x.2.1 x.2.2 y.1 y.2 = 0 then (if tv (∀ a, a < x.2.2.length → ∀ b, b < x.2.2.length → ¬ Mis x.2.2 x.2.1 y.2 a b) = true then (if tv (∀ z ∈ dualL x.2.2 x.2.1 y.2 x.1.toNat (2 ^ x.1.toNat), z ≤ 100000) = true then 0 else 3) else 8) else fitC x.1 x.2.1 x.2.2 y.1 y.2
noncomputable def r0_DualRanks (x : T_Ranks) (y : T_Family) : T_Ranks := if r1_DualRanks x y = 0 then (x.1, x.2.1, dualL x.2.2 x.2.1 y.2 x.1.toNat (2 ^ x.1.toNat)) else (0, 0, [])
/-- Ranks and a code. -/
def MkRC (r : T_Ranks) (code : Int) (n : Nat) (v : Value) (H1 : AH) : Prop := ∃ cs : List Value, v = .tuple #[.agg cs.toArray, .int .i64 code] ∧ M_Ranks.R (New n H1.n) H1 r cs
theorem MkRC.nil {code : Int} {n : Nat} {v : Value} {H1 : AH} (hv : v = .tuple #[.agg #[.int .i64 0, .int .i64 0, .slice none 0 0], .int .i64 code]) : MkRC (0, 0, []) code n v H1 := ⟨_, hv, ranksM (.inl ⟨rfl, _, _, rfl, fun _ => rfl⟩)⟩
theorem built_Ranks (a b : Int) : Try.prog.built 37 [(0, .int .i64 a), (1, .int .i64 b)] = some #[.int .i64 a, .int .i64 b, .slice none 0 0] := by kernel_rfl
theorem built_Ranks0 : Try.prog.built 37 [] = some #[.int .i64 0, .int .i64 0, .slice none 0 0] := by kernel_rfl
section
variable {S : Ids} {H0 : AH}
end
end Go.Proofs.Ytmkpfllbmdahkaa.Am
/- The least groups of a family, in plain Lean: how many there are, and their order. Each holds under its own conditions. -/
set_option linter.unusedVariables false
set_option linter.unusedSimpArgs false
set_option maxRecDepth 20000
namespace Go.Proofs.Ytmkpfllbmdahkaa.Am
open Go Go.RowKit Go.Proofs Go.Proofs.Ytmkpfllbmdahkaa.Pl
/-- A list goes to its place among those before it. -/
def bub (L : List (List Int)) : Nat → List (List Int)
  | 0 => L
  | k + 1 => if lexB (L.getD (k + 1) []) (L.getD k []) = true then bub (sw L (k + 1) k) k else L
/-- The first n + 1 lists are in order. -/
def isF (L : List (List Int)) : Nat → List (List Int)
  | 0 => L
  | n + 1 => bub (isF L n) (n + 1)
theorem sw_len {L : List (List Int)} {n a : Nat} : (sw L n a).length = L.length := by simp [sw]
theorem bub_len : ∀ (k : Nat) {L : List (List Int)}, (bub L k).length = L.length
  | 0, _ => rfl
  | k + 1, L => by
    unfold bub
    split
    · rw [bub_len k, sw_len]
    · rfl
theorem isF_len {L : List (List Int)} : ∀ n, (isF L n).length = L.length
  | 0 => rfl
  | n + 1 => by unfold isF; rw [bub_len, isF_len n]
theorem sw_mem {L : List (List Int)} {n a : Nat} (hn : n < L.length) (ha : a < L.length) {x : List Int} (h : x ∈ sw L n a) : x ∈ L := by
  obtain ⟨i, hi⟩ := List.getElem?_of_mem h
  unfold sw at hi
  rw [List.getElem?_set] at hi
  split at hi
  · split at hi
    · cases hi
      rw [List.getD_eq_getElem?_getD, List.getElem?_eq_getElem hn]
      exact List.getElem_mem _
    · cases hi
  · rw [List.getElem?_set] at hi
    split at hi
    · cases hi
      rw [List.getD_eq_getElem?_getD, List.getElem?_eq_getElem ha]
      exact List.getElem_mem _
    · exact List.mem_of_getElem? hi
theorem bub_mem : ∀ (k : Nat) {L : List (List Int)}, k < L.length → ∀ x ∈ bub L k, x ∈ L
  | 0, _, _, x, h => h
  | k + 1, L, hk, x, h => by
    unfold bub at h
    split at h
    · exact sw_mem hk (by omega) (bub_mem k (by rw [sw_len]; omega) x h)
    · exact h
theorem isF_mem {L : List (List Int)} : ∀ n, n < L.length ∨ n = 0 → ∀ x ∈ isF L n, x ∈ L
  | 0, _, x, h => h
  | n + 1, hn, x, h => isF_mem n (by omega) x (bub_mem (n + 1) (by rw [isF_len]; omega) x h)
/-- All in order. -/
def isA (L : List (List Int)) : List (List Int) := isF L (L.length - 1)
theorem isA_len {L : List (List Int)} : (isA L).length = L.length := isF_len _
theorem isA_mem {L : List (List Int)} : ∀ x ∈ isA L, x ∈ L := isF_mem _ (by omega)
theorem dif_le {a b : Nat} : dif a b ≤ a := by
  have h : a &&& dif a b = dif a b := Nat.eq_of_testBit_eq fun i => by rw [Nat.testBit_and, dif_bit]; cases a.testBit i <;> simp
  rw [← h]
  exact Nat.and_le_left
/-- A set that opens, no part of which does. -/
def Mn (q : Nat) (op : Nat → Prop) (c : Nat) : Prop := op c ∧ ∀ h, h < q → c.testBit h = true → ¬ op (dif c (2 ^ h))
noncomputable def minsU (q : Nat) (op : Nat → Prop) (n : Nat) : List (List Int) := ((List.range n).filter fun c => tv (Mn q op c)).map fun c => hold c q
theorem minsU_next {q : Nat} {op : Nat → Prop} {n : Nat} : minsU q op (n + 1) = if tv (Mn q op n) = true then minsU q op n ++ [hold n q] else minsU q op n := by
  unfold minsU
  rw [List.range_succ, List.filter_append, List.map_append]
  cases h : tv (Mn q op n) <;> simp [h]
theorem minsU_len {q : Nat} {op : Nat → Prop} {n : Nat} : (minsU q op n).length ≤ n := by
  unfold minsU
  rw [List.length_map]
  exact Nat.le_trans (List.length_filter_le _ _) (by simp)
theorem minsU_mem {q : Nat} {op : Nat → Prop} {n : Nat} {x : List Int} (h : x ∈ minsU q op n) : x.length ≤ q := by
  obtain ⟨c, _, rfl⟩ := List.mem_map.1 h
  exact hold_len c q
theorem minsU_congr {q : Nat} {op op' : Nat → Prop} {n : Nat} (hn : n ≤ 2 ^ q) (h : ∀ c, c < 2 ^ q → (op c ↔ op' c)) : minsU q op n = minsU q op' n := by
  unfold minsU
  congr 1
  refine List.filter_congr fun c hc => ?_
  have hc := List.mem_range.1 hc
  have hd : ∀ h, dif c (2 ^ h) < 2 ^ q := fun h => by
    have : dif c (2 ^ h) ≤ c := dif_le
    omega
  exact tv_congr ⟨fun p => ⟨(h c (by omega)).1 p.1, fun i hi hb hx => p.2 i hi hb ((h _ (hd i)).2 hx)⟩, fun p => ⟨(h c (by omega)).2 p.1, fun i hi hb hx => p.2 i hi hb ((h _ (hd i)).1 hx)⟩⟩
/-- What is greater opens as well. -/
def UpC (N : Nat) (op : Nat → Prop) : Prop := ∀ a b, a < N → b < N → a &&& b = a → op a → op b
theorem mn_anti {q : Nat} {op : Nat → Prop} (hu : UpC (2 ^ q) op) {a b : Nat} (ha : a < 2 ^ q) (hb : b < 2 ^ q) (hne : a ≠ b) (hs : a &&& b = a) (h1 : Mn q op a) (h2 : Mn q op b) : False := by
  obtain ⟨h, hh⟩ : ∃ h, b.testBit h = true ∧ a.testBit h = false := Classical.byContradiction fun hc => hne (Nat.eq_of_testBit_eq fun i => by
    have e : (a &&& b).testBit i = a.testBit i := by rw [hs]
    rw [Nat.testBit_and] at e
    cases ea : a.testBit i <;> cases eb : b.testBit i
    · rfl
    · exact (hc ⟨i, eb, ea⟩).elim
    · rw [ea, eb] at e; cases e
    · rfl)
  have hq : h < q := by
    rcases Nat.lt_or_ge h q with h1 | h1
    · exact h1
    · rw [Nat.testBit_lt_two_pow (Nat.lt_of_lt_of_le hb (Nat.pow_le_pow_right (by decide) h1))] at hh; cases hh.1
  have hd : dif b (2 ^ h) ≤ b := dif_le
  refine h2.2 h hq hh.1 (hu a _ ha (by omega) (Nat.eq_of_testBit_eq fun i => ?_) h1.1)
  have e : (a &&& b).testBit i = a.testBit i := by rw [hs]
  rw [Nat.testBit_and] at e ⊢
  rw [dif_bit, Nat.testBit_two_pow]
  by_cases ei : h = i
  · subst ei; rw [hh.2]; rfl
  · simp [ei]
    simpa using e
def b01 (p : Nat → Bool) (c : Nat) : Nat := if p c = true then 1 else 0
theorem len_cons (p : Nat → Bool) (x : Nat) (l : List Nat) : ((x :: l).filter p).length = b01 p x + (l.filter p).length := by
  unfold b01
  rw [List.filter_cons]
  split <;> simp <;> omega
def sumB (p : Nat → Bool) : List Nat → Nat
  | [] => 0
  | x :: l => b01 p x + sumB p l
theorem chain_one {p : Nat → Bool} (hp : ∀ a b, a < 32 → b < 32 → a ≠ b → a &&& b = a → p a = true → p b = true → False) : ∀ l : List Nat, (∀ x ∈ l, x < 32) → l.Pairwise (fun a b => a ≠ b ∧ a &&& b = a) → sumB p l ≤ 1
  | [], _, _ => Nat.zero_le _
  | x :: l, hl, h => by
    have ih := chain_one hp l (fun y hy => hl y (List.mem_cons_of_mem _ hy)) (List.pairwise_cons.1 h).2
    unfold sumB
    by_cases hx : p x = true
    · have z : ∀ l' : List Nat, (∀ y ∈ l', y ∈ l) → sumB p l' = 0 := fun l' => by
        induction l' with
        | nil => intro _; rfl
        | cons y l' ih' =>
          intro hs
          have hy := hs y (List.mem_cons_self ..)
          have h3 := (List.pairwise_cons.1 h).1 y hy
          have h4 : p y = false := by
            cases e : p y
            · rfl
            · exact (hp x y (hl x (List.mem_cons_self ..)) (hl y (List.mem_cons_of_mem _ hy)) h3.1 h3.2 hx e).elim
          unfold sumB b01
          rw [if_neg (by simp [h4]), ih' (fun w hw => hs w (List.mem_cons_of_mem _ hw))]
      rw [z l (fun y hy => hy)]
      unfold b01; split <;> omega
    · unfold b01; rw [if_neg hx]; omega
theorem sperner {p : Nat → Bool} (hp : ∀ a b, a < 32 → b < 32 → a ≠ b → a &&& b = a → p a = true → p b = true → False) : ((List.range 32).filter p).length ≤ 10 := by
  have c1 := chain_one hp [0, 1, 3, 7, 15, 31] (by decide) (of_decide_eq_true (by kernel_rfl))
  have c2 := chain_one hp [2, 6, 14, 30] (by decide) (of_decide_eq_true (by kernel_rfl))
  have c3 := chain_one hp [4, 5, 13, 29] (by decide) (of_decide_eq_true (by kernel_rfl))
  have c4 := chain_one hp [8, 9, 11, 27] (by decide) (of_decide_eq_true (by kernel_rfl))
  have c5 := chain_one hp [10, 26] (by decide) (of_decide_eq_true (by kernel_rfl))
  have c6 := chain_one hp [12, 28] (by decide) (of_decide_eq_true (by kernel_rfl))
  have c7 := chain_one hp [16, 17, 19, 23] (by decide) (of_decide_eq_true (by kernel_rfl))
  have c8 := chain_one hp [18, 22] (by decide) (of_decide_eq_true (by kernel_rfl))
  have c9 := chain_one hp [20, 21] (by decide) (of_decide_eq_true (by kernel_rfl))
  have c10 := chain_one hp [24, 25] (by decide) (of_decide_eq_true (by kernel_rfl))
  have e : List.range 32 = [0, 1, 2, 3, 4, 5, 6, 7, 8, 9, 10, 11, 12, 13, 14, 15, 16, 17, 18, 19, 20, 21, 22, 23, 24, 25, 26, 27, 28, 29, 30, 31] := by rfl
  rw [e]
  simp only [len_cons, List.filter_nil, List.length_nil]
  simp only [sumB] at c1 c2 c3 c4 c5 c6 c7 c8 c9 c10
  clear hp e
  have h := Nat.add_le_add c1 (Nat.add_le_add c2 (Nat.add_le_add c3 (Nat.add_le_add c4 (Nat.add_le_add c5 (Nat.add_le_add c6 (Nat.add_le_add c7 (Nat.add_le_add c8 (Nat.add_le_add c9 c10))))))))
  refine Nat.le_trans (Nat.le_of_eq ?_) h
  simp only [Nat.add_zero]
  ac_rfl
theorem mins_ten {q : Nat} (hq : q ≤ 5) {op : Nat → Prop} (hu : UpC (2 ^ q) op) : (minsU q op (2 ^ q)).length ≤ 10 := by
  have hp : 2 ^ q ≤ 32 := by
    have := Nat.pow_le_pow_right (n := 2) (by decide) hq
    simpa using this
  have h := sperner (p := fun c => decide (c < 2 ^ q) && tv (Mn q op c)) (fun a b _ _ hne hs h1 h2 => by
    simp only [Bool.and_eq_true, decide_eq_true_eq] at h1 h2
    exact mn_anti hu h1.1 h2.1 hne hs (tv_iff.1 h1.2) (tv_iff.1 h2.2))
  have e : List.range 32 = List.range (2 ^ q) ++ (List.range (32 - 2 ^ q)).map (2 ^ q + ·) := by rw [← List.range_add]; congr 1; omega
  rw [e, List.filter_append, List.length_append] at h
  unfold minsU
  rw [List.length_map]
  have e2 : (List.range (2 ^ q)).filter (fun c => decide (c < 2 ^ q) && tv (Mn q op c)) = (List.range (2 ^ q)).filter (fun c => tv (Mn q op c)) := List.filter_congr fun c hc => by simp [List.mem_range.1 hc]
  rw [e2] at h
  omega
end Go.Proofs.Ytmkpfllbmdahkaa.Am
/- A variable of one's own becomes frozen; rows that are made in place join a list of rows. For every program. No condition beyond each theorem's own. -/
set_option linter.unusedSimpArgs false
set_option linter.unusedVariables false
namespace Go.Proofs.Ytmkpfllbmdahkaa.Am
open Go Go.RowKit
/-- The variable j and those behind it are given up; what stands in j is frozen. -/
theorem KW.freeze {P : Program} {S : Ids} {H0 : AH} {Q : PostC} {k : List It} {e : Env} {T : List Var} {n : Nat} (j : Nat) {o : Nat} {b : Blk} (hj : T[j]? = some (o, b))
    (hk : ∀ (A' : AH) (S' : Ids), A'.n = n → (∀ id, S' id ↔ S id ∨ id = o) → Stp S H0 S' A' → A'.m o = some b → o < n → ¬ S o → (∀ id, S id → id < n) → KW P S' A' Q n (T.take j) k e) : KW P S H0 Q n T k e := fun H g => by
  have hv := g.vars j _ hj
  have get : ∀ {i : Nat} {u : Var}, (T.take j)[i]? = some u → i < j ∧ T[i]? = some u := fun {i u} hi => by
    rw [List.getElem?_take] at hi
    split at hi
    · exact ⟨by assumption, hi⟩
    · cases hi
  refine hk H (fun id => S id ∨ id = o) g.n_ (fun id => Iff.rfl) ⟨fun id hid => ⟨.inl hid, (g.froz id hid).2⟩⟩ hv.1 hv.2.1 hv.2.2 (fun id hid => (g.froz id hid).1) H ?_
  refine ⟨g.n_, g.fin, fun id hid => ⟨?_, rfl⟩, fun i u hi => ?_, fun i1 i2 u w h1 h2 he => g.dist i1 i2 u w (get h1).2 (get h2).2 he⟩
  · rcases hid with hid | rfl
    · exact (g.froz id hid).1
    · exact hv.2.1
  · obtain ⟨h1, h2⟩ := get hi
    have h3 := g.vars i u h2
    refine ⟨h3.1, h3.2.1, fun h => ?_⟩
    rcases h with h | h
    · exact h3.2.2 h
    · have := g.dist i j u _ h2 hj h; omega
theorem RwI.nextX {α : Type} {f : α → List Int} {xs : List α} {H HB HC : AH} {SB SC X : Ids} {s : RwS} {o' : Nat} {y : α} {v : Value} (h : RwI f xs H SB HB s) (t : St s.S s.A SC HC) (hX : ∀ id, X id → SC id ∧ H.n ≤ id ∧ ¬ s.S id) (hy : xs[s.i]? = some y) (hc : KI.Ml X HC v (f y)) : RwI f xs H SB HB ⟨s.i + 1, SC, HC, fun id => s.V id ∨ X id, s.cs ++ [v], o'⟩ := by
  obtain ⟨hil, rfl⟩ := List.getElem?_eq_some_iff.1 hy
  haveI o1 : On s.S s.A SC HC := ⟨t⟩
  refine ⟨by simp only; omega, h.old.trans t, ?_, fun id hid => hid.elim (h.v id) (fun p => (hX id p).2.1)⟩
  simp only
  rw [List.take_succ_eq_append_getElem hil, List.map_append]
  exact (h.b.up (S' := SC) (A' := HC)).snoc (ml1' hc) (fun id hid => (hX id hid).1) (fun id p q => (hX id q).2.2 (h.b.sub id p))
/-- A row that has been frozen. -/
theorem row_ml {A : AH} {o : Nat} {ty : TypeId} {xs : List Int} (h : A.m o = some ⟨ty, true, xs.map (Value.int .i64)⟩) : KI.Ml (fun id => id = o) A (.slice (some ⟨o, 0, some 1⟩) xs.length xs.length) xs := int_ml rfl h rfl rfl (Nat.le_refl _)
end Go.Proofs.Ytmkpfllbmdahkaa.Am
/- Contracts: lists put in order by insertion. Each holds under its own conditions. -/
set_option linter.unusedVariables false
set_option linter.unusedSimpArgs false
set_option maxRecDepth 20000
set_option maxHeartbeats 1000000
namespace Go.Proofs.Ytmkpfllbmdahkaa.Am
open Go Go.RowKit Go.Proofs Go.Proofs.Ytmkpfllbmdahkaa.Pl
theorem sl_form {S : Ids} {A : AH} {v : Value} {x : List Int} (h : KI.Sl S A v x) : ∃ a c, v = .slice a x.length c := by
  rcases h with ⟨rfl, a, c, e, _⟩ | ⟨id, k, c, b, e, _⟩
  · exact ⟨a, c, e⟩
  · exact ⟨_, c, e⟩
theorem RowsB.at_ {S V : Ids} {A : AH} {rows : List (List Int)} {cs : List Value} (h : RowsB KI.ml S A V rows cs) {j : Nat} {x : List Int} (hx : rows[j]? = some x) : ∃ a c, cs[j]? = some (.slice a x.length c) ∧ KI.Sl S A (.slice a x.length c) x := by
  obtain ⟨v, W, h1, h2, h3, _⟩ := h.row1 hx
  obtain ⟨a, c, rfl⟩ := sl_form h2.sl
  exact ⟨a, c, h1, h2.sl.stX (fun i hi => ⟨h.sub i (h3 i hi), rfl⟩)⟩
theorem at_of {L : List (List Int)} {k : Nat} (h : k < L.length) : ∃ x, L[k]? = some x ∧ L.getD k [] = x := ⟨L[k], List.getElem?_eq_getElem h, by rw [List.getD_eq_getElem?_getD, List.getElem?_eq_getElem h]; rfl⟩
/-- Rows again where all their blocks are. -/
theorem RowsB.back {S V Y : Ids} {A A1 A2 : AH} {rows rows0 : List (List Int)} {cs cs0 : List Value} (h : RowsB KI.ml S A V rows cs) (h0 : RowsB KI.ml Y A2 V rows0 cs0) (t : ∀ i, V i → A1.m i = A.m i) : RowsB KI.ml Y A1 V rows cs := by
  obtain ⟨W, h1, h2, h3⟩ := h.rows
  refine ⟨h.len, h0.sub, W, h1, h2, fun j x hx => ?_⟩
  obtain ⟨v, h4, h5⟩ := h3 j x hx
  exact ⟨v, h4, KI.ml.same (fun id hid => t id (h1 j id hid)) h5⟩
structure IsS where
  k : Nat
  L : List (List Int)
  cs : List Value
section
variable {S : Ids} {H0 : AH}
theorem insSort {o c : Nat} {ty : TypeId} {rows : List (List Int)} {cs : List Value} {V Y : Ids} (hl : rows.length ≤ 100000) (hx : ∀ x ∈ rows, x.length ≤ 1048576) (hS : S o) (hm : H0.m o = some ⟨ty, true, cs⟩) (hY : ∀ i, Y i → S i ∧ i ≠ o) (hB : RowsB KI.ml Y H0 V rows cs) :
    SpecW Try.prog S H0 (fun i => i = o) 276 [.slice (some ⟨o, 0, some 1⟩) rows.length c, .int .i64 0, .int .i64 rows.length, .func (.func 250) #[] #[]] (fun n v H1 => ∃ cs', H1.m o = some ⟨ty, true, cs'⟩ ∧ RowsB KI.ml Y H1 V (isA rows) cs') := by
  refine SpecW.of Try.func276 rfl (by kernel_rfl) rfl hS hm (fun H hfin hfz => ?_)
  haveI : On Y H0 (fun i => Low H.n i ∧ i ≠ o) H := ⟨fun i hi => ⟨⟨(hfz i (hY i hi).1).1, (hY i hi).2⟩, (hfz i (hY i hi).1).2⟩⟩
  have hB0 := hB
  have hB := hB.up (S' := fun i => Low H.n i ∧ i ≠ o) (A' := H)
  refine KW.lpM rfl rfl (fun s : IsS => [(0, .slice (some ⟨o, 0, some 1⟩) rows.length c), (1, .int .i64 0), (2, .int .i64 rows.length), (3, .func (.func 250) #[] #[]), (8, .int .i64 (s.k + 1 : Nat))]) (fun s => fun i => Low H.n i ∧ i ≠ o) (fun s => H) (fun s => [(o, ⟨ty, true, s.cs⟩)]) (fun s => (s.k = 0 ∨ s.k < rows.length) ∧ s.L = isF rows s.k ∧ RowsB KI.ml (fun i => Low H.n i ∧ i ≠ o) H V s.L s.cs) (fun s => rows.length - s.k) (⟨0, rows, cs⟩) (⟨.inl rfl, rfl, hB⟩) ⟨rfl, rfl, rfl, rfl, rfl, trivial⟩ rfl rfl rfl (fun s hi bE n => ?_)
  obtain ⟨m, L, cs1⟩ := s
  obtain ⟨h1, h2, h3⟩ := hi
  simp only at h1 h2 h3
  have hLl : L.length = rows.length := by rw [h2, isF_len]
  refine KW.cnd rfl rfl (fun k1 => ?_) (fun k1 => ?_)
  · have k1 : ((m + 1 : Nat) : Int) < (rows.length : Int) := k1
    refine KW.lpM rfl rfl (fun s : IsS => [(0, .slice (some ⟨o, 0, some 1⟩) rows.length c), (1, .int .i64 0), (2, .int .i64 rows.length), (3, .func (.func 250) #[] #[]), (8, .int .i64 (m + 1 : Nat)), (9, .int .i64 s.k)]) (fun s => fun i => Low H.n i ∧ i ≠ o) (fun s => H) (fun s => [(o, ⟨ty, true, s.cs⟩)]) (fun s => s.k ≤ m + 1 ∧ bub s.L s.k = isF rows (m + 1) ∧ s.L.length = rows.length ∧ (∀ x ∈ s.L, x ∈ rows) ∧ RowsB KI.ml (fun i => Low H.n i ∧ i ≠ o) H V s.L s.cs) (fun s => s.k) (⟨m + 1, L, cs1⟩) (⟨Nat.le_refl _, by simp only [h2]; rfl, hLl, by rw [h2]; exact isF_mem m (by omega), h3⟩) ⟨rfl, rfl, rfl, rfl, rfl, rfl, trivial⟩ rfl rfl rfl (fun s hi bE n => ?_)
    obtain ⟨k, L2, cs2⟩ := s
    obtain ⟨g1, g2, g3, g4, g5⟩ := hi
    simp only at g1 g2 g3 g4 g5
    have hcl := g5.len
    refine KW.tst rfl rfl (fun k2 => ?_) (fun k2 => ?_)
    · have k2 : (k : Int) > 0 := k2
      obtain ⟨k', rfl⟩ : ∃ k', k = k' + 1 := ⟨k - 1, by omega⟩
      obtain ⟨x, hx1, hx2⟩ := at_of (L := L2) (k := k' + 1) (by omega)
      obtain ⟨y, hy1, hy2⟩ := at_of (L := L2) (k := k') (by omega)
      obtain ⟨ax, cx, hcx, hsx⟩ := g5.at_ hx1
      obtain ⟨ay, cy, hcy, hsy⟩ := g5.at_ hy1
      have ek : IntKind.i64.wrap (((k' + 1 : Nat) : Int) - 1) = (k' : Int) := by rw [wr (by omega) (by omega)]; omega
      have eu : bub L2 (k' + 1) = if lexB x y = true then bub (sw L2 (k' + 1) k') k' else L2 := by rw [← hx2, ← hy2]; rfl
      refine KW.idx0 rfl rfl rfl rfl rfl rfl rfl rfl rfl (Int.natCast_nonneg _) ((by omega : ((k' + 1 : Nat) : Int) < (rows.length : Int))) ?_
      refine KW.ldT 0 rfl rfl rfl rfl rfl rfl (bload_at (by rw [Nat.zero_add, Nat.mul_one]; exact hcx) rfl rfl) ?_
      refine KW.idx0 rfl rfl rfl rfl rfl rfl rfl rfl rfl (by rw [ek]; exact Int.natCast_nonneg _) (by rw [ek]; omega) ?_
      refine KW.ldT 0 rfl rfl rfl rfl rfl rfl (bload_at (by rw [ek, Int.toNat_natCast, Nat.zero_add, Nat.mul_one]; exact hcy) rfl rfl) ?_
      refine KW.call rfl rfl rfl rfl rfl (slicesCompare (hx x (g4 x (List.mem_of_getElem? hx1))) hsx hsy) (fun v _ _ hv => ?_)
      obtain ⟨r, rfl, hr⟩ := hv
      refine KW.cnd rfl rfl (fun k3 => ?_) (fun k3 => ?_)
      · have k3 : r < 0 := k3
        have hlt : lexB x y = true := by
          cases e : lexB x y
          · have := hr.2 e; omega
          · rfl
        rw [if_pos hlt] at eu
        refine KW.idx0 rfl rfl rfl rfl rfl rfl rfl rfl rfl (by rw [ek]; exact Int.natCast_nonneg _) (by rw [ek]; omega) ?_
        refine KW.ldT 0 rfl rfl rfl rfl rfl rfl (bload_at (by rw [ek, Int.toNat_natCast, Nat.zero_add, Nat.mul_one]; exact hcy) rfl rfl) ?_
        refine KW.idx0 rfl rfl rfl rfl rfl rfl rfl rfl rfl (Int.natCast_nonneg _) ((by omega : ((k' + 1 : Nat) : Int) < (rows.length : Int))) ?_
        refine KW.ldT 0 rfl rfl rfl rfl rfl rfl (bload_at (by rw [Nat.zero_add, Nat.mul_one]; exact hcx) rfl rfl) ?_
        refine KW.idx0 rfl rfl rfl rfl rfl rfl rfl rfl rfl (Int.natCast_nonneg _) ((by omega : ((k' + 1 : Nat) : Int) < (rows.length : Int))) ?_
        refine KW.st1 0 rfl rfl rfl rfl rfl rfl rfl rfl rfl rfl rfl rfl (by show 0 + (((k' + 1 : Nat) : Int)).toNat * 1 < cs2.length; rw [Int.toNat_natCast]; omega) ?_
        refine KW.idx0 rfl rfl rfl rfl rfl rfl rfl rfl rfl (by rw [ek]; exact Int.natCast_nonneg _) (by rw [ek]; omega) ?_
        refine KW.st1 0 rfl rfl rfl rfl rfl rfl rfl rfl rfl rfl rfl rfl (by rw [ek]; show 0 + ((k' : Int)).toNat * 1 < (cs2.set _ _).length; rw [Int.toNat_natCast, List.length_set]; omega) ?_
        have fI := g5.swap (n := k' + 1) (a := k') (by omega) (by omega) hcx hcy
        refine KW.nxt rfl rfl (fun H' g => ⟨⟨k', sw L2 (k' + 1) k', (cs2.set (k' + 1) (.slice ay y.length cy)).set k' (.slice ax x.length cx)⟩, ⟨by simp only; omega, by simp only; rw [← eu]; exact g2, by simp only; rw [sw_len]; exact g3, fun z hz => g4 z (sw_mem (by omega) (by omega) hz), fI⟩, by first | omega | (simp only; omega), ⟨rfl, rfl, rfl, rfl, rfl, congrArg (Value.int .i64) ek, trivial⟩, (g.eqT (by show [(o, (⟨ty, true, (cs2.set (0 + (((k' + 1 : Nat) : Int)).toNat * 1) (.slice ay y.length cy)).set (0 + (IntKind.i64.wrap (((k' + 1 : Nat) : Int) - 1)).toNat * 1) (.slice ax x.length cx)⟩ : Blk))] = _; simp only [ek, Int.toNat_natCast, Nat.zero_add, Nat.mul_one]))⟩)
      · have k3 : ¬ r < 0 := k3
        have hlt : lexB x y = false := hr.1 (by omega)
        rw [if_neg (by rw [hlt]; decide)] at eu
        rw [eu] at g2
        refine KW.nxt rfl rfl (fun H' g => ⟨⟨m + 1, L2, cs2⟩, ⟨.inr (by simp only; omega), g2, g5⟩, by first | omega | (simp only; omega), ⟨rfl, rfl, rfl, rfl, congrArg (Value.int .i64) (inc64 (by omega)), trivial⟩, g⟩)
    · have k2 : ¬ (k : Int) > 0 := k2
      obtain rfl : k = 0 := by omega
      refine KW.cF rfl rfl (by first | (simp; done) | decide) ?_
      refine KW.nxt rfl rfl (fun H' g => ⟨⟨m + 1, L2, cs2⟩, ⟨.inr (by simp only; omega), g2, g5⟩, by first | omega | (simp only; omega), ⟨rfl, rfl, rfl, rfl, congrArg (Value.int .i64) (inc64 (by omega)), trivial⟩, g⟩)
  · have k1 : ¬ ((m + 1 : Nat) : Int) < (rows.length : Int) := k1
    have em : isF rows m = isA rows := by unfold isA; congr 1; omega
    refine KW.endW rfl rfl rfl rfl (fun H1 g => g.nle1 (j := 0) rfl) (fun i hi hw => ⟨⟨hi, hw⟩, rfl⟩) (fun H1 g => ⟨cs1, (g.blk (j := 0) rfl).1, ?_⟩)
    rw [← em, ← h2]
    exact h3.back hB0 (fun i hi => by
      have h4 := (inferInstance : On Y H0 (fun i => Low H.n i ∧ i ≠ o) H).st i (hB0.sub i hi)
      exact (g.froz i h4.1).2)
end
end Go.Proofs.Ytmkpfllbmdahkaa.Am
/- Contracts: lists put in order, by the reference and by the sort of slices. Each holds under its own conditions. -/
set_option linter.unusedVariables false
set_option linter.unusedSimpArgs false
set_option maxRecDepth 20000
set_option maxHeartbeats 1000000
namespace Go.Proofs.Ytmkpfllbmdahkaa.Am
open Go Go.RowKit Go.Proofs Go.Proofs.Ytmkpfllbmdahkaa.Pl
section
variable {S : Ids} {H0 : AH}
theorem l01Sorted {o c : Nat} {ty : TypeId} {rows : List (List Int)} {cs : List Value} {V Y : Ids} (hl : rows.length ≤ 100000) (hx : ∀ x ∈ rows, x.length ≤ 1048576) (hS : S o) (hm : H0.m o = some ⟨ty, true, cs⟩) (hY : ∀ i, Y i → S i ∧ i ≠ o) (hB : RowsB KI.ml Y H0 V rows cs) :
    SpecW Try.prog S H0 (fun i => i = o) 255 [.slice (some ⟨o, 0, some 1⟩) rows.length c] (fun n v H1 => v = .slice (some ⟨o, 0, some 1⟩) rows.length c ∧ ∃ cs', H1.m o = some ⟨ty, true, cs'⟩ ∧ RowsB KI.ml Y H1 V (isA rows) cs') := by
  refine SpecW.of Try.func255 rfl (by kernel_rfl) rfl hS hm (fun H hfin hfz => ?_)
  haveI : On Y H0 (fun i => Low H.n i ∧ i ≠ o) H := ⟨fun i hi => ⟨⟨(hfz i (hY i hi).1).1, (hY i hi).2⟩, (hfz i (hY i hi).1).2⟩⟩
  have hB0 := hB
  have hB := hB.up (S' := fun i => Low H.n i ∧ i ≠ o) (A' := H)
  refine KW.lpM rfl rfl (fun s : IsS => [(0, .slice (some ⟨o, 0, some 1⟩) rows.length c), (3, .int .i64 (s.k + 1 : Nat))]) (fun s => fun i => Low H.n i ∧ i ≠ o) (fun s => H) (fun s => [(o, ⟨ty, true, s.cs⟩)]) (fun s => (s.k = 0 ∨ s.k < rows.length) ∧ s.L = isF rows s.k ∧ RowsB KI.ml (fun i => Low H.n i ∧ i ≠ o) H V s.L s.cs) (fun s => rows.length - s.k) (⟨0, rows, cs⟩) (⟨.inl rfl, rfl, hB⟩) ⟨rfl, rfl, trivial⟩ rfl rfl rfl (fun s hi bE n => ?_)
  obtain ⟨m, L, cs1⟩ := s
  obtain ⟨h1, h2, h3⟩ := hi
  simp only at h1 h2 h3
  have hLl : L.length = rows.length := by rw [h2, isF_len]
  refine KW.cnd rfl rfl (fun k1 => ?_) (fun k1 => ?_)
  · have k1 : ((m + 1 : Nat) : Int) < (rows.length : Int) := k1
    refine KW.lpM rfl rfl (fun s : IsS => [(0, .slice (some ⟨o, 0, some 1⟩) rows.length c), (3, .int .i64 (m + 1 : Nat)), (4, .int .i64 s.k)]) (fun s => fun i => Low H.n i ∧ i ≠ o) (fun s => H) (fun s => [(o, ⟨ty, true, s.cs⟩)]) (fun s => s.k ≤ m + 1 ∧ bub s.L s.k = isF rows (m + 1) ∧ s.L.length = rows.length ∧ (∀ x ∈ s.L, x ∈ rows) ∧ RowsB KI.ml (fun i => Low H.n i ∧ i ≠ o) H V s.L s.cs) (fun s => s.k) (⟨m + 1, L, cs1⟩) (⟨Nat.le_refl _, by simp only [h2]; rfl, hLl, by rw [h2]; exact isF_mem m (by omega), h3⟩) ⟨rfl, rfl, rfl, trivial⟩ rfl rfl rfl (fun s hi bE n => ?_)
    obtain ⟨k, L2, cs2⟩ := s
    obtain ⟨g1, g2, g3, g4, g5⟩ := hi
    simp only at g1 g2 g3 g4 g5
    have hcl := g5.len
    refine KW.tst rfl rfl (fun k2 => ?_) (fun k2 => ?_)
    · have k2 : (k : Int) > 0 := k2
      obtain ⟨k', rfl⟩ : ∃ k', k = k' + 1 := ⟨k - 1, by omega⟩
      obtain ⟨x, hx1, hx2⟩ := at_of (L := L2) (k := k' + 1) (by omega)
      obtain ⟨y, hy1, hy2⟩ := at_of (L := L2) (k := k') (by omega)
      obtain ⟨ax, cx, hcx, hsx⟩ := g5.at_ hx1
      obtain ⟨ay, cy, hcy, hsy⟩ := g5.at_ hy1
      have ek : IntKind.i64.wrap (((k' + 1 : Nat) : Int) - 1) = (k' : Int) := by rw [wr (by omega) (by omega)]; omega
      have eu : bub L2 (k' + 1) = if lexB x y = true then bub (sw L2 (k' + 1) k') k' else L2 := by rw [← hx2, ← hy2]; rfl
      refine KW.idx0 rfl rfl rfl rfl rfl rfl rfl rfl rfl (Int.natCast_nonneg _) ((by omega : ((k' + 1 : Nat) : Int) < (rows.length : Int))) ?_
      refine KW.ldT 0 rfl rfl rfl rfl rfl rfl (bload_at (by rw [Nat.zero_add, Nat.mul_one]; exact hcx) rfl rfl) ?_
      refine KW.idx0 rfl rfl rfl rfl rfl rfl rfl rfl rfl (by rw [ek]; exact Int.natCast_nonneg _) (by rw [ek]; omega) ?_
      refine KW.ldT 0 rfl rfl rfl rfl rfl rfl (bload_at (by rw [ek, Int.toNat_natCast, Nat.zero_add, Nat.mul_one]; exact hcy) rfl rfl) ?_
      refine KW.callE rfl rfl rfl rfl rfl (l01Before (hx x (g4 x (List.mem_of_getElem? hx1))) hsx hsy) (fun _ _ => ?_)
      refine KW.cndB rfl rfl (fun k3 => ?_) (fun k3 => ?_)
      · have hlt : lexB x y = true := k3
        rw [if_pos hlt] at eu
        refine KW.idx0 rfl rfl rfl rfl rfl rfl rfl rfl rfl (Int.natCast_nonneg _) ((by omega : ((k' + 1 : Nat) : Int) < (rows.length : Int))) ?_
        refine KW.ldT 0 rfl rfl rfl rfl rfl rfl (bload_at (by rw [Nat.zero_add, Nat.mul_one]; exact hcx) rfl rfl) ?_
        refine KW.idx0 rfl rfl rfl rfl rfl rfl rfl rfl rfl (by rw [ek]; exact Int.natCast_nonneg _) (by rw [ek]; omega) ?_
        refine KW.ldT 0 rfl rfl rfl rfl rfl rfl (bload_at (by rw [ek, Int.toNat_natCast, Nat.zero_add, Nat.mul_one]; exact hcy) rfl rfl) ?_
        refine KW.idx0 rfl rfl rfl rfl rfl rfl rfl rfl rfl (Int.natCast_nonneg _) ((by omega : ((k' + 1 : Nat) : Int) < (rows.length : Int))) ?_
        refine KW.st1 0 rfl rfl rfl rfl rfl rfl rfl rfl rfl rfl rfl rfl (by show 0 + (((k' + 1 : Nat) : Int)).toNat * 1 < cs2.length; rw [Int.toNat_natCast]; omega) ?_
        refine KW.idx0 rfl rfl rfl rfl rfl rfl rfl rfl rfl (by rw [ek]; exact Int.natCast_nonneg _) (by rw [ek]; omega) ?_
        refine KW.st1 0 rfl rfl rfl rfl rfl rfl rfl rfl rfl rfl rfl rfl (by rw [ek]; show 0 + ((k' : Int)).toNat * 1 < (cs2.set _ _).length; rw [Int.toNat_natCast, List.length_set]; omega) ?_
        have fI := g5.swap (n := k' + 1) (a := k') (by omega) (by omega) hcx hcy
        refine KW.nxt rfl rfl (fun H' g => ⟨⟨k', sw L2 (k' + 1) k', (cs2.set (k' + 1) (.slice ay y.length cy)).set k' (.slice ax x.length cx)⟩, ⟨by simp only; omega, by simp only; rw [← eu]; exact g2, by simp only; rw [sw_len]; exact g3, fun z hz => g4 z (sw_mem (by omega) (by omega) hz), fI⟩, by first | omega | (simp only; omega), ⟨rfl, rfl, congrArg (Value.int .i64) ek, trivial⟩, (g.eqT (by show [(o, (⟨ty, true, (cs2.set (0 + (((k' + 1 : Nat) : Int)).toNat * 1) (.slice ay y.length cy)).set (0 + (IntKind.i64.wrap (((k' + 1 : Nat) : Int) - 1)).toNat * 1) (.slice ax x.length cx)⟩ : Blk))] = _; simp only [ek, Int.toNat_natCast, Nat.zero_add, Nat.mul_one]))⟩)
      · have hlt : lexB x y = false := by simpa using k3
        rw [if_neg (by rw [hlt]; decide)] at eu
        rw [eu] at g2
        refine KW.nxt rfl rfl (fun H' g => ⟨⟨m + 1, L2, cs2⟩, ⟨.inr (by simp only; omega), g2, g5⟩, by first | omega | (simp only; omega), ⟨rfl, congrArg (Value.int .i64) (inc64 (by omega)), trivial⟩, g⟩)
    · have k2 : ¬ (k : Int) > 0 := k2
      obtain rfl : k = 0 := by omega
      refine KW.cF rfl rfl (by first | (simp; done) | decide) ?_
      refine KW.nxt rfl rfl (fun H' g => ⟨⟨m + 1, L2, cs2⟩, ⟨.inr (by simp only; omega), g2, g5⟩, by first | omega | (simp only; omega), ⟨rfl, congrArg (Value.int .i64) (inc64 (by omega)), trivial⟩, g⟩)
  · have k1 : ¬ ((m + 1 : Nat) : Int) < (rows.length : Int) := k1
    have em : isF rows m = isA rows := by unfold isA; congr 1; omega
    refine KW.retW rfl rfl rfl rfl (fun H1 g => g.nle1 (j := 0) rfl) (fun i hi hw => ⟨⟨hi, hw⟩, rfl⟩) (fun H1 g => ⟨rfl, cs1, (g.blk (j := 0) rfl).1, ?_⟩)
    rw [← em, ← h2]
    exact h3.back hB0 (fun i hi => by
      have h4 := (inferInstance : On Y H0 (fun i => Low H.n i ∧ i ≠ o) H).st i (hB0.sub i hi)
      exact (g.froz i h4.1).2)
theorem bitsLen64 {x : Nat} (hx : x ≤ 12) : Spec Try.prog S H0 285 [.int .u64 x] (fun v => ∃ z : Int, v = .int .i64 z) := by
  have h : x = 0 ∨ x = 1 ∨ x = 2 ∨ x = 3 ∨ x = 4 ∨ x = 5 ∨ x = 6 ∨ x = 7 ∨ x = 8 ∨ x = 9 ∨ x = 10 ∨ x = 11 ∨ x = 12 := by omega
  rcases h with rfl | rfl | rfl | rfl | rfl | rfl | rfl | rfl | rfl | rfl | rfl | rfl | rfl
  · skip
    refine Spec.of1 Try.func285 rfl (by kernel_rfl) rfl (fun H _ => ?_)
    refine KW.cF rfl rfl (by first | (simp; done) | decide) ?_
    refine KW.cF rfl rfl (by first | (simp; done) | decide) ?_
    refine KW.cF rfl rfl (by first | (simp; done) | decide) ?_
    refine KW.pure rfl rfl rfl rfl rfl (.int .u8 0) (by kernel_rfl) ?_
    refine KW.ret rfl rfl rfl rfl ?_
    exact ⟨_, rfl⟩
  · skip
    refine Spec.of1 Try.func285 rfl (by kernel_rfl) rfl (fun H _ => ?_)
    refine KW.cF rfl rfl (by first | (simp; done) | decide) ?_
    refine KW.cF rfl rfl (by first | (simp; done) | decide) ?_
    refine KW.cF rfl rfl (by first | (simp; done) | decide) ?_
    refine KW.pure rfl rfl rfl rfl rfl (.int .u8 1) (by kernel_rfl) ?_
    refine KW.ret rfl rfl rfl rfl ?_
    exact ⟨_, rfl⟩
  · skip
    refine Spec.of1 Try.func285 rfl (by kernel_rfl) rfl (fun H _ => ?_)
    refine KW.cF rfl rfl (by first | (simp; done) | decide) ?_
    refine KW.cF rfl rfl (by first | (simp; done) | decide) ?_
    refine KW.cF rfl rfl (by first | (simp; done) | decide) ?_
    refine KW.pure rfl rfl rfl rfl rfl (.int .u8 2) (by kernel_rfl) ?_
    refine KW.ret rfl rfl rfl rfl ?_
    exact ⟨_, rfl⟩
  · skip
    refine Spec.of1 Try.func285 rfl (by kernel_rfl) rfl (fun H _ => ?_)
    refine KW.cF rfl rfl (by first | (simp; done) | decide) ?_
    refine KW.cF rfl rfl (by first | (simp; done) | decide) ?_
    refine KW.cF rfl rfl (by first | (simp; done) | decide) ?_
    refine KW.pure rfl rfl rfl rfl rfl (.int .u8 2) (by kernel_rfl) ?_
    refine KW.ret rfl rfl rfl rfl ?_
    exact ⟨_, rfl⟩
  · skip
    refine Spec.of1 Try.func285 rfl (by kernel_rfl) rfl (fun H _ => ?_)
    refine KW.cF rfl rfl (by first | (simp; done) | decide) ?_
    refine KW.cF rfl rfl (by first | (simp; done) | decide) ?_
    refine KW.cF rfl rfl (by first | (simp; done) | decide) ?_
    refine KW.pure rfl rfl rfl rfl rfl (.int .u8 3) (by kernel_rfl) ?_
    refine KW.ret rfl rfl rfl rfl ?_
    exact ⟨_, rfl⟩
  · skip
    refine Spec.of1 Try.func285 rfl (by kernel_rfl) rfl (fun H _ => ?_)
    refine KW.cF rfl rfl (by first | (simp; done) | decide) ?_
    refine KW.cF rfl rfl (by first | (simp; done) | decide) ?_
    refine KW.cF rfl rfl (by first | (simp; done) | decide) ?_
    refine KW.pure rfl rfl rfl rfl rfl (.int .u8 3) (by kernel_rfl) ?_
    refine KW.ret rfl rfl rfl rfl ?_
    exact ⟨_, rfl⟩
  · skip
    refine Spec.of1 Try.func285 rfl (by kernel_rfl) rfl (fun H _ => ?_)
    refine KW.cF rfl rfl (by first | (simp; done) | decide) ?_
    refine KW.cF rfl rfl (by first | (simp; done) | decide) ?_
    refine KW.cF rfl rfl (by first | (simp; done) | decide) ?_
    refine KW.pure rfl rfl rfl rfl rfl (.int .u8 3) (by kernel_rfl) ?_
    refine KW.ret rfl rfl rfl rfl ?_
    exact ⟨_, rfl⟩
  · skip
    refine Spec.of1 Try.func285 rfl (by kernel_rfl) rfl (fun H _ => ?_)
    refine KW.cF rfl rfl (by first | (simp; done) | decide) ?_
    refine KW.cF rfl rfl (by first | (simp; done) | decide) ?_
    refine KW.cF rfl rfl (by first | (simp; done) | decide) ?_
    refine KW.pure rfl rfl rfl rfl rfl (.int .u8 3) (by kernel_rfl) ?_
    refine KW.ret rfl rfl rfl rfl ?_
    exact ⟨_, rfl⟩
  · skip
    refine Spec.of1 Try.func285 rfl (by kernel_rfl) rfl (fun H _ => ?_)
    refine KW.cF rfl rfl (by first | (simp; done) | decide) ?_
    refine KW.cF rfl rfl (by first | (simp; done) | decide) ?_
    refine KW.cF rfl rfl (by first | (simp; done) | decide) ?_
    refine KW.pure rfl rfl rfl rfl rfl (.int .u8 4) (by kernel_rfl) ?_
    refine KW.ret rfl rfl rfl rfl ?_
    exact ⟨_, rfl⟩
  · skip
    refine Spec.of1 Try.func285 rfl (by kernel_rfl) rfl (fun H _ => ?_)
    refine KW.cF rfl rfl (by first | (simp; done) | decide) ?_
    refine KW.cF rfl rfl (by first | (simp; done) | decide) ?_
    refine KW.cF rfl rfl (by first | (simp; done) | decide) ?_
    refine KW.pure rfl rfl rfl rfl rfl (.int .u8 4) (by kernel_rfl) ?_
    refine KW.ret rfl rfl rfl rfl ?_
    exact ⟨_, rfl⟩
  · skip
    refine Spec.of1 Try.func285 rfl (by kernel_rfl) rfl (fun H _ => ?_)
    refine KW.cF rfl rfl (by first | (simp; done) | decide) ?_
    refine KW.cF rfl rfl (by first | (simp; done) | decide) ?_
    refine KW.cF rfl rfl (by first | (simp; done) | decide) ?_
    refine KW.pure rfl rfl rfl rfl rfl (.int .u8 4) (by kernel_rfl) ?_
    refine KW.ret rfl rfl rfl rfl ?_
    exact ⟨_, rfl⟩
  · skip
    refine Spec.of1 Try.func285 rfl (by kernel_rfl) rfl (fun H _ => ?_)
    refine KW.cF rfl rfl (by first | (simp; done) | decide) ?_
    refine KW.cF rfl rfl (by first | (simp; done) | decide) ?_
    refine KW.cF rfl rfl (by first | (simp; done) | decide) ?_
    refine KW.pure rfl rfl rfl rfl rfl (.int .u8 4) (by kernel_rfl) ?_
    refine KW.ret rfl rfl rfl rfl ?_
    exact ⟨_, rfl⟩
  · skip
    refine Spec.of1 Try.func285 rfl (by kernel_rfl) rfl (fun H _ => ?_)
    refine KW.cF rfl rfl (by first | (simp; done) | decide) ?_
    refine KW.cF rfl rfl (by first | (simp; done) | decide) ?_
    refine KW.cF rfl rfl (by first | (simp; done) | decide) ?_
    refine KW.pure rfl rfl rfl rfl rfl (.int .u8 4) (by kernel_rfl) ?_
    refine KW.ret rfl rfl rfl rfl ?_
    exact ⟨_, rfl⟩
theorem bitsLen {x : Nat} (hx : x ≤ 12) : Spec Try.prog S H0 269 [.int .u64 x] (fun v => ∃ z : Int, v = .int .i64 z) := by
  refine Spec.of1 Try.func269 rfl (by kernel_rfl) rfl (fun H _ => ?_)
  refine KW.cF rfl rfl (by first | (simp; done) | decide) ?_
  refine KW.call rfl rfl rfl rfl rfl (bitsLen64 hx) (fun v _ _ hv => ?_)
  obtain ⟨z, rfl⟩ := hv
  exact KW.ret rfl rfl rfl rfl (⟨_, rfl⟩)
theorem pdq {o c : Nat} {ty : TypeId} {rows : List (List Int)} {cs : List Value} {V Y : Ids} (hl : rows.length ≤ 12) (hx : ∀ x ∈ rows, x.length ≤ 1048576) (hS : S o) (hm : H0.m o = some ⟨ty, true, cs⟩) (hY : ∀ i, Y i → S i ∧ i ≠ o) (hB : RowsB KI.ml Y H0 V rows cs) {lim : Int} :
    SpecW Try.prog S H0 (fun i => i = o) 268 [.slice (some ⟨o, 0, some 1⟩) rows.length c, .int .i64 0, .int .i64 rows.length, .int .i64 lim, .func (.func 250) #[] #[]] (fun n v H1 => ∃ cs', H1.m o = some ⟨ty, true, cs'⟩ ∧ RowsB KI.ml Y H1 V (isA rows) cs') := by
  refine SpecW.of0 Try.func268 rfl (by kernel_rfl) rfl (fun H hfin hfz => ?_)
  have fx : ∀ i, S i → Low H.n i ∧ H.m i = H0.m i := fun i hi => hfz i hi
  have hmH : H.m o = some ⟨ty, true, cs⟩ := (fx o hS).2.trans hm
  have hBH : RowsB KI.ml Y H V rows cs := hB.back hB (fun i hi => (fx i (hY i (hB.sub i hi)).1).2)
  have hYH : ∀ i, Y i → Low H.n i ∧ i ≠ o := fun i hi => ⟨(fx i (hY i hi).1).1, (hY i hi).2⟩
  refine KW.lp rfl rfl (fun _ : Unit => [(0, .slice (some ⟨o, 0, some 1⟩) rows.length c), (1, .int .i64 0), (2, .int .i64 rows.length), (4, .func (.func 250) #[] #[])]) (fun _ => True) (fun _ => 0) (()) (trivial) ⟨rfl, rfl, rfl, rfl, trivial⟩ (fun _ hi bE n => ?_)
  have e1 : IntKind.i64.wrap ((rows.length : Int) - 0) = (rows.length : Int) := by rw [wr (by omega) (by omega)]; omega
  refine KW.yes rfl rfl (by rw [e1]; omega) ?_
  refine KW.fact (fun _ g => g.nle (H1 := H)) (fun hnle => ?_)
  refine KW.callW (W := fun i => i = o) (fun i hi => by subst hi; exact (fx _ hS).1) rfl rfl rfl rfl rfl (insSort (S := Low H.n) (by omega) hx (fx o hS).1 hmH hYH hBH) (fun v H1 S1 hn1 st1 hw1 hp => ?_)
  obtain ⟨cs', p1, p2⟩ := hp
  refine KW.retW rfl rfl rfl rfl (fun H2 g => by have := g.n_; omega) (fun i hi hw => ⟨(st1 i hi).1, (st1 i hi).2 hw⟩) (fun H2 g => ?_)
  exact ⟨cs', (g.froz o (st1 o (fx o hS).1).1).2.trans p1, p2.back hBH (fun i hi => (g.froz i (st1 i (hYH i (hBH.sub i hi)).1).1).2)⟩
theorem sortFunc {o c : Nat} {ty : TypeId} {rows : List (List Int)} {cs : List Value} {V Y : Ids} (hl : rows.length ≤ 12) (hx : ∀ x ∈ rows, x.length ≤ 1048576) (hS : S o) (hm : H0.m o = some ⟨ty, true, cs⟩) (hY : ∀ i, Y i → S i ∧ i ≠ o) (hB : RowsB KI.ml Y H0 V rows cs) :
    SpecW Try.prog S H0 (fun i => i = o) 256 [.slice (some ⟨o, 0, some 1⟩) rows.length c, .func (.func 250) #[] #[]] (fun n v H1 => ∃ cs', H1.m o = some ⟨ty, true, cs'⟩ ∧ RowsB KI.ml Y H1 V (isA rows) cs') := by
  refine SpecW.of0 Try.func256 rfl (by kernel_rfl) rfl (fun H hfin hfz => ?_)
  have fx : ∀ i, S i → Low H.n i ∧ H.m i = H0.m i := fun i hi => hfz i hi
  have hmH : H.m o = some ⟨ty, true, cs⟩ := (fx o hS).2.trans hm
  have hBH : RowsB KI.ml Y H V rows cs := hB.back hB (fun i hi => (fx i (hY i (hB.sub i hi)).1).2)
  have hYH : ∀ i, Y i → Low H.n i ∧ i ≠ o := fun i hi => ⟨(fx i (hY i hi).1).1, (hY i hi).2⟩
  have e1 : IntKind.u64.wrap (rows.length : Int) = (rows.length : Int) := wru (by omega) (by omega)
  refine KW.call rfl rfl rfl rfl rfl ((by show Spec _ _ _ _ [.int .u64 (IntKind.u64.wrap _)] _; rw [e1]; exact bitsLen hl)) (fun v _ _ hv => ?_)
  obtain ⟨z, rfl⟩ := hv
  refine KW.callW (W := fun i => i = o) (fun i hi => by subst hi; exact (fx _ hS).1) rfl rfl rfl rfl rfl (pdq (S := Low H.n) hl hx (fx o hS).1 hmH hYH hBH) (fun v H1 S1 hn1 st1 hw1 hp => ?_)
  obtain ⟨cs', p1, p2⟩ := hp
  refine KW.endW rfl rfl rfl rfl (fun H2 g => by have := g.n_; omega) (fun i hi hw => ⟨(st1 i hi).1, (st1 i hi).2 hw⟩) (fun H2 g => ?_)
  exact ⟨cs', (g.froz o (st1 o (fx o hS).1).1).2.trans p1, p2.back hBH (fun i hi => (g.froz i (st1 i (hYH i (hBH.sub i hi)).1).1).2)⟩
end
end Go.Proofs.Ytmkpfllbmdahkaa.Am
/- Groups and their bits, plain: a rising group is what its bits hold; chains. No condition beyond each lemma's own. -/
set_option linter.unusedVariables false
namespace Go.Proofs.Ytmkpfllbmdahkaa.Am
open Go Go.RowKit
theorem hold_congr {x y n : Nat} (h : ∀ i, i < n → x.testBit i = y.testBit i) : hold x n = hold y n := by
  unfold hold
  congr 1
  exact List.filter_congr fun i hi => h i (List.mem_range.1 hi)
theorem bitsOf_snoc (g : List Int) (a : Int) : bitsOf (g ++ [a]) = bitsOf g ||| 2 ^ a.toNat := by
  unfold bitsOf
  rw [List.foldl_append]; rfl
theorem rises_front {lo hi : Int} {g : List Int} {a : Int} (h : Rises lo hi (g ++ [a])) : Rises lo hi g ∧ (∀ x ∈ g, x < a) ∧ lo ≤ a ∧ a ≤ hi := by
  have at_ : ∀ i, i < g.length → (g ++ [a]).getD i 0 = g.getD i 0 := fun i hi => by
    rw [List.getD_eq_getElem?_getD, List.getD_eq_getElem?_getD, List.getElem?_append_left hi]
  have last : (g ++ [a]).getD g.length 0 = a := by
    rw [List.getD_eq_getElem?_getD]; simp
  have hr : Rises lo hi g := fun i hi => by
    obtain ⟨h1, h2⟩ := h i (by simp; omega)
    rw [at_ i hi] at h1 h2
    refine ⟨h1, fun h0 => ?_⟩
    have := h2 h0
    rwa [at_ (i - 1) (by omega)] at this
  have hl := h g.length (by simp)
  unfold RiseAt at hl
  rw [last] at hl
  refine ⟨hr, fun x hx => ?_, hl.1.1, hl.1.2⟩
  obtain ⟨i, hi⟩ := List.getElem?_of_mem hx
  have hil := (List.getElem?_eq_some_iff.1 hi).1
  -- each element is at most the last one of g
  have up : ∀ d i, i + d = g.length - 1 → i < g.length → g.getD i 0 ≤ g.getD (g.length - 1) 0 := fun d => by
    induction d with
    | zero => intro i h1 h2; rw [show i = g.length - 1 by omega]; exact Int.le_refl _
    | succ d ih =>
      intro i h1 h2
      have h3 := ih (i + 1) (by omega) (by omega)
      have h4 := (hr (i + 1) (by omega)).2 (by omega)
      simp only [Nat.add_sub_cancel] at h4
      omega
  have h5 := up (g.length - 1 - i) i (by omega) hil
  have h6 := hl.2 (by omega)
  rw [at_ (g.length - 1) (by omega)] at h6
  rw [getD_of hi] at h5
  omega
theorem bitsOf_test {g : List Int} (hg : ∀ x ∈ g, 0 ≤ x) (i : Nat) : (bitsOf g).testBit i = true ↔ (i : Int) ∈ g := by
  have key : ∀ (g : List Int) (a : Nat), (∀ x ∈ g, 0 ≤ x) → ((g.foldl (fun a x => a ||| 2 ^ x.toNat) a).testBit i = true ↔ (a.testBit i = true ∨ (i : Int) ∈ g)) := by
    intro g
    induction g with
    | nil => intro a _; simp
    | cons x g ih =>
      intro a hx
      have h0 := hx x List.mem_cons_self
      simp only [List.foldl_cons]
      rw [ih _ (fun y hy => hx y (List.mem_cons_of_mem _ hy)), Nat.testBit_or, Nat.testBit_two_pow, List.mem_cons]
      have e : x.toNat = i ↔ (i : Int) = x := by omega
      simp only [Bool.or_eq_true, decide_eq_true_eq, e]
      constructor
      · rintro ((h | h) | h)
        · exact .inl h
        · exact .inr (.inl h)
        · exact .inr (.inr h)
      · rintro (h | h | h)
        · exact .inl (.inl h)
        · exact .inl (.inr h)
        · exact .inr h
  have := key g 0 hg
  simpa [bitsOf] using this
theorem hold_bits : ∀ (n : Nat) {g : List Int}, Rises 0 ((n : Int) - 1) g → hold (bitsOf g) n = g
  | 0, g, h => by
    cases g with
    | nil => rfl
    | cons x g => have := (h 0 (by simp)).1; omega
  | n + 1, g, h => by
    rcases List.eq_nil_or_concat g with rfl | ⟨g', a, hga⟩
    · unfold hold bitsOf; simp
    · rw [List.concat_eq_append] at hga
      subst hga
      obtain ⟨h1, h2, h3, h4⟩ := rises_front h
      have hg' : ∀ x ∈ g', 0 ≤ x := fun x hx => (rises_mem h1 x hx).1
      rw [hold_next]
      by_cases ha : a = n
      · subst ha
        have hb : (bitsOf (g' ++ [(n : Int)])).testBit n = true := by rw [bitsOf_snoc, Nat.testBit_or, Nat.testBit_two_pow]; simp
        rw [if_pos hb]
        congr 1
        have h5 : Rises 0 ((n : Int) - 1) g' := fun i hi => by
          obtain ⟨h6, h7⟩ := h1 i hi
          refine ⟨⟨h6.1, ?_⟩, h7⟩
          have := h2 (g'.getD i 0) (by rw [List.getD_eq_getElem?_getD, List.getElem?_eq_getElem hi]; exact List.getElem_mem hi)
          omega
        have ih := hold_bits n h5
        rw [← ih]
        rw [ih]
        refine Eq.trans (hold_congr fun i hi => ?_) ih
        rw [bitsOf_snoc, Nat.testBit_or, Nat.testBit_two_pow]
        have h9 : ¬ n = i := by omega
        simp [h9]
      · have h5 : Rises 0 ((n : Int) - 1) (g' ++ [a]) := fun i hi => by
          obtain ⟨h6, h7⟩ := h i hi
          refine ⟨⟨h6.1, ?_⟩, h7⟩
          have hm : (g' ++ [a]).getD i 0 ∈ g' ++ [a] := by rw [List.getD_eq_getElem?_getD, List.getElem?_eq_getElem hi]; exact List.getElem_mem hi
          rcases List.mem_append.1 hm with h8 | h8
          · have := h2 _ h8; omega
          · have := List.mem_singleton.1 h8; omega
        have hb : ¬ (bitsOf (g' ++ [a])).testBit n = true := fun hc => by
          have := (bitsOf_test (fun x hx => (rises_mem h5 x hx).1) n).1 hc
          have := (rises_mem h5 _ this).2
          omega
        rw [if_neg hb]
        exact hold_bits n h5
end Go.Proofs.Ytmkpfllbmdahkaa.Am
/- What the laws' own functions do at Sequence: sizes, copies, equality, marks. Each holds under its own conditions. -/
set_option linter.unusedVariables false
set_option maxRecDepth 20000
namespace Go.Proofs.Ytmkpfllbmdahkaa.Am
open Go Go.RowKit Go.Proofs
abbrev T_Sequence : Type := (List Int) × (List (List Int)) × (List (List Int))
abbrev K_Sequence : Kn T_Sequence := Kn.pair (K_Int64S) (Kn.pair (K_Int64SS) (K_Int64SS))
abbrev M_Sequence : Kn T_Sequence := Kn.mp (M_Int64S) (Kn.mp (M_Int64SS) (M_Int64SS))
theorem le_Sequence : KLe M_Sequence K_Sequence := KLe.pair (le_Int64S) (KLe.pair (le_Int64SS) (le_Int64SS))
abbrev B_Sequence (x : T_Sequence) : Prop := B_Int64S x.1 ∧ B_Int64SS x.2.1 ∧ B_Int64SS x.2.2
abbrev W_Sequence (x : T_Sequence) : Prop := W_Int64S x.1 ∧ W_Int64SS x.2.1 ∧ W_Int64SS x.2.2
abbrev sz_Sequence (x : T_Sequence) : Nat := sz_Int64S x.1 + sz_Int64SS x.2.1 + sz_Int64SS x.2.2
abbrev mk_Sequence (k : Int) (x : T_Sequence) : T_Sequence := (mk_Int64S (k) x.1, mk_Int64SS (k + (sz_Int64S x.1 : Nat)) x.2.1, mk_Int64SS (k + (sz_Int64S x.1 : Nat) + (sz_Int64SS x.2.1 : Nat)) x.2.2)
theorem size_Sequence {x : T_Sequence} (hB : B_Sequence x) : sz_Sequence x ≤ 3145728 := by have := size_Int64S hB.1; have := size_Int64SS hB.2.1; have := size_Int64SS hB.2.2; simp only [sz_Sequence]; omega
section
variable {S : Ids} {H0 : AH} {W : Ids} {left k : Int}
theorem form_Sequence {x : T_Sequence} {cs : List Value} (h : K_Sequence.R S H0 x cs) : ∃ a1 c1 a2 c2 a3 c3, cs = [.slice a1 x.1.length c1, .slice a2 x.2.1.length c2, .slice a3 x.2.2.length c3] := by
  obtain ⟨e0, d0, rfl, h0, h0_⟩ := h
  obtain ⟨e1, d1, rfl, h1, h1_⟩ := h0_
  have h2 := h1_
  obtain ⟨a1, c1, rfl⟩ := slform h0
  obtain ⟨a2, c2, rfl⟩ := slform h1
  obtain ⟨a3, c3, rfl⟩ := slform h2
  exact ⟨a1, c1, a2, c2, a3, c3, rfl⟩
theorem formM_Sequence {x : T_Sequence} {cs : List Value} (h : M_Sequence.R S H0 x cs) : ∃ a1 c1 a2 c2 a3 c3, cs = [.slice a1 x.1.length c1, .slice a2 x.2.1.length c2, .slice a3 x.2.2.length c3] := form_Sequence (le_Sequence.2 _ _ _ _ h)
theorem split_Sequence {x : T_Sequence} {cs : List Value} (h : K_Sequence.R S H0 x cs) : ∃ a1 c1 a2 c2 a3 c3, cs = [.slice a1 x.1.length c1, .slice a2 x.2.1.length c2, .slice a3 x.2.2.length c3] ∧ K_Int64S.R S H0 x.1 [.slice a1 x.1.length c1] ∧ K_Int64SS.R S H0 x.2.1 [.slice a2 x.2.1.length c2] ∧ K_Int64SS.R S H0 x.2.2 [.slice a3 x.2.2.length c3] := by
  obtain ⟨e0, d0, rfl, h0, h0_⟩ := h
  obtain ⟨e1, d1, rfl, h1, h1_⟩ := h0_
  have h2 := h1_
  obtain ⟨a1, c1, rfl⟩ := slform h0
  obtain ⟨a2, c2, rfl⟩ := slform h1
  obtain ⟨a3, c3, rfl⟩ := slform h2
  exact ⟨a1, c1, a2, c2, a3, c3, rfl, h0, h1, h2⟩
theorem splitM_Sequence {x : T_Sequence} {cs : List Value} (h : M_Sequence.R S H0 x cs) : ∃ (a1 : Option Addr) (c1 : Nat) (a2 : Option Addr) (c2 : Nat) (a3 : Option Addr) (c3 : Nat) (X0 : Ids) (X1 : Ids) (X2 : Ids), cs = [.slice a1 x.1.length c1, .slice a2 x.2.1.length c2, .slice a3 x.2.2.length c3] ∧ M_Int64S.R X0 H0 x.1 [.slice a1 x.1.length c1] ∧ M_Int64SS.R X1 H0 x.2.1 [.slice a2 x.2.1.length c2] ∧ M_Int64SS.R X2 H0 x.2.2 [.slice a3 x.2.2.length c3] ∧ (∀ id, X0 id → S id) ∧ (∀ id, X1 id → S id) ∧ (∀ id, X2 id → S id) ∧ (∀ id, X0 id → X1 id → False) ∧ (∀ id, X0 id → X2 id → False) ∧ (∀ id, X1 id → X2 id → False) := by
  obtain ⟨e0, d0, X0, Y0, rfl, i0, j0, q0, h0, h0_⟩ := h
  obtain ⟨e1, d1, X1, Y1, rfl, i1, j1, q1, h1, h1_⟩ := h0_
  have h2 := h1_
  obtain ⟨a1, c1, rfl⟩ := mlform h0
  obtain ⟨a2, c2, rfl⟩ := mlform h1
  obtain ⟨a3, c3, rfl⟩ := mlform h2
  exact ⟨a1, c1, a2, c2, a3, c3, X0, X1, Y1, rfl, h0, h1, h2, fun _ p => i0 _ p, fun _ p => j0 _ (i1 _ p), fun _ p => j0 _ (j1 _ p), fun _ o p => q0 _ o (i1 _ p), fun _ o p => q0 _ o (j1 _ p), fun _ o p => q1 _ o (p)⟩
theorem eq_Sequence {x : T_Sequence} {cs cs' : List Value} (hB : B_Sequence x) (h : K_Sequence.R S H0 x cs) (h' : K_Sequence.R S H0 x cs') : Spec Try.prog S H0 70 [.agg cs.toArray, .agg cs'.toArray] (fun v => v = .bool true) := by
  obtain ⟨a1, c1, a2, c2, a3, c3, rfl, h0, h1, h2⟩ := split_Sequence h
  obtain ⟨b1, d1, b2, d2, b3, d3, rfl, k0, k1, k2⟩ := split_Sequence h'
  refine Spec.of1 Try.func70 rfl (by kernel_rfl) rfl (fun H _ => ?_)
  refine KW.callE rfl rfl rfl rfl rfl (eq_Int64S hB.1 (On.R h0) (On.R k0)) (fun _ _ => ?_)
  refine KW.cF rfl rfl (by first | (simp; done) | decide) ?_
  refine KW.callE rfl rfl rfl rfl rfl (eq_Int64SS hB.2.1 (On.R h1) (On.R k1)) (fun _ _ => ?_)
  refine KW.cF rfl rfl (by first | (simp; done) | decide) ?_
  refine KW.callE rfl rfl rfl rfl rfl (eq_Int64SS hB.2.2 (On.R h2) (On.R k2)) (fun _ _ => ?_)
  refine KW.cF rfl rfl (by first | (simp; done) | decide) ?_
  exact KW.ret rfl rfl rfl rfl (rfl)
theorem mark_Sequence {x : T_Sequence} {cs : List Value} (hB : B_Sequence x) (hk : Mk k (sz_Sequence x)) (hW : ∀ id, W id → S id) (h : M_Sequence.R W H0 x cs) : SpecW Try.prog S H0 W 73 [.agg cs.toArray, .int .i64 k] (fun n v H1 => v = .int .i64 (k + (sz_Sequence x : Nat)) ∧ M_Sequence.R W H1 (mk_Sequence k x) cs) := by
  obtain ⟨a1, c1, a2, c2, a3, c3, X0, X1, X2, rfl, h0, h1, h2, i0, i1, i2, q0_1, q0_2, q1_2⟩ := splitM_Sequence h
  refine SpecW.of0 Try.func73 rfl (by kernel_rfl) rfl (fun H hfin hfz => ?_)
  have F0 : Fk M_Int64S X0 (Low H.n) H _ _ := ⟨(M_Int64S).same (fun id hid => (hfz id (hW id (i0 id hid))).2) h0, fun id hid => (hfz id (hW id (i0 id hid))).1⟩
  have F1 : Fk M_Int64SS X1 (Low H.n) H _ _ := ⟨(M_Int64SS).same (fun id hid => (hfz id (hW id (i1 id hid))).2) h1, fun id hid => (hfz id (hW id (i1 id hid))).1⟩
  have F2 : Fk M_Int64SS X2 (Low H.n) H _ _ := ⟨(M_Int64SS).same (fun id hid => (hfz id (hW id (i2 id hid))).2) h2, fun id hid => (hfz id (hW id (i2 id hid))).1⟩
  have T : ∀ id, id < H.n → Low H.n id ∧ (¬ W id → H.m id = H.m id) := fun id hid => ⟨hid, fun _ => rfl⟩
  refine KW.callW F0.i rfl rfl rfl rfl rfl (mark_Int64S hB.1 (k := k) (by have := hk.1; have := hk.2; simp only [sz_Sequence] at this; constructor <;> omega) F0.i F0.r) (fun v H0 S0 m0 t0 w0 hv => ?_)
  obtain ⟨rfl, g0⟩ := hv
  have F0 : Fk M_Int64S X0 S0 H0 _ _ := ⟨g0, fun id hid => (t0 id (F0.i id hid)).1⟩
  have F1 := F1.w t0 (fun id p o => q0_1 id o p)
  have F2 := F2.w t0 (fun id p o => q0_2 id o p)
  have T : ∀ id, id < H.n → S0 id ∧ (¬ W id → H0.m id = H.m id) := fun id hid => ⟨(t0 id (T id hid).1).1, fun hw => ((t0 id (T id hid).1).2 (fun o => hw (i0 id o))).trans ((T id hid).2 hw)⟩
  refine KW.callW F1.i rfl rfl rfl rfl rfl (mark_Int64SS hB.2.1 (k := k + (sz_Int64S x.1 : Nat)) (by have := hk.1; have := hk.2; simp only [sz_Sequence] at this; constructor <;> omega) F1.i F1.r) (fun v H1 S1 m1 t1 w1 hv => ?_)
  obtain ⟨rfl, g1⟩ := hv
  have F1 : Fk M_Int64SS X1 S1 H1 _ _ := ⟨g1, fun id hid => (t1 id (F1.i id hid)).1⟩
  have F0 := F0.w t1 (fun id p o => q0_1 id p o)
  have F2 := F2.w t1 (fun id p o => q1_2 id o p)
  have T : ∀ id, id < H.n → S1 id ∧ (¬ W id → H1.m id = H.m id) := fun id hid => ⟨(t1 id (T id hid).1).1, fun hw => ((t1 id (T id hid).1).2 (fun o => hw (i1 id o))).trans ((T id hid).2 hw)⟩
  refine KW.callW F2.i rfl rfl rfl rfl rfl (mark_Int64SS hB.2.2 (k := k + (sz_Int64S x.1 : Nat) + (sz_Int64SS x.2.1 : Nat)) (by have := hk.1; have := hk.2; simp only [sz_Sequence] at this; constructor <;> omega) F2.i F2.r) (fun v H2 S2 m2 t2 w2 hv => ?_)
  obtain ⟨rfl, g2⟩ := hv
  have F2 : Fk M_Int64SS X2 S2 H2 _ _ := ⟨g2, fun id hid => (t2 id (F2.i id hid)).1⟩
  have F0 := F0.w t2 (fun id p o => q0_2 id p o)
  have F1 := F1.w t2 (fun id p o => q1_2 id p o)
  have T : ∀ id, id < H.n → S2 id ∧ (¬ W id → H2.m id = H.m id) := fun id hid => ⟨(t2 id (T id hid).1).1, fun hw => ((t2 id (T id hid).1).2 (fun o => hw (i2 id o))).trans ((T id hid).2 hw)⟩
  refine KW.retW rfl rfl rfl rfl (fun H1 g => by have := g.n_; omega) (fun id hid hw => ⟨(T id hid).1, (T id hid).2 hw⟩) (fun H1 g => ?_)
  have e : k + (sz_Int64S x.1 : Nat) + (sz_Int64SS x.2.1 : Nat) + (sz_Int64SS x.2.2 : Nat) = k + ((sz_Sequence x : Nat) : Int) := by simp only [sz_Sequence]; omega
  refine ⟨congrArg (Value.int .i64) e, ?_⟩
  have G0 := (M_Int64S).same (H' := H1) (fun id hid => (g.froz id (F0.i id hid)).2) F0.r
  have G1 := (M_Int64SS).same (H' := H1) (fun id hid => (g.froz id (F1.i id hid)).2) F1.r
  have G2 := (M_Int64SS).same (H' := H1) (fun id hid => (g.froz id (F2.i id hid)).2) F2.r
  have k2 : M_Int64SS.R (fun id => X2 id) H1 (mk_Int64SS (k + (sz_Int64S x.1 : Nat) + (sz_Int64SS x.2.1 : Nat)) x.2.2) [.slice a3 x.2.2.length c3] := G2
  have k1 : (Kn.mp (M_Int64SS) (M_Int64SS)).R (fun id => X1 id ∨ X2 id) H1 ((mk_Int64SS (k + (sz_Int64S x.1 : Nat)) x.2.1), (mk_Int64SS (k + (sz_Int64S x.1 : Nat) + (sz_Int64SS x.2.1 : Nat)) x.2.2)) [.slice a2 x.2.1.length c2, .slice a3 x.2.2.length c3] := mpR G1 k2 (fun _ p => .inl p) (fun _ p => .inr p) (fun _ o p => q1_2 _ o p)
  have k0 : (Kn.mp (M_Int64S) (Kn.mp (M_Int64SS) (M_Int64SS))).R (fun id => X0 id ∨ X1 id ∨ X2 id) H1 ((mk_Int64S (k) x.1), (mk_Int64SS (k + (sz_Int64S x.1 : Nat)) x.2.1), (mk_Int64SS (k + (sz_Int64S x.1 : Nat) + (sz_Int64SS x.2.1 : Nat)) x.2.2)) [.slice a1 x.1.length c1, .slice a2 x.2.1.length c2, .slice a3 x.2.2.length c3] := mpR G0 k1 (fun _ p => .inl p) (fun _ p => .inr p) (fun _ o p => by rcases p with p | p <;> first | exact q0_1 _ o p | exact q0_2 _ o p)
  exact (M_Sequence).more (fun id p => by rcases p with p | p | p <;> first | exact i0 id p | exact i1 id p | exact i2 id p) k0
theorem held_Sequence {x : T_Sequence} {cs : List Value} (hB : B_Sequence x) (hk : Mk k (sz_Sequence x)) (h : K_Sequence.R S H0 (mk_Sequence k x) cs) : Spec Try.prog S H0 74 [.agg cs.toArray, .int .i64 k] (fun v => v = .int .i64 (k + (sz_Sequence x : Nat))) := by
  obtain ⟨a1, c1, a2, c2, a3, c3, rfl, h0, h1, h2⟩ := split_Sequence h
  refine Spec.of1 Try.func74 rfl (by kernel_rfl) rfl (fun H _ => ?_)
  refine KW.callE rfl rfl rfl rfl rfl (held_Int64S hB.1 (k := k) (by have := hk.1; have := hk.2; simp only [sz_Sequence] at this; constructor <;> omega) (On.R h0)) (fun _ _ => ?_)
  refine KW.no rfl rfl (by have := hk.1; omega) ?_
  refine KW.callE rfl rfl rfl rfl rfl (held_Int64SS hB.2.1 (k := k + (sz_Int64S x.1 : Nat)) (by have := hk.1; have := hk.2; simp only [sz_Sequence] at this; constructor <;> omega) (On.R h1)) (fun _ _ => ?_)
  refine KW.no rfl rfl (by have := hk.1; omega) ?_
  refine KW.callE rfl rfl rfl rfl rfl (held_Int64SS hB.2.2 (k := k + (sz_Int64S x.1 : Nat) + (sz_Int64SS x.2.1 : Nat)) (by have := hk.1; have := hk.2; simp only [sz_Sequence] at this; constructor <;> omega) (On.R h2)) (fun _ _ => ?_)
  refine KW.no rfl rfl (by have := hk.1; omega) ?_
  refine KW.ret rfl rfl rfl rfl (congrArg (Value.int .i64) ?_)
  simp only [sz_Sequence]
  omega
end
end Go.Proofs.Ytmkpfllbmdahkaa.Am
/- Contracts: chains of the program and of the reference: what may stand behind another one. Each holds under its own conditions. -/
set_option linter.unusedVariables false
set_option linter.unusedSimpArgs false
set_option maxRecDepth 20000
namespace Go.Proofs.Ytmkpfllbmdahkaa.Am
open Go Go.RowKit Go.Proofs
/-- A set that may stand behind another one with a part of what is known. -/
def Steps (gs : List (List Int)) (b x w : Nat) : Prop := Opens gs (x ||| w) ∧ ¬ Opens gs (b ||| w)
def Chd (gs : List (List Int)) (k b x : Nat) : Prop := x &&& k = 0 ∧ x ≠ b ∧ x &&& b = b ∧ ¬ Opens gs x
/-- The least part of what is known, if there is one. -/
def Least (gs : List (List Int)) (k b x w : Nat) (ok : Bool) : Prop :=
  (ok = true ∧ w ≤ k ∧ (k &&& w = w ∧ Steps gs b x w) ∧ ∀ v, v < w → ¬ (k &&& v = v ∧ Steps gs b x v)) ∨ (ok = false ∧ w = 0 ∧ ∀ v, v ≤ k → ¬ (k &&& v = v ∧ Steps gs b x v))
section
variable {S : Ids} {H0 : AH}
theorem steps {m : Nat} (hm : m ≤ 7) (h : Int) {b x w : Nat} (hb : b < 256) (hx : x < 256) (hw : w < 256) {gs : List (List Int)} (hsm : Sml gs) (hbe : Below' m gs) {a c} (hs : KI.sl.Sl S H0 (.slice a gs.length c) gs) :
    Spec Try.prog S H0 183 [familyV h (.slice a gs.length c), .int .u64 b, .int .u64 x, .int .u64 w] (fun v => v = .bool (tv (Steps gs b x w))) := by
  refine Spec.of1 Try.func183 rfl (by kernel_rfl) rfl (fun H _ => ?_)
  have o1 : x ||| w < 2 ^ 8 := Nat.or_lt_two_pow (by omega) (by omega)
  have o2 : b ||| w < 2 ^ 8 := Nat.or_lt_two_pow (by omega) (by omega)
  have e8 : (2 : Nat) ^ 8 = 256 := by decide
  have e1 := or_u64 (a := x) (b := w) (by omega) (by omega)
  have e2 := or_u64 (a := b) (b := w) (by omega) (by omega)
  refine KW.callE rfl rfl rfl rfl rfl ((by show Spec _ _ _ _ [familyV h (.slice a gs.length c), .int .u64 (IntKind.u64.wrap _)] _; rw [e1]; exact opens hm h (by omega) hsm hbe hs.up)) (fun _ _ => ?_)
  refine KW.tstB rfl rfl (fun k1 => ?_) (fun k1 => ?_)
  · have k1 := tv_iff.1 k1
    refine KW.callE rfl rfl rfl rfl rfl ((by show Spec _ _ _ _ [familyV h (.slice a gs.length c), .int .u64 (IntKind.u64.wrap _)] _; rw [e2]; exact opens hm h (by omega) hsm hbe hs.up)) (fun _ _ => ?_)
    refine KW.ret rfl rfl rfl rfl ?_
    show Value.bool (!tv (Opens gs (b ||| w))) = _
    by_cases k2 : Opens gs (b ||| w)
    · rw [tv_true k2, tv_false (p := Steps gs b x w) (fun hc => hc.2 k2)]; rfl
    · rw [tv_false k2, tv_true (p := Steps gs b x w) ⟨k1, k2⟩]; rfl
  · exact KW.ret rfl rfl rfl rfl (by rw [tv_false (p := Steps gs b x w) (fun hc => by rw [tv_true hc.1] at k1; cases k1)]; rfl)
theorem chained {m : Nat} (hm : m ≤ 7) (h : Int) {k b x : Nat} (hk : k < 256) (hb : b < 256) (hx : x < 256) {gs : List (List Int)} (hsm : Sml gs) (hbe : Below' m gs) {a c} (hs : KI.sl.Sl S H0 (.slice a gs.length c) gs) :
    Spec Try.prog S H0 177 [familyV h (.slice a gs.length c), .int .u64 k, .int .u64 b, .int .u64 x] (fun v => v = .bool (tv (Chd gs k b x))) := by
  refine Spec.of1 Try.func177 rfl (by kernel_rfl) rfl (fun H _ => ?_)
  have e1 := and_u64 (a := x) (b := k) (by omega) (by omega)
  have bad : ¬ Chd gs k b x → aout [Value.bool false] = .bool (tv (Chd gs k b x)) := fun hx => by rw [tv_false hx]; rfl
  refine KW.tstB rfl rfl (fun k1 => ?_) (fun k1 => ?_)
  · rw [e1] at k1
    have k1 : x &&& k = 0 := by simp at k1; omega
    refine KW.tstB rfl rfl (fun k2 => ?_) (fun k2 => ?_)
    · have k2 : x ≠ b := by simp at k2; omega
      refine KW.callE rfl rfl rfl rfl rfl (contains (x := x) (y := b) (by omega) (by omega)) (fun _ _ => ?_)
      refine KW.tstB rfl rfl (fun k3 => ?_) (fun k3 => ?_)
      · have k3 := tv_iff.1 k3
        refine KW.callE rfl rfl rfl rfl rfl (opens hm h (q := x) (by omega) hsm hbe hs.up) (fun _ _ => ?_)
        refine KW.ret rfl rfl rfl rfl ?_
        show Value.bool (!tv (Opens gs x)) = _
        by_cases k4 : Opens gs x
        · rw [tv_true k4, tv_false (p := Chd gs k b x) (fun hc => hc.2.2.2 k4)]; rfl
        · rw [tv_false k4, tv_true (p := Chd gs k b x) ⟨k1, k2, k3, k4⟩]; rfl
      · repeat first | refine KW.tT rfl rfl rfl ?_ | refine KW.tF rfl rfl rfl ?_
        exact KW.ret rfl rfl rfl rfl (bad (fun hc => by rw [tv_true hc.2.2.1] at k3; cases k3))
    · have k2 : x = b := by simp at k2; omega
      repeat first | refine KW.tT rfl rfl rfl ?_ | refine KW.tF rfl rfl rfl ?_
      exact KW.ret rfl rfl rfl rfl (bad (fun hc => hc.2.1 k2))
  · rw [e1] at k1
    have k1 : ¬ x &&& k = 0 := by simp at k1; omega
    repeat first | refine KW.tT rfl rfl rfl ?_ | refine KW.tF rfl rfl rfl ?_
    exact KW.ret rfl rfl rfl rfl (bad (fun hc => k1 hc.1))
theorem least {m : Nat} (hm : m ≤ 7) (h : Int) {k b x : Nat} (hk : k < 256) (hb : b < 256) (hx : x < 256) {gs : List (List Int)} (hsm : Sml gs) (hbe : Below' m gs) {a c} (hs : KI.sl.Sl S H0 (.slice a gs.length c) gs) :
    Spec Try.prog S H0 176 [familyV h (.slice a gs.length c), .int .u64 k, .int .u64 b, .int .u64 x] (fun v => ∃ (w : Nat) (ok : Bool), v = .tuple #[.int .u64 w, .bool ok] ∧ Least gs k b x w ok) := by
  refine Spec.of1 Try.func176 rfl (by kernel_rfl) rfl (fun H _ => ?_)
  refine KW.lp rfl rfl (fun w : Nat => [(1, .int .u64 k), (2, .int .u64 b), (3, .int .u64 x), (4, .pointer (some ⟨H.n, 0, some 0⟩)), (10, .int .u64 w)]) (fun w => w ≤ k + 1 ∧ ∀ v, v < w → ¬ (k &&& v = v ∧ Steps gs b x v)) (fun w => k + 1 - w) (0) (⟨by omega, fun v hv => absurd hv (by omega)⟩) ⟨rfl, rfl, rfl, rfl, rfl, trivial⟩ (fun w hi bE n => ?_)
  obtain ⟨hw, hv⟩ := hi
  refine KW.cnd rfl rfl (fun k1 => ?_) (fun k1 => ?_)
  · have k1 : (w : Int) ≤ k := k1
    refine KW.callE rfl rfl rfl rfl rfl (contains (x := k) (y := w) (by omega) (by omega)) (fun _ _ => ?_)
    refine KW.tstB rfl rfl (fun k2 => ?_) (fun k2 => ?_)
    · have k2 := tv_iff.1 k2
      refine KW.callE rfl rfl rfl rfl rfl (steps hm h (b := b) (x := x) (w := w) hb hx (by omega) hsm hbe hs.up) (fun _ _ => ?_)
      refine KW.cndB rfl rfl (fun k3 => ?_) (fun k3 => ?_)
      · exact KW.ret rfl rfl rfl rfl (⟨w, true, rfl, .inl ⟨rfl, by omega, ⟨k2, tv_iff.1 k3⟩, hv⟩⟩)
      · refine KW.nxt rfl rfl (fun H' g => ⟨w + 1, ⟨by omega, upto hv (fun hc => by rw [tv_true hc.2] at k3; cases k3)⟩, by first | omega | (simp only; omega), ⟨rfl, rfl, rfl, rfl, congrArg (Value.int .u64) (incu64 (by omega)), trivial⟩, g⟩)
    · refine KW.cF rfl rfl (by first | (simp; done) | decide) ?_
      refine KW.nxt rfl rfl (fun H' g => ⟨w + 1, ⟨by omega, upto hv (fun hc => by rw [tv_true hc.1] at k2; cases k2)⟩, by first | omega | (simp only; omega), ⟨rfl, rfl, rfl, rfl, congrArg (Value.int .u64) (incu64 (by omega)), trivial⟩, g⟩)
  · have k1 : ¬ (w : Int) ≤ k := k1
    exact KW.ret rfl rfl rfl rfl (⟨0, false, rfl, .inr ⟨rfl, rfl, fun v hv' => hv v (by omega)⟩⟩)
theorem areGroups1 (m : Int) (hm : 1 ≤ m ∧ m ≤ 7) {y : List Int} (hl : y.length ≤ 1048576) {a c} (hs : KI.Sl S H0 (.slice a y.length c) y) {id : Nat} {b : Blk} (hb : b.cells = [.int .i64 m]) (hv : S id ∧ H0.m id = some b) :
    Spec Try.prog S H0 227 [.slice a y.length c, .pointer (some ⟨id, 0, none⟩)] (fun v => v = .bool (!tv (Rises 0 (m - 1) y))) := by
  refine Spec.of1 Try.func227 rfl (by kernel_rfl) rfl (fun H _ => ?_)
  obtain ⟨hS1, hm1⟩ := On.blk (S' := Low H.n) (H' := H) hv.1 hv.2
  obtain ⟨ty, rw, cs⟩ := b
  subst hb
  refine KW.ldP hS1 hm1 rfl rfl rfl rfl rfl rfl ?_
  refine KW.callE rfl rfl rfl rfl rfl (isGroup m (by omega) (by omega) hs.up) (fun _ _ => ?_)
  exact KW.ret rfl rfl rfl rfl (rfl)
theorem areGroups (m : Int) (hm : 1 ≤ m ∧ m ≤ 7) {a c} {xs : List (List Int)} (hl : xs.length ≤ 1048576) (hx : ∀ y ∈ xs, y.length ≤ 1048576) (hs : KI.sl.Sl S H0 (.slice a xs.length c) xs) :
    Spec Try.prog S H0 175 [.int .i64 m, .slice a xs.length c] (fun v => v = .bool (tv (∀ y ∈ xs, Rises 0 (m - 1) y))) := by
  refine Spec.of1 Try.func175 rfl (by kernel_rfl) rfl (fun H _ => ?_)
  refine KW.callV1 rfl rfl rfl rfl rfl (fun H1 g _ => containsFuncL (p := fun y => !tv (Rises 0 (m - 1) y)) (by omega) hs.up (fun S' H' o y hy a c hsy => areGroups1 m hm (hx y hy) hsy rfl (g.var (j := 0) rfl))) (fun _ _ => ?_)
  refine KW.ret rfl rfl rfl rfl ?_
  show Value.bool (!tv (∃ x ∈ xs, (!tv (Rises 0 (m - 1) x)) = true)) = _
  by_cases h : ∀ y ∈ xs, Rises 0 (m - 1) y
  · rw [tv_true h, tv_false (fun ⟨x, h1, h2⟩ => by rw [tv_true (h x h1)] at h2; cases h2)]; rfl
  · rw [tv_false h, tv_true ?_]; · rfl
    refine Classical.byContradiction fun hc => h fun x h1 => ?_
    refine Classical.byContradiction fun h2 => hc ⟨x, h1, by rw [tv_false h2]; rfl⟩
/-- A list of one row. -/
theorem Good.row1 {S0 : Ids} {T : List Var} {n j id c : Nat} {H1 H2 : AH} {ty : TypeId} {a : Option Addr} {c' : Nat} {xs : List Int} (g : Good S0 H1 T n H2) (hT : T[j]? = some (id, ⟨ty, true, [.slice a xs.length c']⟩)) (h : KI.Sl (Low H2.n) H2 (.slice a xs.length c') xs) (hc : 1 ≤ c) : KI.sl.Sl (Low H2.n) H2 (.slice (some ⟨id, 0, some 1⟩) [xs].length c) [xs] := by
  have hb := g.blk hT
  refine .inr ⟨id, 0, c, _, rfl, hc, hb.2, hb.1, by simp [Kn.sl], fun i x hx => ?_⟩
  cases i with
  | zero => cases hx; exact ⟨_, rfl, h⟩
  | succ i => simp at hx
end
end Go.Proofs.Ytmkpfllbmdahkaa.Am
/- What the laws' own functions do at Matrix: sizes, copies, equality, marks. Each holds under its own conditions. -/
set_option linter.unusedVariables false
set_option maxRecDepth 20000
namespace Go.Proofs.Ytmkpfllbmdahkaa.Am
open Go Go.RowKit Go.Proofs
abbrev T_Matrix : Type := (Int) × (Int) × (List (List Int))
abbrev K_Matrix : Kn T_Matrix := Kn.pair (KI) (Kn.pair (KI) (K_Int64SS))
abbrev M_Matrix : Kn T_Matrix := Kn.mp (KI) (Kn.mp (KI) (M_Int64SS))
theorem le_Matrix : KLe M_Matrix K_Matrix := KLe.pair ((KLe.refl KI)) (KLe.pair ((KLe.refl KI)) (le_Int64SS))
abbrev B_Matrix (x : T_Matrix) : Prop := I64 x.1 ∧ I64 x.2.1 ∧ B_Int64SS x.2.2
abbrev W_Matrix (x : T_Matrix) : Prop := I64 x.1 ∧ I64 x.2.1 ∧ W_Int64SS x.2.2
abbrev sz_Matrix (x : T_Matrix) : Nat := sz_Int64SS x.2.2
abbrev mk_Matrix (k : Int) (x : T_Matrix) : T_Matrix := (x.1, x.2.1, mk_Int64SS (k) x.2.2)
theorem size_Matrix {x : T_Matrix} (hB : B_Matrix x) : sz_Matrix x ≤ 1048576 := by have := size_Int64SS hB.2.2; simp only [sz_Matrix]; omega
section
variable {S : Ids} {H0 : AH} {W : Ids} {left k : Int}
theorem form_Matrix {x : T_Matrix} {cs : List Value} (h : K_Matrix.R S H0 x cs) : ∃ a1 c1, cs = [.int .i64 x.1, .int .i64 x.2.1, .slice a1 x.2.2.length c1] := by
  obtain ⟨e0, d0, rfl, h0, h0_⟩ := h
  obtain ⟨e1, d1, rfl, h1, h1_⟩ := h0_
  have h2 := h1_
  obtain rfl := KI_of h0
  obtain rfl := KI_of h1
  obtain ⟨a1, c1, rfl⟩ := slform h2
  exact ⟨a1, c1, rfl⟩
theorem formM_Matrix {x : T_Matrix} {cs : List Value} (h : M_Matrix.R S H0 x cs) : ∃ a1 c1, cs = [.int .i64 x.1, .int .i64 x.2.1, .slice a1 x.2.2.length c1] := form_Matrix (le_Matrix.2 _ _ _ _ h)
theorem split_Matrix {x : T_Matrix} {cs : List Value} (h : K_Matrix.R S H0 x cs) : ∃ a1 c1, cs = [.int .i64 x.1, .int .i64 x.2.1, .slice a1 x.2.2.length c1] ∧ K_Int64SS.R S H0 x.2.2 [.slice a1 x.2.2.length c1] := by
  obtain ⟨e0, d0, rfl, h0, h0_⟩ := h
  obtain ⟨e1, d1, rfl, h1, h1_⟩ := h0_
  have h2 := h1_
  obtain rfl := KI_of h0
  obtain rfl := KI_of h1
  obtain ⟨a1, c1, rfl⟩ := slform h2
  exact ⟨a1, c1, rfl, h2⟩
theorem splitM_Matrix {x : T_Matrix} {cs : List Value} (h : M_Matrix.R S H0 x cs) : ∃ (a1 : Option Addr) (c1 : Nat) (X2 : Ids), cs = [.int .i64 x.1, .int .i64 x.2.1, .slice a1 x.2.2.length c1] ∧ M_Int64SS.R X2 H0 x.2.2 [.slice a1 x.2.2.length c1] ∧ (∀ id, X2 id → S id) := by
  obtain ⟨e0, d0, X0, Y0, rfl, i0, j0, q0, h0, h0_⟩ := h
  obtain ⟨e1, d1, X1, Y1, rfl, i1, j1, q1, h1, h1_⟩ := h0_
  have h2 := h1_
  obtain rfl := KI_of h0
  obtain rfl := KI_of h1
  obtain ⟨a1, c1, rfl⟩ := mlform h2
  exact ⟨a1, c1, Y1, rfl, h2, fun _ p => j0 _ (j1 _ p)⟩
theorem to_Matrix {x : T_Matrix} {cs : List Value} (hB : B_Matrix x) (h : K_Matrix.R S H0 x cs) : SpecM Try.prog S H0 17 [.agg cs.toArray] (fun n v H1 => ∃ cs, v = .agg cs.toArray ∧ M_Matrix.R (New n H1.n) H1 x cs) := by
  obtain ⟨a1, c1, rfl, h2⟩ := split_Matrix h
  refine SpecM.of1 Try.func17 rfl (by kernel_rfl) rfl (fun H _ => ?_)
  refine KW.callN1 rfl rfl rfl rfl rfl (to_Int64SS hB.2.2 (On.R h2)) (fun v G2 S2 m2 _ _ hv => ?_)
  obtain ⟨b2, d2, rfl, g2⟩ := hv
  refine KW.retM1 rfl rfl rfl rfl (fun H1 g => ?_)
  refine ⟨_, rfl, ?_⟩
  have k2 : M_Int64SS.R (New H.n H1.n) H1 x.2.2 [.slice b2 x.2.2.length d2] := (M_Int64SS).more (g.inn (H := G2) (fun _ p => by have := p.1; omega)) (g.keep g2)
  have k1 : (Kn.mp (KI) (M_Int64SS)).R (New H.n H1.n) H1 (x.2) [.int .i64 x.2.1, .slice b2 x.2.2.length d2] := mpR (X := None_) (show KI.R None_ H1 _ [.int .i64 x.2.1] from rfl) k2 (fun _ p => p.elim) (fun _ p => p) (fun _ p _ => p.elim)
  have k0 : (Kn.mp (KI) (Kn.mp (KI) (M_Int64SS))).R (New H.n H1.n) H1 (x) [.int .i64 x.1, .int .i64 x.2.1, .slice b2 x.2.2.length d2] := mpR (X := None_) (show KI.R None_ H1 _ [.int .i64 x.1] from rfl) k1 (fun _ p => p.elim) (fun _ p => p) (fun _ p _ => p.elim)
  exact k0
theorem eq_Matrix {x : T_Matrix} {cs cs' : List Value} (hB : B_Matrix x) (h : K_Matrix.R S H0 x cs) (h' : K_Matrix.R S H0 x cs') : Spec Try.prog S H0 19 [.agg cs.toArray, .agg cs'.toArray] (fun v => v = .bool true) := by
  obtain ⟨a1, c1, rfl, h2⟩ := split_Matrix h
  obtain ⟨b1, d1, rfl, k2⟩ := split_Matrix h'
  refine Spec.of1 Try.func19 rfl (by kernel_rfl) rfl (fun H _ => ?_)
  refine KW.cF rfl rfl (by first | (simp; done) | decide) ?_
  refine KW.cF rfl rfl (by first | (simp; done) | decide) ?_
  refine KW.callE rfl rfl rfl rfl rfl (eq_Int64SS hB.2.2 (On.R h2) (On.R k2)) (fun _ _ => ?_)
  refine KW.cF rfl rfl (by first | (simp; done) | decide) ?_
  exact KW.ret rfl rfl rfl rfl (rfl)
theorem sz_Matrix' {x : T_Matrix} {cs : List Value} (l0 : 0 ≤ left) (l1 : left ≤ 1048576) (hW : W_Matrix x) (h : K_Matrix.R S H0 x cs) : Spec Try.prog S H0 15 [.agg cs.toArray, .int .i64 left] (SzPost left (B_Matrix x)) := by
  obtain ⟨a1, c1, rfl, h2⟩ := split_Matrix h
  refine Spec.of1 Try.func15 rfl (by kernel_rfl) rfl (fun H _ => ?_)
  refine KW.call rfl rfl rfl rfl rfl (sz_Int64SS' l0 l1 hW.2.2 (On.R h2)) (fun v _ _ hv => ?_)
  obtain ⟨r2, rfl, k2⟩ := hv
  refine KW.cnd rfl rfl (fun h => KW.ret rfl rfl rfl rfl ⟨-1, rfl, .inl rfl⟩) (fun h => ?_)
  have k2 := k2.resolve_left (by omega)
  exact KW.ret rfl rfl rfl rfl (⟨_, rfl, .inr ⟨k2.1, by have := k2.2.1; omega, hW.1, hW.2.1, k2.2.2⟩⟩)
theorem mark_Matrix {x : T_Matrix} {cs : List Value} (hB : B_Matrix x) (hk : Mk k (sz_Matrix x)) (hW : ∀ id, W id → S id) (h : M_Matrix.R W H0 x cs) : SpecW Try.prog S H0 W 37 [.agg cs.toArray, .int .i64 k] (fun n v H1 => v = .int .i64 (k + (sz_Matrix x : Nat)) ∧ M_Matrix.R W H1 (mk_Matrix k x) cs) := by
  obtain ⟨a1, c1, X2, rfl, h2, i2⟩ := splitM_Matrix h
  refine SpecW.of0 Try.func37 rfl (by kernel_rfl) rfl (fun H hfin hfz => ?_)
  have F2 : Fk M_Int64SS X2 (Low H.n) H _ _ := ⟨(M_Int64SS).same (fun id hid => (hfz id (hW id (i2 id hid))).2) h2, fun id hid => (hfz id (hW id (i2 id hid))).1⟩
  have T : ∀ id, id < H.n → Low H.n id ∧ (¬ W id → H.m id = H.m id) := fun id hid => ⟨hid, fun _ => rfl⟩
  refine KW.callW F2.i rfl rfl rfl rfl rfl (mark_Int64SS hB.2.2 (k := k) (by have := hk.1; have := hk.2; simp only [sz_Matrix] at this; constructor <;> omega) F2.i F2.r) (fun v H2 S2 m2 t2 w2 hv => ?_)
  obtain ⟨rfl, g2⟩ := hv
  have F2 : Fk M_Int64SS X2 S2 H2 _ _ := ⟨g2, fun id hid => (t2 id (F2.i id hid)).1⟩
  have T : ∀ id, id < H.n → S2 id ∧ (¬ W id → H2.m id = H.m id) := fun id hid => ⟨(t2 id (T id hid).1).1, fun hw => ((t2 id (T id hid).1).2 (fun o => hw (i2 id o))).trans ((T id hid).2 hw)⟩
  refine KW.retW rfl rfl rfl rfl (fun H1 g => by have := g.n_; omega) (fun id hid hw => ⟨(T id hid).1, (T id hid).2 hw⟩) (fun H1 g => ?_)
  refine ⟨rfl, ?_⟩
  have G2 := (M_Int64SS).same (H' := H1) (fun id hid => (g.froz id (F2.i id hid)).2) F2.r
  have k2 : M_Int64SS.R (fun id => X2 id) H1 (mk_Int64SS (k) x.2.2) [.slice a1 x.2.2.length c1] := G2
  have k1 : (Kn.mp (KI) (M_Int64SS)).R (fun id => X2 id) H1 (x.2.1, (mk_Int64SS (k) x.2.2)) [.int .i64 x.2.1, .slice a1 x.2.2.length c1] := mpR (X := None_) (show KI.R None_ H1 _ [.int .i64 x.2.1] from rfl) k2 (fun _ p => p.elim) (fun _ p => p) (fun _ p _ => p.elim)
  have k0 : (Kn.mp (KI) (Kn.mp (KI) (M_Int64SS))).R (fun id => X2 id) H1 (x.1, x.2.1, (mk_Int64SS (k) x.2.2)) [.int .i64 x.1, .int .i64 x.2.1, .slice a1 x.2.2.length c1] := mpR (X := None_) (show KI.R None_ H1 _ [.int .i64 x.1] from rfl) k1 (fun _ p => p.elim) (fun _ p => p) (fun _ p _ => p.elim)
  exact (M_Matrix).more (fun id p => i2 id p) k0
theorem held_Matrix {x : T_Matrix} {cs : List Value} (hB : B_Matrix x) (hk : Mk k (sz_Matrix x)) (h : K_Matrix.R S H0 (mk_Matrix k x) cs) : Spec Try.prog S H0 129 [.agg cs.toArray, .int .i64 k] (fun v => v = .int .i64 (k + (sz_Matrix x : Nat))) := by
  obtain ⟨a1, c1, rfl, h2⟩ := split_Matrix h
  refine Spec.of1 Try.func129 rfl (by kernel_rfl) rfl (fun H _ => ?_)
  refine KW.callE rfl rfl rfl rfl rfl (held_Int64SS hB.2.2 (k := k) (by have := hk.1; have := hk.2; simp only [sz_Matrix] at this; constructor <;> omega) (On.R h2)) (fun _ _ => ?_)
  refine KW.no rfl rfl (by have := hk.1; omega) ?_
  exact KW.ret rfl rfl rfl rfl (rfl)
end
end Go.Proofs.Ytmkpfllbmdahkaa.Am
