/- Contracts and laws on abstract memory, merged. Each holds under its own conditions. -/
import Derived.Test.YtijmkfnmdhpakaaPRefusedDeed01
/- What the laws' own functions do, type by type: rows of numbers; how structs stand in memory. Each holds under its own conditions. -/
set_option linter.unusedVariables false
set_option maxRecDepth 20000
namespace Go.Proofs.Ytijmkfnmdhpakaa.Am
open Go Go.RowKit Go.Proofs
theorem all_of {α : Type} {xs : List α} {p : α → Prop} (h : ∀ j, j < xs.length → ∀ x, xs[j]? = some x → p x) : ∀ x ∈ xs, p x := fun x hx => by
  obtain ⟨j, hj⟩ := List.getElem?_of_mem hx
  exact h j (List.getElem?_eq_some_iff.1 hj).1 x hj
def None_ : Ids := fun _ => False
section
variable {α β : Type} {d : Kn α} {S S' X Y Z : Ids} {H H' : AH} {v : Value} {xs : List α} {x : α} {y : β} {cs ds : List Value}
theorem sl1 (h : d.sl.R S H xs [v]) : d.Sl S H v xs := by
  obtain ⟨s, h1, h2⟩ := h
  obtain rfl : v = s := by simpa using h1
  exact h2
theorem sl1' (h : d.Sl S H v xs) : d.sl.R S H xs [v] := ⟨v, rfl, h⟩
theorem ml1 (h : d.ml.R S H xs [v]) : d.Ml S H v xs := by
  obtain ⟨s, h1, h2⟩ := h
  obtain rfl : v = s := by simpa using h1
  exact h2
theorem ml1' (h : d.Ml S H v xs) : d.ml.R S H xs [v] := ⟨v, rfl, h⟩
theorem mlform (h : d.ml.R S H xs cs) : ∃ a c, cs = [.slice a xs.length c] := by
  obtain ⟨s, rfl, h2⟩ := h
  obtain ⟨a, c, rfl⟩ := h2.form
  exact ⟨a, c, rfl⟩
theorem slform (h : d.sl.R S H xs cs) : ∃ a c, cs = [.slice a xs.length c] := by
  obtain ⟨s, rfl, h2⟩ := h
  obtain ⟨a, c, rfl⟩ := h2.form
  exact ⟨a, c, rfl⟩
theorem prR {a : Kn α} {b : Kn β} (h : a.R S H x cs) (k : b.R S H y ds) : (Kn.pair a b).R S H (x, y) (cs ++ ds) := ⟨cs, ds, rfl, h, k⟩
theorem mpR {a : Kn α} {b : Kn β} (h : a.R X H x cs) (k : b.R Y H y ds) (hX : ∀ id, X id → Z id) (hY : ∀ id, Y id → Z id) (hd : ∀ id, X id → Y id → False) : (Kn.mp a b).R Z H (x, y) (cs ++ ds) := ⟨cs, ds, X, Y, rfl, hX, hY, hd, h, k⟩
theorem Good.keep {S0 : Ids} {H0 H2 : AH} {T : List Var} {n : Nat} (g : Good S0 H0 T n H2) [o : On X H S0 H0] (h : d.R X H x cs) : d.R X H2 x cs :=
  d.same (fun id hid => ((g.froz id (o.st id hid).1).2).trans (o.st id hid).2) h
theorem Good.inn {S0 : Ids} {H0 H2 : AH} {T : List Var} {n lo : Nat} (g : Good S0 H0 T n H2) [o : On X H S0 H0] (hX : ∀ id, X id → lo ≤ id) : ∀ id, X id → New lo H2.n id := fun id hid => ⟨hX id hid, by have := (g.froz id (o.st id hid).1).1; have := g.n_; omega⟩
end
/-- A fact on memory with what it rests on. -/
structure Fk {α : Type} (d : Kn α) (X S : Ids) (H : AH) (x : α) (cs : List Value) : Prop where
  r : d.R X H x cs
  i : ∀ id, X id → S id
section
variable {α : Type} {d : Kn α} {X X' S S' W : Ids} {H H1 : AH} {x : α} {cs : List Value}
theorem Fk.up [o : On S H S' H1] (h : Fk d X S H x cs) : Fk d X S' H1 x cs := ⟨d.same (fun id hid => (o.st id (h.i id hid)).2) h.r, fun id hid => (o.st id (h.i id hid)).1⟩
theorem Fk.all [o : On S H S' H1] (h : Fk d X S H x cs) : d.R S' H1 x cs := d.more (fun id hid => (o.st id (h.i id hid)).1) (d.same (fun id hid => (o.st id (h.i id hid)).2) h.r)
theorem Fk.w (h : Fk d X S H x cs) (t : StW W S H S' H1) (hd : ∀ id, X id → W id → False) : Fk d X S' H1 x cs := ⟨d.same (fun id hid => (t id (h.i id hid)).2 (hd id hid)) h.r, fun id hid => (t id (h.i id hid)).1⟩
theorem Fk.mk' (h : d.R X H x cs) (k : d.R X H x cs → d.R X' H x cs) (hi : ∀ id, X' id → S id) : Fk d X' S H x cs := ⟨k h, hi⟩
theorem Fk.on [o : On X H S H1] (h : d.R X H x cs) : Fk d X S H1 x cs := ⟨d.same (fun id hid => (o.st id hid).2) h, fun id hid => (o.st id hid).1⟩
theorem Fk.st (h : Fk d X S H x cs) : d.R S H x cs := d.more h.i h.r
theorem Fk.le {d' : Kn α} (k : KLe d d') (h : Fk d X S H x cs) : Fk d' X S H x cs := ⟨k.2 _ _ _ _ h.r, h.i⟩
end
/-- Marks, row by row. -/
def mks {α : Type} (mk : Int → α → α) (sz : α → Nat) (k : Int) : List α → List α
  | [] => []
  | x :: l => mk k x :: mks mk sz (k + sz x) l
theorem mks_len {α : Type} (mk : Int → α → α) (sz : α → Nat) (k : Int) (l : List α) : (mks mk sz k l).length = l.length := by
  induction l generalizing k with
  | nil => rfl
  | cons n l ih => simp [mks, ih]
theorem mks_at {α : Type} {mk : Int → α → α} {sz : α → Nat} {l : List α} {i : Nat} {x : α} (k : Int) (h : l[i]? = some x) : (mks mk sz k l)[i]? = some (mk (k + sum ((l.map sz).take i)) x) := by
  induction l generalizing i k with
  | nil => simp at h
  | cons m l ih =>
    cases i with
    | zero => cases h; simp [mks, sum]
    | succ i =>
      have h : l[i]? = some x := by simpa using h
      simp only [mks, List.getElem?_cons_succ, List.map_cons, List.take_succ_cons, sum]
      rw [ih (k + sz m) h]
      congr 2
      omega
abbrev K_Int64S : Kn (List Int) := KI.sl
abbrev M_Int64S : Kn (List Int) := KI.ml
abbrev B_Int64S (x : List Int) : Prop := x.length ≤ 1048576
abbrev W_Int64S (x : List Int) : Prop := x.length ≤ 9223372036854775807
abbrev sz_Int64S (x : List Int) : Nat := x.length
abbrev mk_Int64S (k : Int) (x : List Int) : List Int := cnt k x.length
abbrev K_Int64SS : Kn (List (List Int)) := KI.sl.sl
abbrev M_Int64SS : Kn (List (List Int)) := KI.ml.ml
abbrev B_Int64SS (x : List (List Int)) : Prop := Sml x
abbrev W_Int64SS (x : List (List Int)) : Prop := x.length ≤ 9223372036854775807 ∧ ∀ y ∈ x, y.length ≤ 9223372036854775807
abbrev sz_Int64SS (x : List (List Int)) : Nat := sum (lens x)
abbrev mk_Int64SS (k : Int) (x : List (List Int)) : List (List Int) := mks mk_Int64S sz_Int64S k x
theorem cnts_mks (k : Int) (l : List (List Int)) : cnts k (lens l) = mks mk_Int64S sz_Int64S k l := by
  induction l generalizing k with
  | nil => rfl
  | cons x l ih => simp only [lens, List.map_cons, cnts, mks] at ih ⊢; rw [ih]
theorem size_Int64S {x : List Int} (hB : B_Int64S x) : sz_Int64S x ≤ 1048576 := hB
theorem size_Int64SS {x : List (List Int)} (hB : B_Int64SS x) : sz_Int64SS x ≤ 1048576 := hB.tot
theorem le_Int64S : KLe M_Int64S K_Int64S := KLe.row (KLe.refl KI)
theorem le_Int64SS : KLe M_Int64SS K_Int64SS := KLe.row le_Int64S
section
variable {S : Ids} {H0 : AH} {W : Ids} {a a' : Option Addr} {c c' : Nat} {left k : Int}
theorem to_Int64S {x : List Int} (hB : B_Int64S x) (hs : K_Int64S.R S H0 x [.slice a x.length c]) : SpecM Try.prog S H0 153 [.slice a x.length c] (fun n v H1 => ∃ a c, v = .slice a x.length c ∧ M_Int64S.R (New n H1.n) H1 x [.slice a x.length c]) := fun H h1 h2 => by
  obtain ⟨m, v, H1, h3, h4, h5, a, c, h6, h7⟩ := toInt64S hB (sl1 hs) H h1 h2
  exact ⟨m, v, H1, h3, h4, h5, a, c, h6, ml1' h7⟩
theorem to_Int64SS {x : List (List Int)} (hB : B_Int64SS x) (hs : K_Int64SS.R S H0 x [.slice a x.length c]) : SpecM Try.prog S H0 79 [.slice a x.length c] (fun n v H1 => ∃ a c, v = .slice a x.length c ∧ M_Int64SS.R (New n H1.n) H1 x [.slice a x.length c]) := fun H h1 h2 => by
  obtain ⟨m, v, H1, h3, h4, h5, a, c, h6, h7⟩ := toInt64SS hB.len hB.each (sl1 hs) H h1 h2
  exact ⟨m, v, H1, h3, h4, h5, a, c, h6, ml1' h7⟩
theorem eq_Int64S {x : List Int} (hB : B_Int64S x) (hs : K_Int64S.R S H0 x [.slice a x.length c]) (hs' : K_Int64S.R S H0 x [.slice a' x.length c']) : Spec Try.prog S H0 17 [.slice a x.length c, .slice a' x.length c'] (fun v => v = .bool true) := eqInt64S1 hB (sl1 hs) (sl1 hs')
theorem eq_Int64SS {x : List (List Int)} (hB : B_Int64SS x) (hs : K_Int64SS.R S H0 x [.slice a x.length c]) (hs' : K_Int64SS.R S H0 x [.slice a' x.length c']) : Spec Try.prog S H0 28 [.slice a x.length c, .slice a' x.length c'] (fun v => v = .bool true) := eqInt64SS1 hB.len hB.each (sl1 hs) (sl1 hs')
theorem sz_Int64S' {x : List Int} (h0 : 0 ≤ left) (h1 : left ≤ 1048576) (hW : W_Int64S x) (hs : K_Int64S.R S H0 x [.slice a x.length c]) : Spec Try.prog S H0 150 [.slice a x.length c, .int .i64 left] (SzPost left (B_Int64S x)) := szInt64S h0 h1 hW
theorem sz_Int64SS' {x : List (List Int)} (h0 : 0 ≤ left) (h1 : left ≤ 1048576) (hW : W_Int64SS x) (hs : K_Int64SS.R S H0 x [.slice a x.length c]) : Spec Try.prog S H0 70 [.slice a x.length c, .int .i64 left] (SzPost left (B_Int64SS x)) := fun H h2 h3 => by
  obtain ⟨m, v, H1, h4, h5, h6, r, h7, h8⟩ := szInt64SS h0 h1 hW.1 hW.2 (sl1 hs) H h2 h3
  exact ⟨m, v, H1, h4, h5, h6, r, h7, h8.imp id (fun h => ⟨h.1, h.2.1, ⟨h.2.2.1, h.2.2.2⟩⟩)⟩
/-- Where marks may begin. -/
abbrev Mk (k : Int) (z : Nat) : Prop := 0 ≤ k ∧ k + z ≤ 274877906944
theorem mark_Int64S {x : List Int} (hB : B_Int64S x) (hk : Mk k (sz_Int64S x)) (hW : ∀ id, W id → S id) (hs : M_Int64S.R W H0 x [.slice a x.length c]) : SpecW Try.prog S H0 W 22 [.slice a x.length c, .int .i64 k] (fun n v H1 => v = .int .i64 (k + sz_Int64S x) ∧ M_Int64S.R W H1 (mk_Int64S k x) [.slice a x.length c]) := fun H h1 h2 => by
  obtain ⟨m, v, H1, h3, h4, h5, h6, h7, h8⟩ := markInt64S (by show x.length ≤ _; have : x.length ≤ 1048576 := hB; omega) ⟨hk.1, by have := hk.2; omega⟩ hW (ml1 hs) H h1 h2
  exact ⟨m, v, H1, h3, h4, h5, h6, h7, ml1' h8⟩
theorem mark_Int64SS {x : List (List Int)} (hB : B_Int64SS x) (hk : Mk k (sz_Int64SS x)) (hW : ∀ id, W id → S id) (hs : M_Int64SS.R W H0 x [.slice a x.length c]) : SpecW Try.prog S H0 W 29 [.slice a x.length c, .int .i64 k] (fun n v H1 => v = .int .i64 (k + sz_Int64SS x) ∧ M_Int64SS.R W H1 (mk_Int64SS k x) [.slice a x.length c]) := fun H h1 h2 => by
  obtain ⟨m, v, H1, h3, h4, h5, h6, h7, h8⟩ := markInt64SS (by have := hB.len; omega) (by have := hB.tot; omega) ⟨hk.1, by have := hk.2; omega⟩ hW (ml1 hs) H h1 h2
  exact ⟨m, v, H1, h3, h4, h5, h6, h7, ml1' (by rw [cnts_mks] at h8; exact h8)⟩
end
end Go.Proofs.Ytijmkfnmdhpakaa.Am
/- Rows in a list of one's own: one row is written, two change places. For every program. No condition beyond each theorem's own. -/
set_option linter.unusedSimpArgs false
set_option linter.unusedVariables false
namespace Go.Proofs.Ytijmkfnmdhpakaa.Am
open Go Go.RowKit Go.Proofs Go.Proofs.Ytijmkfnmdhpakaa.Pl
section
variable {S S' V : Ids} {A A' : AH} {rows : List (List Int)} {cs : List Value}
/-- One row: where it lies, that it may be written, and that the others lie elsewhere. -/
theorem RowsB.row1 (h : RowsB KI.ml S A V rows cs) {j : Nat} {x : List Int} (hx : rows[j]? = some x) :
    ∃ v W, cs[j]? = some v ∧ KI.Ml W A v x ∧ (∀ id, W id → V id) ∧ (∀ (k : Nat) y, k ≠ j → rows[k]? = some y → ∃ u X, cs[k]? = some u ∧ KI.Ml X A u y ∧ (∀ id, X id → V id ∧ ¬ W id)) ∧
      ∀ (S' : Ids) (A' : AH) x', StW W S A S' A' → KI.Ml W A' v x' → RowsB KI.ml S' A' V (rows.set j x') cs := by
  obtain ⟨W, h1, h2, h3⟩ := h.rows
  obtain ⟨v, h4, w, h5, h6⟩ := h3 j x hx
  obtain rfl : v = w := by simpa using h5
  refine ⟨v, W j, h4, h6, h1 j, fun k y hk hy => ?_, fun S' A' x' st hm => ⟨by rw [List.length_set]; exact h.len, fun id hid => (st id (h.sub id hid)).1, W, h1, h2, fun k y hy => ?_⟩⟩
  · obtain ⟨u, h7, w, h8, h9⟩ := h3 k y hy
    obtain rfl : u = w := by simpa using h8
    exact ⟨u, W k, h7, h9, fun id hid => ⟨h1 k id hid, fun hc => hk (h2 k j id hid hc)⟩⟩
  · rw [List.getElem?_set] at hy
    split at hy
    · rename_i e
      subst e
      split at hy
      · cases hy
        exact ⟨v, h4, v, rfl, hm⟩
      · cases hy
    · rename_i e
      obtain ⟨u, h7, h8⟩ := h3 k y hy
      exact ⟨u, h7, KI.ml.same (fun id hid => (st id (h.sub id (h1 k id hid))).2 (fun hc => e (h2 j k id hc hid))) h8⟩
/-- Two rows change places. -/
theorem RowsB.swap (h : RowsB KI.ml S A V rows cs) {n a : Nat} (hn : n < rows.length) (ha : a < rows.length) {v w : Value} (hv : cs[n]? = some v) (hw : cs[a]? = some w) : RowsB KI.ml S A V (sw rows n a) ((cs.set n w).set a v) := by
  obtain ⟨W, h1, h2, h3⟩ := h.rows
  have hl := h.len
  refine ⟨by simp [sw, hl], h.sub, fun j => if j = a then W n else if j = n then W a else W j, fun j id hid => ?_, fun i j id hi hj => ?_, fun j x hx => ?_⟩
  · simp only at hid
    split at hid
    · exact h1 _ _ hid
    · split at hid <;> exact h1 _ _ hid
  · simp only at hi hj
    split at hi <;> split at hj
    · omega
    · split at hj
      · have := h2 _ _ _ hi hj; omega
      · have := h2 _ _ _ hi hj; omega
    · split at hi
      · have := h2 _ _ _ hi hj; omega
      · have := h2 _ _ _ hi hj; omega
    · split at hi <;> split at hj
      · omega
      · have := h2 _ _ _ hi hj; omega
      · have := h2 _ _ _ hi hj; omega
      · exact h2 _ _ _ hi hj
  · have gn : rows[n]? = some (rows.getD n []) := by rw [List.getD_eq_getElem?_getD, List.getElem?_eq_getElem hn]; rfl
    have ga : rows[a]? = some (rows.getD a []) := by rw [List.getD_eq_getElem?_getD, List.getElem?_eq_getElem ha]; rfl
    obtain ⟨vn, n1, n2⟩ := h3 n _ gn
    obtain ⟨va, a1, a2⟩ := h3 a _ ga
    rw [hv] at n1; cases n1
    rw [hw] at a1; cases a1
    unfold sw at hx
    simp only
    rw [List.getElem?_set] at hx ⊢
    by_cases e : a = j
    · subst e
      rw [if_pos rfl, if_pos (by simp; exact ha)] at hx
      cases hx
      rw [if_pos rfl, if_pos (by simp; omega)]
      exact ⟨_, rfl, by simpa using n2⟩
    · rw [if_neg e] at hx ⊢
      rw [List.getElem?_set] at hx ⊢
      by_cases e2 : n = j
      · subst e2
        rw [if_pos rfl, if_pos hn] at hx
        cases hx
        rw [if_pos rfl, if_pos (by omega)]
        refine ⟨_, rfl, ?_⟩
        rw [if_neg (Ne.symm e), if_pos rfl]
        exact a2
      · rw [if_neg e2] at hx ⊢
        obtain ⟨u, h7, h8⟩ := h3 j x hx
        refine ⟨u, h7, ?_⟩
        rw [if_neg (Ne.symm e), if_neg (Ne.symm e2)]
        exact h8
end
section
variable {P : Program} {S : Ids} {H0 : AH} {k k1 : List It} {e e1 : Env} {T T1 : List Var} {n n1 : Nat} {l1 r1 : List Nat}
/-- The end of a writer that returns nothing. -/
theorem KW.endW {fn : Func} {H : AH} {W : Ids} {post : Value → AH → Prop} {vs : List Value} {a b : List Nat} (h : Go1 P k e T n (.done .normal) k1 e1 T1 n1 l1 r1) (hlr : l1 = r1) (hr : aresT P e1 T1 fn.results.toList = some (vs, a, b)) (hab : a = b)
    (hn : ∀ H1, Good S H0 T1 n1 H1 → H.n ≤ H1.n) (hS : ∀ id, id < H.n → ¬ W id → S id ∧ H0.m id = H.m id) (hp : ∀ H1, Good S H0 T1 n1 H1 → post (aout vs) H1) :
    KW P S H0 (Fin1 P fn (fun v H1 => H.n ≤ H1.n ∧ (∀ id, id < H.n → ¬ W id → H1.m id = H.m id) ∧ Fin' H1 ∧ post v H1)) n T k e := by
  refine KW.go h hlr (fun H1 g => ?_)
  have hv := aresT_ok (P := P) g _ hr hab
  simp only [Fin1, hv]
  exact ⟨hn H1 g, fun id hid hw => by rw [(g.froz id (hS id hid hw).1).2, (hS id hid hw).2], g.fin, hp H1 g⟩
/-- .. of a function that returns nothing. -/
theorem KW.endM {fn : Func} {H : AH} {post : Value → AH → Prop} {vs : List Value} {a b : List Nat} (h : Go1 P k e T n (.done .normal) k1 e1 T1 n1 l1 r1) (hlr : l1 = r1) (hr : aresT P e1 T1 fn.results.toList = some (vs, a, b)) (hab : a = b) (hS : ∀ id, id < H.n → S id ∧ H0.m id = H.m id)
    (hp : ∀ H1, Good S H0 T1 n1 H1 → post (aout vs) H1) :
    KW P S H0 (Fin1 P fn (fun v H1 => Ext H H1 ∧ Fin' H1 ∧ post v H1)) n T k e := by
  refine KW.go h hlr (fun H1 g => ?_)
  have hv := aresT_ok (P := P) g _ hr hab
  have hn := g.n_
  have hx : Ext H H1 := by
    refine ⟨?_, fun id hid => by rw [(g.froz id (hS id hid).1).2, (hS id hid).2]⟩
    rcases Nat.eq_zero_or_pos H.n with h | h
    · omega
    · have := (g.froz (H.n - 1) (hS _ (by omega)).1).1
      omega
  simp only [Fin1, hv]
  exact ⟨hx, g.fin, hp H1 g⟩
end
/-- The state of a loop that makes rows. -/
structure RwS where
  i : Nat
  S : Ids
  A : AH
  V : Ids
  cs : List Value
  o : Nat
structure RwI {α : Type} (f : α → List Int) (xs : List α) (H : AH) (SB : Ids) (HB : AH) (s : RwS) : Prop where
  le : s.i ≤ xs.length
  old : St SB HB s.S s.A
  b : RowsB KI.ml s.S s.A s.V ((xs.take s.i).map f) s.cs
  v : ∀ id, s.V id → H.n ≤ id
theorem RwI.start {α : Type} {f : α → List Int} {xs : List α} {H HB : AH} {SB : Ids} {o : Nat} : RwI f xs H SB HB ⟨0, SB, HB, fun _ => False, [], o⟩ := ⟨Nat.zero_le _, fun id hid => ⟨hid, rfl⟩, RowsB.nil _ _, fun _ h => h.elim⟩
theorem RwI.next {α : Type} {f : α → List Int} {xs : List α} {H HB HC : AH} {SB SC : Ids} {s : RwS} {n1 o' : Nat} {y : α} {v : Value} (h : RwI f xs H SB HB s) (t : St s.S s.A SC HC) (w : On (New n1 HC.n) HC SC HC) (low : ∀ id, s.S id → id < n1) (hn : H.n ≤ n1) (hy : xs[s.i]? = some y) (hc : KI.Ml (New n1 HC.n) HC v (f y)) : RwI f xs H SB HB ⟨s.i + 1, SC, HC, fun id => s.V id ∨ New n1 HC.n id, s.cs ++ [v], o'⟩ := by
  obtain ⟨hil, rfl⟩ := List.getElem?_eq_some_iff.1 hy
  haveI o1 : On s.S s.A SC HC := ⟨t⟩
  refine ⟨by simp only; omega, h.old.trans t, ?_, fun id hid => hid.elim (h.v id) (fun p => by have := p.1; omega)⟩
  simp only
  rw [List.take_succ_eq_append_getElem hil, List.map_append]
  exact (h.b.up (S' := SC) (A' := HC)).snoc (ml1' hc) (fun id hid => (w.st id hid).1) (fun id p q => by have := low id (h.b.sub id p); have := q.1; omega)
theorem RwI.ml {α : Type} {f : α → List Int} {xs : List α} {H HB H1 : AH} {SB : Ids} {s : RwS} {T : List Var} {n j : Nat} {ty : TypeId} (h : RwI f xs H SB HB s) (he : s.i = xs.length) (g : Good s.S s.A T n H1) (hT : T[j]? = some (s.o, ⟨ty, true, s.cs⟩)) (ho : H.n ≤ s.o) : KI.ml.Ml (New H.n H1.n) H1 (.slice (some ⟨s.o, 0, some 1⟩) xs.length xs.length) (xs.map f) := by
  have hb := h.b
  rw [he, List.take_of_length_le (Nat.le_refl _)] at hb
  have := hb.ml rfl g hT (X := New H.n H1.n) ⟨ho, (g.blk hT).2⟩ (fun id hid => ⟨h.v id hid, by have := (g.froz id (hb.sub id hid)).1; have := g.n_; omega⟩)
  simpa using this
section
variable {P : Program} {S : Ids} {H0 : AH} {Q : PostC} {k k1 : List It} {e e1 : Env} {T T1 : List Var} {n n1 : Nat} {l1 r1 : List Nat} {d1 : Tmp}
/-- x[:m]. -/
theorem KW.slTo {o : Oper} {dr : Bool} {t el : TypeId} {x y : Operand} {inf : TypeInfo} {id es len c m : Nat} (h : Go1 P k e T n (.op o dr) k1 e1 T1 n1 l1 r1) (hlr : l1 = r1) (ho : o.op = .slice t x none (some y) none) (hd : o.dst = some d1) (hx : ev e1 x = .slice (some ⟨id, 0, some es⟩) len c) (hy : ev e1 y = .int .i64 (m : Nat))
    (hu : P.underlying t = some (.slice el)) (hi : P.info? el = some inf) (he : inf.size = es) (hm : m ≤ c) (hk : KW P S H0 Q n1 T1 k1 (put1 e1 d1 (.slice (some ⟨id, 0, some es⟩) m c))) : KW P S H0 Q n T k e := by
  refine KW.pure h hlr ho hd rfl _ ?_ hk
  simp only [pop, acut, hu, hx, hi, Option.map, hy, bHi, bLo, abound]
  rw [if_pos ⟨by omega, by omega⟩]
  simp [he]
end
theorem RowsB.mlTo {S V X : Ids} {A H2 : AH} {rows : List (List Int)} {cs : List Value} {T : List Var} {n j o : Nat} {ty : TypeId} {m c : Nat} (h : RowsB KI.ml S A V rows cs) (g : Good S A T n H2) (hT : T[j]? = some (o, ⟨ty, true, cs⟩)) (hX : X o) (hV : ∀ id, V id → X id) (hm : m ≤ rows.length) (hc : m ≤ c) : KI.ml.Ml X H2 (.slice (some ⟨o, 0, some 1⟩) m c) (rows.take m) := by
  obtain ⟨W, h1, h2, h3⟩ := h.rows
  have hb := g.blk hT
  have hno := (g.vars j _ hT).2.2
  have hl := h.len
  have el : (rows.take m).length = m := by rw [List.length_take]; omega
  refine .inr ⟨o, c, _, W, by rw [el]; rfl, by rw [el]; exact hc, hX, hb.1, rfl, by rw [el]; show m * 1 ≤ cs.length; omega, fun i id hid => ⟨hV id (h1 i id hid), fun e => hno (e ▸ h.sub id (h1 i id hid))⟩, h2, fun i x hx => ?_⟩
  have hx' : rows[i]? = some x := by
    rw [List.getElem?_take] at hx
    split at hx
    · exact hx
    · cases hx
  obtain ⟨v, h4, h5⟩ := h3 i x hx'
  have e : ((cs.drop (0 + i * 1)).take 1) = [v] := by
    rw [Nat.zero_add, Nat.mul_one, List.take_one, List.head?_drop, h4]; rfl
  show KI.ml.R (W i) H2 x ((cs.drop (0 + i * 1)).take 1)
  rw [e]
  exact KI.ml.same (fun id hid => (g.froz id (h.sub id (h1 i id hid))).2) h5
end Go.Proofs.Ytijmkfnmdhpakaa.Am
/- A variable of one's own becomes frozen; rows that are made in place join a list of rows. For every program. No condition beyond each theorem's own. -/
set_option linter.unusedSimpArgs false
set_option linter.unusedVariables false
namespace Go.Proofs.Ytijmkfnmdhpakaa.Am
open Go Go.RowKit
/-- The variable j and those behind it are given up; what stands in j is frozen. -/
theorem KW.freeze {P : Program} {S : Ids} {H0 : AH} {Q : PostC} {k : List It} {e : Env} {T : List Var} {n : Nat} (j : Nat) {o : Nat} {b : Blk} (hj : T[j]? = some (o, b))
    (hk : ∀ (A' : AH) (S' : Ids), A'.n = n → (∀ id, S' id ↔ S id ∨ id = o) → Stp S H0 S' A' → A'.m o = some b → o < n → ¬ S o → (∀ id, S id → id < n) → KW P S' A' Q n (T.take j) k e) : KW P S H0 Q n T k e := fun H g => by
  have hv := g.vars j _ hj
  have get : ∀ {i : Nat} {u : Var}, (T.take j)[i]? = some u → i < j ∧ T[i]? = some u := fun {i u} hi => by
    rw [List.getElem?_take] at hi
    split at hi
    · exact ⟨by assumption, hi⟩
    · cases hi
  refine hk H (fun id => S id ∨ id = o) g.n_ (fun id => Iff.rfl) ⟨fun id hid => ⟨.inl hid, (g.froz id hid).2⟩⟩ hv.1 hv.2.1 hv.2.2 (fun id hid => (g.froz id hid).1) H ?_
  refine ⟨g.n_, g.fin, fun id hid => ⟨?_, rfl⟩, fun i u hi => ?_, fun i1 i2 u w h1 h2 he => g.dist i1 i2 u w (get h1).2 (get h2).2 he⟩
  · rcases hid with hid | rfl
    · exact (g.froz id hid).1
    · exact hv.2.1
  · obtain ⟨h1, h2⟩ := get hi
    have h3 := g.vars i u h2
    refine ⟨h3.1, h3.2.1, fun h => ?_⟩
    rcases h with h | h
    · exact h3.2.2 h
    · have := g.dist i j u _ h2 hj h; omega
theorem RwI.nextX {α : Type} {f : α → List Int} {xs : List α} {H HB HC : AH} {SB SC X : Ids} {s : RwS} {o' : Nat} {y : α} {v : Value} (h : RwI f xs H SB HB s) (t : St s.S s.A SC HC) (hX : ∀ id, X id → SC id ∧ H.n ≤ id ∧ ¬ s.S id) (hy : xs[s.i]? = some y) (hc : KI.Ml X HC v (f y)) : RwI f xs H SB HB ⟨s.i + 1, SC, HC, fun id => s.V id ∨ X id, s.cs ++ [v], o'⟩ := by
  obtain ⟨hil, rfl⟩ := List.getElem?_eq_some_iff.1 hy
  haveI o1 : On s.S s.A SC HC := ⟨t⟩
  refine ⟨by simp only; omega, h.old.trans t, ?_, fun id hid => hid.elim (h.v id) (fun p => (hX id p).2.1)⟩
  simp only
  rw [List.take_succ_eq_append_getElem hil, List.map_append]
  exact (h.b.up (S' := SC) (A' := HC)).snoc (ml1' hc) (fun id hid => (hX id hid).1) (fun id p q => (hX id q).2.2 (h.b.sub id p))
/-- A row that has been frozen. -/
theorem row_ml {A : AH} {o : Nat} {ty : TypeId} {xs : List Int} (h : A.m o = some ⟨ty, true, xs.map (Value.int .i64)⟩) : KI.Ml (fun id => id = o) A (.slice (some ⟨o, 0, some 1⟩) xs.length xs.length) xs := int_ml rfl h rfl rfl (Nat.le_refl _)
end Go.Proofs.Ytijmkfnmdhpakaa.Am
/- Slices of elements of several cells: making, storing, and what stands in them. For every program. No condition beyond each theorem's own. -/
set_option linter.unusedSimpArgs false
set_option linter.unusedVariables false
namespace Go.Proofs.Ytijmkfnmdhpakaa.Am
open Go Go.RowKit
section
variable {P : Program} {S : Ids} {H0 : AH} {Q : PostC} {k k1 : List It} {e e1 : Env} {T T1 : List Var} {n n1 : Nat} {l1 r1 : List Nat} {d1 : Tmp}
/-- A slice is made, of elements of any size. -/
theorem KW.mkS {o : Oper} {dr : Bool} {t el : TypeId} {l c : Operand} {inf : TypeInfo} {z : Value} {kk kk' : IntKind} {i i' : Int} (h : Go1 P k e T n (.op o dr) k1 e1 T1 n1 l1 r1) (hlr : l1 = r1) (ho : o.op = .makeSlice t l c) (hd : o.dst = some d1)
    (hu : P.underlying t = some (.slice el)) (hi : P.info? el = some inf) (hz : inf.zero = some z) (hzo : zeroOkL P el = true) (hl : ev e1 l = .int kk i) (hc : ev e1 c = .int kk' i') (m : Nat) (hi1 : i = m) (hi2 : i' = m) (hm : m ≤ 9223372036854775807) (hb : inf.bytes * m ≤ 281474976710656)
    (hk : KW P S H0 Q (n1 + 1) (T1 ++ [(n1, ⟨el, true, (zarr z (m * inf.size)).toList⟩)]) k1 (put1 e1 d1 (.slice (some ⟨n1, 0, some inf.size⟩) m m))) : KW P S H0 Q n T k e := by
  refine KW.go h hlr (KEvt.heap (c := ⟨_, _, _, _, _, _⟩) _ _ _ (by rw [ho]; exact .inl rfl) (fun H g => ⟨none, _, ?_, g.push _⟩) (by rw [hd, put1_eq]; exact hk))
  subst hi1 hi2
  rw [ho]
  simp only [hop, hl, hc, amake, hu, hi, hz]
  rw [if_pos ⟨zeroOkL_ok hzo, trivial, by omega, by omega, by rw [← Int.natCast_mul]; omega⟩]
  simp only [Int.toNat_natCast, g.n_]
/-- A value is stored to a variable's block, be it of several cells. -/
theorem KW.stB {o : Oper} {dr : Bool} {t : TypeId} {x y : Operand} {id kk : Nat} {sp : Option Nat} {b b' : Blk} (j : Nat) (h : Go1 P k e T n (.op o dr) k1 e1 T1 n1 l1 r1) (hlr : l1 = r1) (ho : o.op = .store t x y) (hd : o.dst = none) (hx : ev e1 x = .pointer (some ⟨id, kk, sp⟩)) (hT : T1[j]? = some (id, b)) (hs : bstore P b t kk (ev e1 y) = some b')
    (hk : KW P S H0 Q n1 (T1.set j (id, b')) k1 e1) : KW P S H0 Q n T k e := by
  refine KW.go h hlr (KEvt.heap (c := ⟨_, _, _, _, _, _⟩) undef (T1.set j (id, b')) n1 (by rw [ho]; exact .inr rfl) (fun H g => ⟨none, H.set id b', ?_, g.set hT _⟩) (by rw [hd]; exact hk))
  rw [ho]
  simp only [hop, hx, bstore_ok (g.blk hT).1 hs]
end
end Go.Proofs.Ytijmkfnmdhpakaa.Am
/- What stands in a block of elements of several cells that is filled from left to right. For every program. No condition beyond each theorem's own. -/
set_option linter.unusedSimpArgs false
set_option linter.unusedVariables false
namespace Go.Proofs.Ytijmkfnmdhpakaa.Am
open Go Go.RowKit
structure RowsK {α : Type} (d : Kn α) (S : Ids) (A : AH) (V : Ids) (rows : List α) (cells : List Value) : Prop where
  len : rows.length * d.es ≤ cells.length
  sub : ∀ id, V id → S id
  rows : ∃ W : Nat → Ids, (∀ j id, W j id → V id) ∧ (∀ i j id, W i id → W j id → i = j) ∧ ∀ (j : Nat) x, rows[j]? = some x → d.R (W j) A x ((cells.drop (j * d.es)).take d.es)
section
variable {α : Type} {d : Kn α} {S S' V : Ids} {A A' : AH} {rows : List α} {cells : List Value}
theorem RowsK.nil (S : Ids) (A : AH) (cells : List Value) : RowsK d S A (fun _ => False) [] cells := ⟨by simp, fun _ h => h.elim, fun _ _ => False, fun _ _ h => h.elim, fun _ _ _ h => h.elim, fun j x h => by simp at h⟩
theorem RowsK.mv (h : RowsK d S A V rows cells) (t : ∀ i, V i → S' i ∧ A'.m i = A.m i) : RowsK d S' A' V rows cells := by
  obtain ⟨W, h1, h2, h3⟩ := h.rows
  exact ⟨h.len, fun i hi => (t i hi).1, W, h1, h2, fun j x hx => d.same (fun id hid => (t id (h1 j id hid)).2) (h3 j x hx)⟩
theorem splice_part {l ys : List Value} {k q n : Nat} (hk : k + ys.length ≤ l.length) (hq : q + n ≤ k ∨ (q = k ∧ n = ys.length)) : ((splice l k ys).drop q).take n = if q + n ≤ k ∧ ¬ (q = k ∧ n = ys.length) then (l.drop q).take n else ys := by
  refine List.ext_getElem? fun j => ?_
  rw [List.getElem?_take]
  by_cases hj : j < n
  · rw [if_pos hj, List.getElem?_drop, splice_get l k ys hk]
    rcases hq with hq | ⟨e1, e2⟩
    · have h1 : q + j < k := by omega
      rw [if_pos h1]
      split
      · rw [List.getElem?_take, if_pos hj, List.getElem?_drop]
      · rename_i h2
        omega
    · subst e1
      rw [if_neg (by omega), if_pos (by omega), if_neg (fun h => h.2 ⟨rfl, e2⟩), show q + j - q = j by omega]
  · rw [if_neg hj]
    split
    · rw [List.getElem?_take, if_neg hj]
    · rename_i h2
      rcases hq with hq | ⟨e1, e2⟩
      · by_cases h3 : q = k ∧ n = ys.length
        · rw [List.getElem?_eq_none (by omega)]
        · exact (h2 ⟨hq, h3⟩).elim
      · rw [List.getElem?_eq_none (by omega)]
theorem RowsK.snoc {X : Ids} {x : α} {cs : List Value} (h : RowsK d S A V rows cells) (hx : d.R X A x cs) (hS : ∀ id, X id → S id) (hd : ∀ id, V id → X id → False) (hl : (rows.length + 1) * d.es ≤ cells.length) : RowsK d S A (fun id => V id ∨ X id) (rows ++ [x]) (splice cells (rows.length * d.es) cs) := by
  obtain ⟨W, h1, h2, h3⟩ := h.rows
  have hcs := d.len hx
  have hk : rows.length * d.es + cs.length ≤ cells.length := by rw [hcs, ← Nat.succ_mul]; exact hl
  refine ⟨by rw [splice_length _ _ _ hk, List.length_append, List.length_singleton]; exact hl, fun id hid => hid.elim (h.sub id) (hS id), fun j id => if j = rows.length then X id else W j id, fun j id hid => ?_, fun i j id hi hj => ?_, fun j y hy => ?_⟩
  · simp only at hid
    split at hid
    · exact .inr hid
    · exact .inl (h1 j id hid)
  · simp only at hi hj
    split at hi <;> split at hj
    · omega
    · exact (hd id (h1 j id hj) hi).elim
    · exact (hd id (h1 i id hi) hj).elim
    · exact h2 i j id hi hj
  · by_cases e : j = rows.length
    · subst e
      rw [List.getElem?_append_right (Nat.le_refl _), Nat.sub_self] at hy
      cases hy
      rw [splice_part hk (.inr ⟨rfl, hcs.symm⟩), if_neg (fun h => h.2 ⟨rfl, hcs.symm⟩)]
      exact d.more (fun id hid => by show (if rows.length = rows.length then X id else W rows.length id); rw [if_pos rfl]; exact hid) hx
    · have hj : j < rows.length := by
        have := (List.getElem?_eq_some_iff.1 hy).1
        simp at this
        omega
      rw [List.getElem?_append_left hj] at hy
      have hle : j * d.es + d.es ≤ rows.length * d.es := by rw [← Nat.succ_mul]; exact Nat.mul_le_mul_right _ hj
      have hR := h3 j y hy
      have e2 : ((splice cells (rows.length * d.es) cs).drop (j * d.es)).take d.es = (cells.drop (j * d.es)).take d.es := by
        rw [splice_part hk (.inl hle)]
        split
        · rfl
        · rename_i h4
          have h5 : cs.length = 0 := by
            refine Classical.byContradiction fun hne => h4 ⟨hle, fun h6 => hne ?_⟩
            omega
          have h6 : d.es = 0 := by omega
          rw [List.eq_nil_of_length_eq_zero h5, h6]
          simp
      rw [e2]
      exact d.more (fun id hid => by show (if j = rows.length then X id else W j id); rw [if_neg e]; exact hid) hR
theorem RowsK.ml {T : List Var} {n i o c : Nat} {ty : TypeId} {H2 : AH} {X : Ids} (h : RowsK d S A V rows cells) (g : Good S A T n H2) (hT : T[i]? = some (o, ⟨ty, true, cells⟩)) (hX : X o) (hV : ∀ id, V id → X id) (hc : rows.length ≤ c) : d.Ml X H2 (.slice (some ⟨o, 0, some d.es⟩) rows.length c) rows := by
  obtain ⟨W, h1, h2, h3⟩ := h.rows
  have hv := g.vars i _ hT
  refine .inr ⟨o, c, _, W, rfl, hc, hX, hv.1, rfl, h.len, fun j id hid => ⟨hV id (h1 j id hid), fun e => hv.2.2 (e ▸ h.sub id (h1 j id hid))⟩, h2, fun j x hx => ?_⟩
  rw [Nat.zero_add]
  exact d.same (fun id hid => (g.froz id (h.sub id (h1 j id hid))).2) (h3 j x hx)
end
end Go.Proofs.Ytijmkfnmdhpakaa.Am
/- What has been held, at rows of numbers. Each holds under its own conditions. -/
set_option linter.unusedVariables false
set_option maxRecDepth 20000
namespace Go.Proofs.Ytijmkfnmdhpakaa.Am
open Go Go.RowKit Go.Proofs
section
variable {S : Ids} {H0 : AH} {W : Ids} {a a' : Option Addr} {c c' : Nat} {left k : Int}
theorem held_Int64S {x : List Int} (hB : B_Int64S x) (hk : Mk k (sz_Int64S x)) (hs : K_Int64S.R S H0 (mk_Int64S k x) [.slice a (mk_Int64S k x).length c]) : Spec Try.prog S H0 23 [.slice a (mk_Int64S k x).length c, .int .i64 k] (fun v => v = .int .i64 (k + sz_Int64S x)) := heldInt64S (by show x.length ≤ _; have : x.length ≤ 1048576 := hB; omega) ⟨hk.1, by have := hk.2; omega⟩ (sl1 hs)
theorem held_Int64SS {x : List (List Int)} (hB : B_Int64SS x) (hk : Mk k (sz_Int64SS x)) (hs : K_Int64SS.R S H0 (mk_Int64SS k x) [.slice a (mk_Int64SS k x).length c]) : Spec Try.prog S H0 30 [.slice a (mk_Int64SS k x).length c, .int .i64 k] (fun v => v = .int .i64 (k + sz_Int64SS x)) := by
  have hs := sl1 hs
  have hn : (mk_Int64SS k x).length = x.length := mks_len _ _ _ _
  have hxl : x.length ≤ 1048576 := hB.len
  refine Spec.of1 Try.func30 rfl (by kernel_rfl) rfl (fun H _ => ?_)
  refine KW.lp rfl rfl (fun i : Nat => [(0, .slice a (mk_Int64SS k x).length c), (1, .int .i64 (k + sum ((x.map sz_Int64S).take i))), (5, .int .i64 i)]) (fun i => i ≤ x.length) (fun i => x.length - i) (0) (by omega) ⟨rfl, congrArg (Value.int .i64) (by simp [sum]), rfl, trivial⟩ (fun i hi bE n => ?_)
  have hsl := sum_le (l := x.map sz_Int64S) i
  have hk1 := hk.1
  have hk2 : k + (sum (x.map sz_Int64S) : Nat) ≤ 274877906944 := hk.2
  refine KW.cnd rfl rfl (fun h => ?_) (fun h => ?_)
  · refine KW.getL hs.up rfl rfl rfl rfl rfl rfl rfl rfl rfl rfl rfl rfl rfl rfl rfl rfl (by omega) (by omega) (fun y a' m hy hsy => ?_)
    have hy : (mk_Int64SS k x)[i]? = some y := hy
    obtain ⟨z, hz⟩ : ∃ z, x[i]? = some z := ⟨x[i]'(by omega), List.getElem?_eq_getElem (by omega)⟩
    rw [mks_at k hz] at hy
    cases hy
    have hzl : (x.map sz_Int64S)[i]? = some (sz_Int64S z) := by simp [hz]
    have hsum := sum_take hzl
    have hsl1 := sum_le (l := x.map sz_Int64S) (i + 1)
    refine KW.callE rfl rfl rfl rfl rfl (held_Int64S (hB.each z (List.mem_of_getElem? hz)) (by constructor <;> omega) (sl1' hsy)) (fun _ _ => ?_)
    refine KW.no rfl rfl (by omega) ?_
    refine KW.nxt rfl rfl (fun H' g => ⟨i + 1, by omega, by first | omega | (simp only; omega), ⟨rfl, congrArg (Value.int .i64) (by rw [hsum]; omega), congrArg (Value.int .i64) (inc64 (by omega)), trivial⟩, g⟩)
  · refine KW.ret rfl rfl rfl rfl (congrArg (Value.int .i64) ?_)
    obtain rfl : i = x.length := by omega
    rw [List.take_of_length_le (by simp)]
theorem held_Int64S' {x : List Int} (hB : B_Int64S x) (hk : Mk k (sz_Int64S x)) (hs : K_Int64S.R S H0 (mk_Int64S k x) [.slice a x.length c]) : Spec Try.prog S H0 23 [.slice a x.length c, .int .i64 k] (fun v => v = .int .i64 (k + sz_Int64S x)) := by
  have e : (mk_Int64S k x).length = x.length := cnt_len _ _
  rw [← e] at hs ⊢
  exact held_Int64S hB hk hs
theorem held_Int64SS' {x : List (List Int)} (hB : B_Int64SS x) (hk : Mk k (sz_Int64SS x)) (hs : K_Int64SS.R S H0 (mk_Int64SS k x) [.slice a x.length c]) : Spec Try.prog S H0 30 [.slice a x.length c, .int .i64 k] (fun v => v = .int .i64 (k + sz_Int64SS x)) := by
  have e : (mk_Int64SS k x).length = x.length := mks_len _ _ _ _
  rw [← e] at hs ⊢
  exact held_Int64SS hB hk hs
end
end Go.Proofs.Ytijmkfnmdhpakaa.Am
/- Elements of several cells in a block: runs of cells, a struct stored, marks row by row. For every program. No condition beyond each theorem's own. -/
set_option linter.unusedSimpArgs false
set_option linter.unusedVariables false
namespace Go.Proofs.Ytijmkfnmdhpakaa.Am
open Go Go.RowKit
theorem seg_of {l cs : List Value} {k n : Nat} (hn : cs.length = n) (h : ∀ (q : Nat) v, cs[q]? = some v → l[k + q]? = some v) : (l.drop k).take n = cs := by
  refine List.ext_getElem? fun q => ?_
  rw [List.getElem?_take]
  rcases Nat.lt_or_ge q n with hq | hq
  · rw [if_pos hq, List.getElem?_drop]
    have e : cs[q]? = some (cs[q]'(by omega)) := List.getElem?_eq_getElem (by omega)
    rw [h q _ e, e]
  · rw [if_neg (by omega), List.getElem?_eq_none (by omega)]
theorem seg_at {l cs : List Value} {k n q : Nat} {v : Value} (h : (l.drop k).take n = cs) (hq : cs[q]? = some v) : l[k + q]? = some v := by
  rw [← h, List.getElem?_take] at hq
  split at hq
  · rwa [List.getElem?_drop] at hq
  · cases hq
theorem seg_set {l : List Value} {k n p : Nat} {v : Value} (h : p < k ∨ k + n ≤ p) : ((l.set p v).drop k).take n = (l.drop k).take n := by
  refine List.ext_getElem? fun q => ?_
  rw [List.getElem?_take, List.getElem?_take]
  split
  · rw [List.getElem?_drop, List.getElem?_drop, List.getElem?_set_ne (by omega)]
  · rfl
theorem set_ne {l : List Value} {p q : Nat} {u v : Value} (h : l[q]? = some v) (hne : p ≠ q) : (l.set p u)[q]? = some v := by rw [List.getElem?_set_ne hne]; exact h
theorem set_eq {l : List Value} {p q : Nat} {u v : Value} (h : l[q]? = some v) (e : p = q) : (l.set p u)[q]? = some u := by
  subst e
  rw [List.getElem?_set_self (List.getElem?_eq_some_iff.1 h).1]
theorem lt_of {l : List Value} {q : Nat} {v : Value} (h : l[q]? = some v) : q < l.length := (List.getElem?_eq_some_iff.1 h).1
theorem bstore_agg {P : Program} {b : Blk} {t : TypeId} {k : Nat} {cs : List Value} {i : TypeInfo} (hi : P.info? t = some i) (hs : i.size = cs.length) (hrw : b.rw = true) (hk : k + cs.length ≤ b.cells.length) (h1 : cs.all Value.oneCell' = true) : bstore P b t k (.agg cs.toArray) = some ⟨b.ty, true, splice b.cells k cs⟩ := by
  unfold bstore
  simp only [hi]
  rw [if_pos ⟨hrw, by show cs.toArray.size = i.size; simp [hs], by omega, h1⟩, hrw]
  rfl
/-- Marks have been put down to i rows. -/
structure MkRow {α : Type} (M : Kn α) (mk : Int → α → α) (sz : α → Nat) (x : List α) (k : Int) (Ws : Nat → Ids) (len : Nat) (i : Nat) (A : AH) (cs : List Value) : Prop where
  len : cs.length = len
  row : ∀ (j : Nat) y, x[j]? = some y → (i ≤ j → M.R (Ws j) A y ((cs.drop (0 + j * M.es)).take M.es)) ∧ (j < i → M.R (Ws j) A (mk (k + (Am.sum ((x.map sz).take j) : Nat)) y) ((cs.drop (0 + j * M.es)).take M.es))
theorem MkRow.next {α : Type} {M : Kn α} {mk : Int → α → α} {sz : α → Nat} {x : List α} {k : Int} {Ws : Nat → Ids} {len i : Nat} {A A' : AH} {cs cs' : List Value} (h : MkRow M mk sz x k Ws len i A cs) {y : α} (hy : x[i]? = some y) (hl : cs'.length = cs.length)
    (hseg : ∀ j, j ≠ i → (cs'.drop (0 + j * M.es)).take M.es = (cs.drop (0 + j * M.es)).take M.es) (hA : ∀ j, j ≠ i → ∀ id, Ws j id → A'.m id = A.m id) (hr : M.R (Ws i) A' (mk (k + (Am.sum ((x.map sz).take i) : Nat)) y) ((cs'.drop (0 + i * M.es)).take M.es)) : MkRow M mk sz x k Ws len (i + 1) A' cs' := by
  refine ⟨hl.trans h.len, fun j z hz => ?_⟩
  by_cases e : j = i
  · subst e
    rw [hy] at hz
    cases hz
    exact ⟨fun h => by omega, fun _ => hr⟩
  · rw [hseg j e]
    exact ⟨fun hj => M.same (hA j e) ((h.row j z hz).1 (by omega)), fun hj => M.same (hA j e) ((h.row j z hz).2 (by omega))⟩
section
variable {P : Program} {S : Ids} {H0 : AH} {W : Ids}
/-- The one way in which an empty list or one of one's own stands. -/
theorem mkrow_ml {α : Type} {M : Kn α} {mk : Int → α → α} {sz : α → Nat} {x : List α} {k : Int} {Ws : Nat → Ids} {len : Nat} {A H1 : AH} {cs : List Value} {o c : Nat} {ty : TypeId} (h : MkRow M mk sz x k Ws len x.length A cs) (hc : x.length ≤ c) (hle : x.length * M.es ≤ len) (ho : W o) (hm : H1.m o = some ⟨ty, true, cs⟩)
    (hw : ∀ i id, Ws i id → W id ∧ id ≠ o) (hd : ∀ i j id, Ws i id → Ws j id → i = j) (hA : ∀ j id, Ws j id → H1.m id = A.m id) : M.Ml W H1 (.slice (some ⟨o, 0, some M.es⟩) x.length c) (mks mk sz k x) := by
  have hl2 := mks_len mk sz k x
  refine .inr ⟨o, c, _, Ws, by rw [hl2], by rw [hl2]; exact hc, ho, hm, rfl, by rw [hl2, h.len]; exact hle, hw, hd, fun j z hx' => ?_⟩
  have hj : j < x.length := by have := (List.getElem?_eq_some_iff.1 hx').1; omega
  obtain ⟨y, hy⟩ : ∃ y, x[j]? = some y := ⟨x[j], List.getElem?_eq_getElem hj⟩
  rw [mks_at k hy] at hx'
  cases hx'
  exact M.same (hA j) ((h.row j y hy).2 hj)
end
/-- A block of elements that is filled, in a loop. -/
structure RkS where
  i : Nat
  S : Ids
  A : AH
  V : Ids
  cs : List Value
structure RkI {α : Type} (M : Kn α) (x : List α) (H : AH) (m : Nat) (s : RkS) : Prop where
  le : s.i ≤ x.length
  old : St (Low H.n) H s.S s.A
  r : RowsK M s.S s.A s.V (x.take s.i) s.cs
  len : s.cs.length = m
  v : ∀ id, s.V id → H.n < id
theorem RkI.start {α : Type} {M : Kn α} {x : List α} {H : AH} {cs : List Value} {m : Nat} (hl : cs.length = m) : RkI M x H m ⟨0, Low H.n, H, fun _ => False, cs⟩ :=
  ⟨Nat.zero_le _, fun id hid => ⟨hid, rfl⟩, RowsK.nil _ _ _, hl, fun _ h => h.elim⟩
theorem RkI.next {α : Type} {M : Kn α} {x : List α} {H H1 : AH} {s : RkS} {S' : Ids} {n m : Nat} (h : RkI M x H m s) (hm : m = x.length * M.es) (hn : H.n < n) (hlt : ∀ id, s.S id → id < n) (st : St s.S s.A S' H1) (hw : ∀ id, New n H1.n id → S' id) {y : α} {cs : List Value} (hy : x[s.i]? = some y) (hv : M.R (New n H1.n) H1 y cs) :
    RkI M x H m ⟨s.i + 1, S', H1, fun id => s.V id ∨ New n H1.n id, splice s.cs (0 + s.i * M.es) cs⟩ := by
  have hi := (List.getElem?_eq_some_iff.1 hy).1
  have hl := h.len
  have ht : (x.take s.i).length = s.i := by rw [List.length_take]; have := h.le; omega
  have hle : (s.i + 1) * M.es ≤ s.cs.length := by rw [hl, hm]; exact Nat.mul_le_mul_right _ hi
  have hs := (h.r.mv (S' := S') (A' := H1) (fun i hi => st i (h.r.sub i hi))).snoc hv hw (fun id p q => by have := hlt id (h.r.sub id p); have := q.1; omega) (by rw [ht]; exact hle)
  rw [ht] at hs
  rw [Nat.zero_add]
  refine ⟨by simp only; omega, h.old.trans st, ?_, ?_, fun id hid => hid.elim (h.v id) (fun q => by have := q.1; omega)⟩
  · simp only
    have e : x.take (s.i + 1) = x.take s.i ++ [y] := by rw [List.take_add_one, hy]; rfl
    rw [e]
    exact hs
  · simp only
    rw [splice_length _ _ _ (by rw [M.len hv]; rw [Nat.succ_mul] at hle; exact hle)]
    exact hl
theorem RkI.ml {α : Type} {M : Kn α} {x : List α} {H H1 : AH} {s : RkS} {n1 m : Nat} {ty : TypeId} {T : List Var} (h : RkI M x H m s) (he : s.i = x.length) (hT : T[0]? = some (H.n, ⟨ty, true, s.cs⟩)) (g : Good s.S s.A T n1 H1) :
    M.Ml (New H.n H1.n) H1 (.slice (some ⟨H.n, 0, some M.es⟩) x.length x.length) x := by
  have hb := g.blk hT
  have hr := h.r
  rw [he, List.take_of_length_le (Nat.le_refl _)] at hr
  have hn := g.n_
  exact hr.ml g hT ⟨Nat.le_refl _, hb.2⟩ (fun id hid => ⟨Nat.le_of_lt (h.v id hid), by have := (g.froz id (hr.sub id hid)).1; omega⟩) (Nat.le_refl _)
/-- A mark of a row, where it begins at a sum. -/
theorem mark_I {P : Program} {S : Ids} {H0 : AH} {W : Ids} {f : FuncId} {v : Value} {k k' : Int} {post : Nat → Value → AH → Prop} (e : k' = k) (h : SpecW P S H0 W f [v, .int .i64 k] post) : SpecW P S H0 W f [v, .int .i64 k'] post := by rw [e]; exact h
theorem spec_I {P : Program} {S : Ids} {H0 : AH} {f : FuncId} {v : Value} {k k' : Int} {post : Value → Prop} (e : k' = k) (h : Spec P S H0 f [v, .int .i64 k] post) : Spec P S H0 f [v, .int .i64 k'] post := by rw [e]; exact h
end Go.Proofs.Ytijmkfnmdhpakaa.Am
/- Contracts: whether a function value tells true of an element of a slice. Each holds under its own conditions. -/
set_option linter.unusedVariables false
set_option maxRecDepth 20000
namespace Go.Proofs.Ytijmkfnmdhpakaa.Am
open Go Go.RowKit Go.Proofs
section
variable {S : Ids} {H0 : AH}
/-- A function value that tells something of each number. -/
def TellsI (P : Program) (S : Ids) (H0 : AH) (xs : List Int) (g : FuncId) (cap : List Value) (p : Int → Bool) : Prop :=
  ∀ S' H', On S H0 S' H' → ∀ y ∈ xs, Spec P S' H' g (.int .i64 y :: cap) (fun v => v = .bool (p y))
theorem TellsI.up {P : Program} {S' : Ids} {H' : AH} {xs : List Int} {g : FuncId} {cap : List Value} {p : Int → Bool} [o : On S H0 S' H'] (h : TellsI P S H0 xs g cap p) : TellsI P S' H' xs g cap p := fun S2 H2 o2 => h S2 H2 ⟨o.st.trans o2.st⟩
theorem indexFuncI {a c} {xs : List Int} {g : FuncId} {id k : Nat} {sp : Option Nat} {p : Int → Bool} (hl : xs.length ≤ 4611686018427387904) (hs : KI.Sl S H0 (.slice a xs.length c) xs) (hp : TellsI Try.prog S H0 xs g [.pointer (some ⟨id, k, none⟩)] p) :
    Spec Try.prog S H0 223 [.slice a xs.length c, .func (.func g) #[] #[.pointer (some ⟨id, k, sp⟩)]] (fun v => ∃ r : Int, v = .int .i64 r ∧ (r ≥ 0 ↔ ∃ x ∈ xs, p x = true)) := by
  refine Spec.of1 Try.func223 rfl (by kernel_rfl) rfl (fun H _ => ?_)
  refine KW.lp rfl rfl (fun i : Nat => [(0, .slice a xs.length c), (1, .func (.func g) #[] #[.pointer (some ⟨id, k, sp⟩)]), (7, .int .i64 xs.length), (8, .int .i64 i)]) (fun i => i ≤ xs.length ∧ ∀ j, j < i → ∀ x, xs[j]? = some x → p x = false) (fun i => xs.length - i) (0) (⟨by omega, fun j h => absurd h (by omega)⟩) ⟨rfl, rfl, rfl, rfl, trivial⟩ (fun i hi bE n => ?_)
  obtain ⟨hi, hj⟩ := hi
  refine KW.cnd rfl rfl (fun h => ?_) (fun h => ?_)
  · refine KW.getI hs.up rfl rfl rfl rfl rfl rfl rfl rfl rfl rfl rfl rfl rfl rfl rfl rfl (by omega) (h) (fun x hx => ?_)
    have hx : xs[i]? = some x := hx
    have hmem := List.mem_of_getElem? hx
    refine KW.callE rfl rfl rfl rfl rfl (hp _ _ inferInstance x hmem) (fun _ _ => ?_)
    refine KW.cndB rfl rfl (fun h2 => ?_) (fun h2 => ?_)
    · exact KW.ret rfl rfl rfl rfl (⟨(i : Int), rfl, fun _ => ⟨x, hmem, h2⟩, fun _ => by omega⟩)
    · refine KW.nxt rfl rfl (fun H' g => ⟨i + 1, ⟨by omega, upto hj (fun y hy => by rw [hx] at hy; cases hy; exact h2)⟩, by first | omega | (simp only; omega), ⟨rfl, rfl, rfl, congrArg (Value.int .i64) (inc64 (by omega)), trivial⟩, g⟩)
  · refine KW.ret rfl rfl rfl rfl ⟨-1, rfl, fun h => absurd h (by decide), fun ⟨x, hx, hpx⟩ => ?_⟩
    obtain ⟨j, hjx⟩ := List.getElem?_of_mem hx
    have := hj j (by have := (List.getElem?_eq_some_iff.1 hjx).1; omega) x hjx
    rw [hpx] at this; cases this
theorem containsFuncI {a c} {xs : List Int} {g : FuncId} {id k : Nat} {sp : Option Nat} {p : Int → Bool} (hl : xs.length ≤ 4611686018427387904) (hs : KI.Sl S H0 (.slice a xs.length c) xs) (hp : TellsI Try.prog S H0 xs g [.pointer (some ⟨id, k, none⟩)] p) :
    Spec Try.prog S H0 185 [.slice a xs.length c, .func (.func g) #[] #[.pointer (some ⟨id, k, sp⟩)]] (fun v => v = .bool (tv (∃ x ∈ xs, p x = true))) := by
  refine Spec.of1 Try.func185 rfl (by kernel_rfl) rfl (fun H _ => ?_)
  refine KW.call rfl rfl rfl rfl rfl (indexFuncI hl hs.up hp.up) (fun v _ _ hv => ?_)
  obtain ⟨r, rfl, hr⟩ := hv
  refine KW.ret rfl rfl rfl rfl ?_
  show Value.bool (decide (r ≥ 0)) = _
  rw [tv_dec, tv_congr hr]
/-- A function value that tells something of each row. -/
def TellsL (P : Program) (S : Ids) (H0 : AH) (xs : List (List Int)) (g : FuncId) (cap : List Value) (p : List Int → Bool) : Prop :=
  ∀ S' H', On S H0 S' H' → ∀ y ∈ xs, ∀ a c, KI.Sl S' H' (.slice a y.length c) y → Spec P S' H' g (.slice a y.length c :: cap) (fun v => v = .bool (p y))
theorem TellsL.up {P : Program} {S' : Ids} {H' : AH} {xs : List (List Int)} {g : FuncId} {cap : List Value} {p : List Int → Bool} [o : On S H0 S' H'] (h : TellsL P S H0 xs g cap p) : TellsL P S' H' xs g cap p := fun S2 H2 o2 => h S2 H2 ⟨o.st.trans o2.st⟩
theorem indexFuncL {a c} {xs : List (List Int)} {g : FuncId} {id k : Nat} {sp : Option Nat} {p : List Int → Bool} (hl : xs.length ≤ 4611686018427387904) (hs : KI.sl.Sl S H0 (.slice a xs.length c) xs) (hp : TellsL Try.prog S H0 xs g [.pointer (some ⟨id, k, none⟩)] p) :
    Spec Try.prog S H0 197 [.slice a xs.length c, .func (.func g) #[] #[.pointer (some ⟨id, k, sp⟩)]] (fun v => ∃ r : Int, v = .int .i64 r ∧ (r ≥ 0 ↔ ∃ x ∈ xs, p x = true)) := by
  refine Spec.of1 Try.func197 rfl (by kernel_rfl) rfl (fun H _ => ?_)
  refine KW.lp rfl rfl (fun i : Nat => [(0, .slice a xs.length c), (1, .func (.func g) #[] #[.pointer (some ⟨id, k, sp⟩)]), (7, .int .i64 xs.length), (8, .int .i64 i)]) (fun i => i ≤ xs.length ∧ ∀ j, j < i → ∀ x, xs[j]? = some x → p x = false) (fun i => xs.length - i) (0) (⟨by omega, fun j h => absurd h (by omega)⟩) ⟨rfl, rfl, rfl, rfl, trivial⟩ (fun i hi bE n => ?_)
  obtain ⟨hi, hj⟩ := hi
  refine KW.cnd rfl rfl (fun h => ?_) (fun h => ?_)
  · refine KW.getL hs.up rfl rfl rfl rfl rfl rfl rfl rfl rfl rfl rfl rfl rfl rfl rfl rfl (by omega) (h) (fun x ax cx hx hsx => ?_)
    have hx : xs[i]? = some x := hx
    have hmem := List.mem_of_getElem? hx
    refine KW.callE rfl rfl rfl rfl rfl (hp _ _ inferInstance x hmem _ _ hsx) (fun _ _ => ?_)
    refine KW.cndB rfl rfl (fun h2 => ?_) (fun h2 => ?_)
    · exact KW.ret rfl rfl rfl rfl (⟨(i : Int), rfl, fun _ => ⟨x, hmem, h2⟩, fun _ => by omega⟩)
    · refine KW.nxt rfl rfl (fun H' g => ⟨i + 1, ⟨by omega, upto hj (fun y hy => by rw [hx] at hy; cases hy; exact h2)⟩, by first | omega | (simp only; omega), ⟨rfl, rfl, rfl, congrArg (Value.int .i64) (inc64 (by omega)), trivial⟩, g⟩)
  · refine KW.ret rfl rfl rfl rfl ⟨-1, rfl, fun h => absurd h (by decide), fun ⟨x, hx, hpx⟩ => ?_⟩
    obtain ⟨j, hjx⟩ := List.getElem?_of_mem hx
    have := hj j (by have := (List.getElem?_eq_some_iff.1 hjx).1; omega) x hjx
    rw [hpx] at this; cases this
theorem containsFuncL {a c} {xs : List (List Int)} {g : FuncId} {id k : Nat} {sp : Option Nat} {p : List Int → Bool} (hl : xs.length ≤ 4611686018427387904) (hs : KI.sl.Sl S H0 (.slice a xs.length c) xs) (hp : TellsL Try.prog S H0 xs g [.pointer (some ⟨id, k, none⟩)] p) :
    Spec Try.prog S H0 156 [.slice a xs.length c, .func (.func g) #[] #[.pointer (some ⟨id, k, sp⟩)]] (fun v => v = .bool (tv (∃ x ∈ xs, p x = true))) := by
  refine Spec.of1 Try.func156 rfl (by kernel_rfl) rfl (fun H _ => ?_)
  refine KW.call rfl rfl rfl rfl rfl (indexFuncL hl hs.up hp.up) (fun v _ _ hv => ?_)
  obtain ⟨r, rfl, hr⟩ := hv
  refine KW.ret rfl rfl rfl rfl ?_
  show Value.bool (decide (r ≥ 0)) = _
  rw [tv_dec, tv_congr hr]
end
end Go.Proofs.Ytijmkfnmdhpakaa.Am
/- Contracts: primes, elements, valid matrices, of the program and of the reference. Each holds under its own conditions. -/
set_option linter.unusedVariables false
set_option maxRecDepth 20000
namespace Go.Proofs.Ytijmkfnmdhpakaa.Am
open Go Go.RowKit Go.Proofs
section
variable {P : Program} {S : Ids} {H0 : AH} {Q : PostC} {k k1 : List It} {e e1 : Env} {T T1 : List Var} {n n1 : Nat} {l1 r1 : List Nat} {d1 : Tmp}
theorem KW.rem {o : Oper} {dr : Bool} {t u : TypeId} {x y : Operand} {ik : IntKind} {a b : Int} (h : Go1 P k e T n (.op o dr) k1 e1 T1 n1 l1 r1) (hlr : l1 = r1) (ho : o.op = .binOp .rem t x y u) (hd : o.dst = some d1) (hx : ev e1 x = .int ik a) (hy : ev e1 y = .int ik b) (ha : 0 ≤ a) (hb : b ≠ 0)
    (hk : KW P S H0 Q n1 T1 k1 (put1 e1 d1 (.int ik (a % b)))) : KW P S H0 Q n T k e := by
  refine KW.pure h hlr ho hd rfl _ ?_ hk
  simp only [pop, hx, hy, abin, aint, if_true]
  rw [if_neg hb, Int.tmod_eq_emod_of_nonneg ha]
theorem KW.quo {o : Oper} {dr : Bool} {t u : TypeId} {x y : Operand} {a b : Int} (h : Go1 P k e T n (.op o dr) k1 e1 T1 n1 l1 r1) (hlr : l1 = r1) (ho : o.op = .binOp .quo t x y u) (hd : o.dst = some d1) (hx : ev e1 x = .int .i64 a) (hy : ev e1 y = .int .i64 b) (ha : 0 ≤ a ∧ a ≤ 9223372036854775807) (hb : 0 < b)
    (hk : KW P S H0 Q n1 T1 k1 (put1 e1 d1 (.int .i64 (a / b)))) : KW P S H0 Q n T k e := by
  refine KW.pure h hlr ho hd rfl _ ?_ hk
  simp only [pop, hx, hy, abin, aint, if_true]
  rw [if_neg (by omega), Int.tdiv_eq_ediv_of_nonneg ha.1]
  have h1 : 0 ≤ a / b := Int.ediv_nonneg ha.1 (by omega)
  have h2 : a / b ≤ a := Int.ediv_le_self _ ha.1
  rw [wr (by omega) (by omega)]
end
/-- A prime up to 31. -/
def PrimeP (p : Int) : Prop := 2 ≤ p ∧ p ≤ 31 ∧ ∀ d : Nat, 2 ≤ d → (d : Int) < p → ¬ p % d = 0
theorem prime_of {p : Int} {d : Nat} (h2 : 2 ≤ p) (h31 : p ≤ 31) (hd : 2 ≤ d) (hdd : ¬ (d : Int) * d ≤ p) (h : ∀ j : Nat, 2 ≤ j → j < d → ¬ p % j = 0) : PrimeP p := by
  refine ⟨h2, h31, fun q hq hqp hm => ?_⟩
  rcases Nat.lt_or_ge q d with hlt | hge
  · exact h q hq hlt hm
  · obtain ⟨r, hr⟩ := Int.dvd_of_emod_eq_zero hm
    have hr1 : 1 < r := by
      rcases Int.lt_or_le 1 r with h | h
      · exact h
      · have : (q : Int) * r ≤ q * 1 := Int.mul_le_mul_of_nonneg_left h (by omega)
        omega
    obtain ⟨s, rfl⟩ : ∃ s : Nat, r = s := ⟨r.toNat, by omega⟩
    have hs : (s : Int) < d := by
      rcases Int.lt_or_le (s : Int) d with h | h
      · exact h
      · have h1 : (d : Int) * d ≤ q * s := Int.mul_le_mul (by omega) h (by omega) (by omega)
        omega
    refine h s (by omega) (by omega) ?_
    rw [hr, Int.mul_emod_left]
theorem upto2 {d : Nat} {Q : Nat → Prop} (h : ∀ j, 2 ≤ j → j < d → Q j) (hd : Q d) : ∀ j, 2 ≤ j → j < d + 1 → Q j := fun j h2 hj => by
  rcases Nat.lt_or_ge j d with hl | hg
  · exact h j h2 hl
  · obtain rfl : j = d := by omega
    exact hd
section
variable {S : Ids} {H0 : AH}
theorem isPrime (p : Int) : Spec Try.prog S H0 184 [.int .i64 p] (fun v => v = .bool (tv (PrimeP p))) := by
  refine Spec.of1 Try.func184 rfl (by kernel_rfl) rfl (fun H _ => ?_)
  refine KW.lp rfl rfl (fun d : Nat => [(0, .int .i64 p), (3, .int .i64 d)]) (fun d => (2 ≤ d ∧ d ≤ 6) ∧ ∀ j : Nat, 2 ≤ j → j < d → ¬ p % j = 0) (fun d => 6 - d) (2) (⟨by omega, fun j h h' => by omega⟩) ⟨rfl, rfl, trivial⟩ (fun d hi bE n => ?_)
  obtain ⟨hd, hi⟩ := hi
  have hdd : (d : Int) * d ≤ 36 := by
    have : (d : Int) * d ≤ 6 * 6 := Int.mul_le_mul (by omega) (by omega) (by omega) (by omega)
    omega
  have hdd' : 0 ≤ (d : Int) * d := Int.mul_nonneg (by omega) (by omega)
  have ew : IntKind.i64.wrap ((d : Int) * d) = d * d := wr (by omega) (by omega)
  have fin : ¬ (d : Int) * d ≤ p ∨ ¬ p ≤ 31 → (decide (2 ≤ p ∧ p ≤ 31) : Bool) = tv (PrimeP p) := fun hx => by
    rw [tv_dec]
    refine tv_congr ⟨fun h => ?_, fun h => ⟨h.1, h.2.1⟩⟩
    exact prime_of h.1 h.2 hd.1 (hx.resolve_right (fun hc => hc h.2)) hi
  refine KW.tst rfl rfl (fun h => ?_) (fun h => ?_)
  · rw [ew] at h
    refine KW.cnd rfl rfl (fun h1 => ?_) (fun h1 => ?_)
    · refine KW.rem rfl rfl rfl rfl rfl rfl (by omega) (by omega) ?_
      refine KW.cndB rfl rfl (fun h2 => ?_) (fun h2 => ?_)
      · have hdp : (d : Int) < p := by
          have : (d : Int) * 2 ≤ d * d := Int.mul_le_mul_of_nonneg_left (by omega) (by omega)
          omega
        exact KW.ret rfl rfl rfl rfl (by rw [tv_false (fun hp => hp.2.2 d hd.1 hdp (by simpa using h2))]; rfl)
      · have h2 : ¬ p % (d : Int) = 0 := by simpa using h2
        have hd5 : d ≤ 5 := by
          rcases Nat.lt_or_ge d 6 with h | h
          · omega
          · have : (6 : Int) * 6 ≤ d * d := Int.mul_le_mul (by omega) (by omega) (by omega) (by omega)
            omega
        refine KW.nxt rfl rfl (fun H' g => ⟨d + 1, ⟨by omega, upto2 hi h2⟩, by first | omega | (simp only; omega), ⟨rfl, congrArg (Value.int .i64) (inc64 (by omega)), trivial⟩, g⟩)
    · refine KW.callE rfl rfl rfl rfl rfl (within _ _ _) (fun _ _ => ?_)
      exact KW.ret rfl rfl rfl rfl (congrArg Value.bool (fin (.inr h1)))
  · rw [ew] at h
    refine KW.cF rfl rfl (by first | (simp; done) | decide) ?_
    refine KW.callE rfl rfl rfl rfl rfl (within _ _ _) (fun _ _ => ?_)
    exact KW.ret rfl rfl rfl rfl (congrArg Value.bool (fin (.inl h)))
theorem specIsPrime (p : Int) : Spec Try.prog S H0 251 [.int .i64 p] (fun v => v = .bool (tv (PrimeP p))) := by
  refine Spec.of1 Try.func251 rfl (by kernel_rfl) rfl (fun H _ => ?_)
  refine KW.callE rfl rfl rfl rfl rfl (l00In _ _ _) (fun _ _ => ?_)
  refine KW.cndB rfl rfl (fun h => ?_) (fun h => ?_)
  · exact KW.ret rfl rfl rfl rfl (by rw [tv_false (fun hp => by have := hp.1; have := hp.2.1; simp at h; omega)]; rfl)
  have h : 2 ≤ p ∧ p ≤ 31 := by simpa using h
  refine KW.lp rfl rfl (fun d : Nat => [(0, .int .i64 p), (3, .int .i64 d)]) (fun d => (2 ≤ d ∧ (d : Int) ≤ p) ∧ ∀ j : Nat, 2 ≤ j → j < d → ¬ p % j = 0) (fun d => 32 - d) (2) (⟨by omega, fun j h h' => by omega⟩) ⟨rfl, rfl, trivial⟩ (fun d hi bE n => ?_)
  obtain ⟨hd, hi⟩ := hi
  refine KW.cnd rfl rfl (fun h1 => ?_) (fun h1 => ?_)
  · refine KW.rem rfl rfl rfl rfl rfl rfl (by omega) (by omega) ?_
    refine KW.cndB rfl rfl (fun h2 => ?_) (fun h2 => ?_)
    · exact KW.ret rfl rfl rfl rfl (by rw [tv_false (fun hp => hp.2.2 d hd.1 h1 (by simpa using h2))]; rfl)
    · refine KW.nxt rfl rfl (fun H' g => ⟨d + 1, ⟨by omega, upto2 hi (by simpa using h2)⟩, by first | omega | (simp only; omega), ⟨rfl, congrArg (Value.int .i64) (inc64 (by omega)), trivial⟩, g⟩)
  · exact KW.ret rfl rfl rfl rfl (by rw [tv_true (p := PrimeP p) ⟨h.1, h.2, fun j h2 hj => hi j h2 (by omega)⟩]; rfl)
/-- All are elements of the field. -/
def Elems (p : Int) (xs : List Int) : Prop := ∀ x ∈ xs, 0 ≤ x ∧ x ≤ p - 1
theorem areElements1 (p y : Int) (hp : I64 p) (hy : p ≠ -9223372036854775808) {id : Nat} {b : Blk} (hb : b.cells = [.int .i64 p]) (hv : S id ∧ H0.m id = some b) : Spec Try.prog S H0 186 [.int .i64 y, .pointer (some ⟨id, 0, none⟩)] (fun v => v = .bool (!decide (0 ≤ y ∧ y ≤ p - 1))) := by
  refine Spec.of1 Try.func186 rfl (by kernel_rfl) rfl (fun H _ => ?_)
  obtain ⟨hS1, hm1⟩ := On.blk (S' := Low H.n) (H' := H) hv.1 hv.2
  obtain ⟨ty, rw, cs⟩ := b
  subst hb
  refine KW.ldP hS1 hm1 rfl rfl rfl rfl rfl rfl ?_
  refine KW.callE rfl rfl rfl rfl rfl (within _ _ _) (fun _ _ => ?_)
  have e : IntKind.i64.wrap (p - 1) = p - 1 := wr (by have := hp.1; omega) (by have := hp.2; omega)
  refine KW.ret rfl rfl rfl rfl ?_
  rw [e]; rfl
theorem areElements (p : Int) (hp : I64 p) {a c} {xs : List Int} (hl : xs.length ≤ 4611686018427387904) (hs : KI.Sl S H0 (.slice a xs.length c) xs) : Spec Try.prog S H0 122 [.int .i64 p, .slice a xs.length c] (fun v => v = .bool (tv (PrimeP p ∧ Elems p xs))) := by
  refine Spec.of1 Try.func122 rfl (by kernel_rfl) rfl (fun H _ => ?_)
  refine KW.callE rfl rfl rfl rfl rfl (isPrime p) (fun _ _ => ?_)
  refine KW.tstB rfl rfl (fun h => ?_) (fun h => ?_)
  · have h := tv_iff.1 h
    refine KW.callV1 rfl rfl rfl rfl rfl (fun H1 g _ => containsFuncI (p := fun y => !decide (0 ≤ y ∧ y ≤ p - 1)) hl hs.up (fun S' H' o y _ => areElements1 p y hp (by have := h.1; omega) rfl (g.var (j := 0) rfl))) (fun _ _ => ?_)
    refine KW.ret rfl rfl rfl rfl ?_
    show Value.bool (!tv (∃ x ∈ xs, (!decide (0 ≤ x ∧ x ≤ p - 1)) = true)) = _
    by_cases hx : Elems p xs
    · rw [tv_true (p := PrimeP p ∧ Elems p xs) ⟨h, hx⟩, tv_false (fun ⟨x, h1, h2⟩ => by have := hx x h1; simp at h2; omega)]; rfl
    · rw [tv_false (p := PrimeP p ∧ Elems p xs) (fun hc => hx hc.2), tv_true ?_]; · rfl
      refine Classical.byContradiction fun hc => hx fun x h1 => ?_
      refine Classical.byContradiction fun h2 => hc ⟨x, h1, by simp; omega⟩
  · exact KW.ret rfl rfl rfl rfl (by rw [tv_false (p := PrimeP p ∧ Elems p xs) (fun hc => by rw [tv_true hc.1] at h; cases h)]; rfl)
end
/-- A matrix that is valid. -/
structure OkMat (p c : Int) (rows : List (List Int)) : Prop where
  pr : PrimeP p
  c0 : 0 ≤ c
  c1 : c ≤ 12
  len : rows.length ≤ 20
  row : ∀ r ∈ rows, (r.length : Int) = c ∧ Elems p r
theorem tvn {q : Prop} {b : Bool} (h : b = false) (h' : q → b = true) : Value.bool false = .bool (tv q) := by rw [tv_false (fun hq => by rw [h' hq] at h; cases h)]
section
variable {S : Ids} {H0 : AH}
theorem validMatrix1 (p c : Int) (hp : I64 p) {y : List Int} (hl : y.length ≤ 1048576) {a m} (hs : KI.Sl S H0 (.slice a y.length m) y) {id : Nat} {b : Blk} {v : Value} (hb : b.cells = [.int .i64 p, .int .i64 c, v]) (hv : S id ∧ H0.m id = some b) :
    Spec Try.prog S H0 224 [.slice a y.length m, .pointer (some ⟨id, 0, none⟩)] (fun v => v = .bool (!tv ((y.length : Int) = c ∧ (PrimeP p ∧ Elems p y)))) := by
  refine Spec.of1 Try.func224 rfl (by kernel_rfl) rfl (fun H _ => ?_)
  obtain ⟨hS1, hm1⟩ := On.blk (S' := Low H.n) (H' := H) hv.1 hv.2
  obtain ⟨ty, rw, cs⟩ := b
  subst hb
  refine KW.ldP hS1 hm1 rfl rfl rfl rfl rfl rfl ?_
  refine KW.tstB rfl rfl (fun h => ?_) (fun h => ?_)
  · exact KW.ret rfl rfl rfl rfl (by rw [tv_false (p := (y.length : Int) = c ∧ (PrimeP p ∧ Elems p y)) (fun hc => by rw [hc.1] at h; simp at h)]; rfl)
  · have h : (y.length : Int) = c := by simpa using h
    refine KW.ldP hS1 hm1 rfl rfl rfl rfl rfl rfl ?_
    refine KW.callE rfl rfl rfl rfl rfl (areElements p hp (by omega) hs.up) (fun _ _ => ?_)
    refine KW.ret rfl rfl rfl rfl ?_
    rw [tv_congr (q := (y.length : Int) = c ∧ (PrimeP p ∧ Elems p y)) ⟨fun hx => ⟨h, hx⟩, fun hx => hx.2⟩]; rfl
theorem validMatrix (p c : Int) (hp : I64 p) {a m} {rows : List (List Int)} (hB : B_Int64SS rows) (hs : KI.sl.Sl S H0 (.slice a rows.length m) rows) :
    Spec Try.prog S H0 187 [.agg #[.int .i64 p, .int .i64 c, .slice a rows.length m]] (fun v => v = .bool (tv (OkMat p c rows))) := by
  refine Spec.of1 Try.func187 rfl (by kernel_rfl) rfl (fun H _ => ?_)
  refine KW.callE rfl rfl rfl rfl rfl (isPrime p) (fun _ _ => ?_)
  refine KW.tstB rfl rfl (fun h1 => ?_) (fun h1 => ?_)
  · have k1 := tv_iff.1 h1
    refine KW.callE rfl rfl rfl rfl rfl (within _ _ _) (fun _ _ => ?_)
    refine KW.tstB rfl rfl (fun h2 => ?_) (fun h2 => ?_)
    · have k2 : 0 ≤ c ∧ c ≤ 12 := by simpa using h2
      refine KW.tst rfl rfl (fun h3 => ?_) (fun h3 => ?_)
      · have h3 : (rows.length : Int) ≤ 20 := h3
        refine KW.callV1 rfl rfl rfl rfl rfl (fun H1 g _ => containsFuncL (p := fun y => !tv ((y.length : Int) = c ∧ (PrimeP p ∧ Elems p y))) (by omega) hs.up (fun S' H' o y hy a c hsy => validMatrix1 p _ hp (hB.each y hy) hsy rfl (g.var (j := 0) rfl))) (fun _ _ => ?_)
        refine KW.ret rfl rfl rfl rfl ?_
        show Value.bool (!tv (∃ x ∈ rows, (!tv ((x.length : Int) = c ∧ (PrimeP p ∧ Elems p x))) = true)) = _
        by_cases hx : OkMat p c rows
        · rw [tv_true hx, tv_false (fun ⟨x, h1, h2⟩ => by rw [tv_true ⟨(hx.row x h1).1, k1, (hx.row x h1).2⟩] at h2; cases h2)]; rfl
        · rw [tv_false hx, tv_true ?_]; · rfl
          refine Classical.byContradiction fun hc => hx ⟨k1, k2.1, k2.2, by omega, fun x h1 => ?_⟩
          refine Classical.byContradiction fun h2 => hc ⟨x, h1, by rw [tv_false (fun h => h2 ⟨h.1, h.2.2⟩)]; rfl⟩
      · have h3 : ¬ (rows.length : Int) ≤ 20 := h3
        exact KW.ret rfl rfl rfl rfl (by rw [tv_false (p := OkMat p c rows) (fun hc => by have := hc.len; omega)]; rfl)
    · have k2 : ¬ (0 ≤ c ∧ c ≤ 12) := by simpa using h2
      repeat first | refine KW.tT rfl rfl rfl ?_ | refine KW.tF rfl rfl rfl ?_
      exact KW.ret rfl rfl rfl rfl (by rw [tv_false (p := OkMat p c rows) (fun hc => k2 ⟨hc.c0, hc.c1⟩)]; rfl)
  · repeat first | refine KW.tT rfl rfl rfl ?_ | refine KW.tF rfl rfl rfl ?_
    exact KW.ret rfl rfl rfl rfl (by rw [tv_false (p := OkMat p c rows) (fun hc => by rw [tv_true hc.pr] at h1; cases h1)]; rfl)
theorem l03Row (p c : Int) (hp : I64 (p - 1)) {a m} {xs : List Int} (hl : xs.length ≤ 1048576) (hs : KI.Sl S H0 (.slice a xs.length m) xs) :
    Spec Try.prog S H0 205 [.int .i64 p, .int .i64 c, .slice a xs.length m] (fun v => v = .bool (tv ((xs.length : Int) = c ∧ Elems p xs))) := by
  refine Spec.of1 Try.func205 rfl (by kernel_rfl) rfl (fun H _ => ?_)
  have ep : IntKind.i64.wrap (p - 1) = p - 1 := wr (by have := hp.1; omega) (by have := hp.2; omega)
  refine KW.lp rfl rfl (fun i : Nat => [(0, .int .i64 p), (1, .int .i64 c), (2, .slice a xs.length m), (7, .int .i64 i)]) (fun i => i ≤ xs.length ∧ ∀ j, j < i → ∀ x, xs[j]? = some x → 0 ≤ x ∧ x ≤ p - 1) (fun i => xs.length - i) (0) (⟨by omega, fun j h => absurd h (by omega)⟩) ⟨rfl, rfl, rfl, rfl, trivial⟩ (fun i hi bE n => ?_)
  obtain ⟨hi, hj⟩ := hi
  refine KW.cnd rfl rfl (fun h => ?_) (fun h => ?_)
  · refine KW.getI hs.up rfl rfl rfl rfl rfl rfl rfl rfl rfl rfl rfl rfl rfl rfl rfl rfl (by omega) (h) (fun y hy => ?_)
    have hy : xs[i]? = some y := hy
    refine KW.callE rfl rfl rfl rfl rfl (l00In _ _ _) (fun _ _ => ?_)
    rw [ep]
    refine KW.cndB rfl rfl (fun h2 => ?_) (fun h2 => ?_)
    · have h2 : ¬ (0 ≤ y ∧ y ≤ p - 1) := by simp at h2; omega
      exact KW.ret rfl rfl rfl rfl (by rw [tv_false (p := (xs.length : Int) = c ∧ Elems p xs) (fun hc => h2 (hc.2 y (List.mem_of_getElem? hy)))]; rfl)
    · refine KW.nxt rfl rfl (fun H' g => ⟨i + 1, ⟨by omega, upto hj (fun z hz => by rw [hy] at hz; cases hz; simpa using h2)⟩, by first | omega | (simp only; omega), ⟨rfl, rfl, rfl, congrArg (Value.int .i64) (inc64 (by omega)), trivial⟩, g⟩)
  · refine KW.ret rfl rfl rfl rfl ?_
    show Value.bool (((xs.length : Nat) : Int) == c) = _
    congr 1
    have hE : Elems p xs := fun x hx => by
      obtain ⟨j, hjx⟩ := List.getElem?_of_mem hx
      exact hj j (by have := (List.getElem?_eq_some_iff.1 hjx).1; omega) x hjx
    by_cases hc : ((xs.length : Nat) : Int) = c
    · rw [tv_true ⟨hc, hE⟩, hc]; simp
    · rw [tv_false (fun h => hc h.1)]; simpa using hc
end
/-- A block that has so and so standing from a place on. -/
def Has3 (S : Ids) (H : AH) (id k : Nat) (vs : List Value) : Prop := S id ∧ ∃ b, H.m id = some b ∧ ∀ i v, vs[i]? = some v → b.cells[k + i]? = some v
theorem Has3.up {S S' : Ids} {H H' : AH} {id k : Nat} {vs : List Value} [o : On S H S' H'] (h : Has3 S H id k vs) : Has3 S' H' id k vs := by
  obtain ⟨h1, b, h2, h3⟩ := h
  obtain ⟨h4, h5⟩ := On.blk (S' := S') (H' := H') h1 h2
  exact ⟨h4, b, h5, h3⟩
section
variable {P : Program} {S : Ids} {H0 : AH} {Q : PostC} {k k1 : List It} {e e1 : Env} {T T1 : List Var} {n n1 : Nat} {l1 r1 : List Nat} {d1 : Tmp}
/-- A field is read by a pointer. -/
theorem KW.ldF {o : Oper} {dr : Bool} {t : TypeId} {x : Operand} {id kk k0 : Nat} {vs : List Value} {sp : Option Nat} {v : Value} {td : TypeDesc} (i : Nat) (hv : Has3 S H0 id k0 vs) (h : Go1 P k e T n (.op o dr) k1 e1 T1 n1 l1 r1) (hlr : l1 = r1) (ho : o.op = .load t x) (hd : o.dst = some d1) (hx : ev e1 x = .pointer (some ⟨id, kk, sp⟩)) (hk0 : kk = k0 + i) (hi : vs[i]? = some v)
    (hu : P.underlying t = some td) (hnot : (match td with | .struct _ => false | .array _ _ => false | _ => true) = true) (hk : KW P S H0 Q n1 T1 k1 (put1 e1 d1 v)) : KW P S H0 Q n T k e := by
  obtain ⟨hS, b, hm, hc⟩ := hv
  exact KW.ldP hS hm h hlr ho hd hx (bload_at (by rw [hk0]; exact hc i v hi) hu hnot) hk
end
section
variable {S : Ids} {H0 : AH}
theorem l03Ok (p c : Int) (hp : I64 p) {id k : Nat} {a m} {rows : List (List Int)} (hB : B_Int64SS rows) (hv : Has3 S H0 id k [.int .i64 p, .int .i64 c, .slice a rows.length m]) (hs : KI.sl.Sl S H0 (.slice a rows.length m) rows) :
    Spec Try.prog S H0 243 [.pointer (some ⟨id, k, none⟩)] (fun v => v = .bool (tv (OkMat p c rows))) := by
  refine Spec.of1 Try.func243 rfl (by kernel_rfl) rfl (fun H _ => ?_)
  have hv := hv.up (S' := Low H.n) (H' := H)
  have hs := hs.up (S' := Low H.n) (H' := H)
  refine KW.ldF 0 hv rfl rfl rfl rfl rfl rfl rfl rfl rfl ?_
  refine KW.callE rfl rfl rfl rfl rfl (specIsPrime p) (fun _ _ => ?_)
  refine KW.tstB rfl rfl (fun h1 => ?_) (fun h1 => ?_)
  · repeat first | refine KW.tT rfl rfl rfl ?_ | refine KW.tF rfl rfl rfl ?_
    refine KW.cT rfl rfl (by first | (simp; done) | decide) ?_
    exact KW.ret rfl rfl rfl rfl (by rw [tv_false (p := OkMat p c rows) (fun hc => by rw [tv_true hc.pr] at h1; cases h1)]; rfl)
  have k1 : PrimeP p := tv_iff.1 (by simpa using h1)
  refine KW.ldF 1 hv rfl rfl rfl rfl rfl rfl rfl rfl rfl ?_
  refine KW.callE rfl rfl rfl rfl rfl (l00In _ _ _) (fun _ _ => ?_)
  refine KW.tstB rfl rfl (fun h2 => ?_) (fun h2 => ?_)
  · have k2 : ¬ (0 ≤ c ∧ c ≤ 12) := by simp at h2; omega
    repeat first | refine KW.tT rfl rfl rfl ?_ | refine KW.tF rfl rfl rfl ?_
    refine KW.cT rfl rfl (by first | (simp; done) | decide) ?_
    exact KW.ret rfl rfl rfl rfl (by rw [tv_false (p := OkMat p c rows) (fun hc => k2 ⟨hc.c0, hc.c1⟩)]; rfl)
  have k2 : 0 ≤ c ∧ c ≤ 12 := by simpa using h2
  refine KW.ldF 2 hv rfl rfl rfl rfl rfl rfl rfl rfl rfl ?_
  refine KW.cnd rfl rfl (fun h3 => ?_) (fun h3 => ?_)
  · have h3 : (rows.length : Int) > 20 := h3
    exact KW.ret rfl rfl rfl rfl (by rw [tv_false (p := OkMat p c rows) (fun hc => by have := hc.len; omega)]; rfl)
  have h3 : ¬ (rows.length : Int) > 20 := h3
  refine KW.lp rfl rfl (fun i : Nat => [(0, .pointer (some ⟨id, k, none⟩)), (3, .int .i64 i)]) (fun i => i ≤ rows.length ∧ ∀ j, j < i → ∀ x, rows[j]? = some x → (x.length : Int) = c ∧ Elems p x) (fun i => rows.length - i) (0) (⟨by omega, fun j h => absurd h (by omega)⟩) ⟨rfl, rfl, trivial⟩ (fun i hi bE n => ?_)
  obtain ⟨hi, hj⟩ := hi
  refine KW.ldF 2 hv rfl rfl rfl rfl rfl rfl rfl rfl rfl ?_
  refine KW.cnd rfl rfl (fun h => ?_) (fun h => ?_)
  · refine KW.ldF 0 hv rfl rfl rfl rfl rfl rfl rfl rfl rfl ?_
    refine KW.ldF 1 hv rfl rfl rfl rfl rfl rfl rfl rfl rfl ?_
    refine KW.ldF 2 hv rfl rfl rfl rfl rfl rfl rfl rfl rfl ?_
    refine KW.getL hs.up rfl rfl rfl rfl rfl rfl rfl rfl rfl rfl rfl rfl rfl rfl rfl rfl (by omega) (h) (fun y a' m' hy hsy => ?_)
    have hy : rows[i]? = some y := hy
    refine KW.callE rfl rfl rfl rfl rfl (l03Row p c (by unfold I64 at *; have := k1.1; omega) (hB.each y (List.mem_of_getElem? hy)) hsy) (fun _ _ => ?_)
    refine KW.cndB rfl rfl (fun h4 => ?_) (fun h4 => ?_)
    · exact KW.ret rfl rfl rfl rfl (by rw [tv_false (p := OkMat p c rows) (fun hc => by rw [tv_true (hc.row y (List.mem_of_getElem? hy))] at h4; cases h4)]; rfl)
    · have h4 := tv_iff.1 (by simpa using h4)
      refine KW.nxt rfl rfl (fun H' g => ⟨i + 1, ⟨by omega, upto hj (fun z hz => by rw [hy] at hz; cases hz; exact h4)⟩, by first | omega | (simp only; omega), ⟨rfl, congrArg (Value.int .i64) (inc64 (by omega)), trivial⟩, g⟩)
  · have hE : ∀ x ∈ rows, (x.length : Int) = c ∧ Elems p x := fun x hx => by
      obtain ⟨j, hjx⟩ := List.getElem?_of_mem hx
      exact hj j (by have := (List.getElem?_eq_some_iff.1 hjx).1; omega) x hjx
    exact KW.ret rfl rfl rfl rfl (by rw [tv_true (p := OkMat p c rows) ⟨k1, k2.1, k2.2, by omega, hE⟩]; rfl)
end
end Go.Proofs.Ytijmkfnmdhpakaa.Am
/- What the laws' own functions do at Matrix: sizes, copies, equality, marks. Each holds under its own conditions. -/
set_option linter.unusedVariables false
set_option maxRecDepth 20000
namespace Go.Proofs.Ytijmkfnmdhpakaa.Am
open Go Go.RowKit Go.Proofs
abbrev T_Matrix : Type := (Int) × (Int) × (List (List Int))
abbrev K_Matrix : Kn T_Matrix := Kn.pair (KI) (Kn.pair (KI) (K_Int64SS))
abbrev M_Matrix : Kn T_Matrix := Kn.mp (KI) (Kn.mp (KI) (M_Int64SS))
theorem le_Matrix : KLe M_Matrix K_Matrix := KLe.pair ((KLe.refl KI)) (KLe.pair ((KLe.refl KI)) (le_Int64SS))
abbrev B_Matrix (x : T_Matrix) : Prop := I64 x.1 ∧ I64 x.2.1 ∧ B_Int64SS x.2.2
abbrev W_Matrix (x : T_Matrix) : Prop := I64 x.1 ∧ I64 x.2.1 ∧ W_Int64SS x.2.2
abbrev sz_Matrix (x : T_Matrix) : Nat := sz_Int64SS x.2.2
abbrev mk_Matrix (k : Int) (x : T_Matrix) : T_Matrix := (x.1, x.2.1, mk_Int64SS (k) x.2.2)
theorem size_Matrix {x : T_Matrix} (hB : B_Matrix x) : sz_Matrix x ≤ 1048576 := by have := size_Int64SS hB.2.2; simp only [sz_Matrix]; omega
section
variable {S : Ids} {H0 : AH} {W : Ids} {left k : Int}
theorem form_Matrix {x : T_Matrix} {cs : List Value} (h : K_Matrix.R S H0 x cs) : ∃ a1 c1, cs = [.int .i64 x.1, .int .i64 x.2.1, .slice a1 x.2.2.length c1] := by
  obtain ⟨e0, d0, rfl, h0, h0_⟩ := h
  obtain ⟨e1, d1, rfl, h1, h1_⟩ := h0_
  have h2 := h1_
  obtain rfl := KI_of h0
  obtain rfl := KI_of h1
  obtain ⟨a1, c1, rfl⟩ := slform h2
  exact ⟨a1, c1, rfl⟩
theorem formM_Matrix {x : T_Matrix} {cs : List Value} (h : M_Matrix.R S H0 x cs) : ∃ a1 c1, cs = [.int .i64 x.1, .int .i64 x.2.1, .slice a1 x.2.2.length c1] := form_Matrix (le_Matrix.2 _ _ _ _ h)
theorem split_Matrix {x : T_Matrix} {cs : List Value} (h : K_Matrix.R S H0 x cs) : ∃ a1 c1, cs = [.int .i64 x.1, .int .i64 x.2.1, .slice a1 x.2.2.length c1] ∧ K_Int64SS.R S H0 x.2.2 [.slice a1 x.2.2.length c1] := by
  obtain ⟨e0, d0, rfl, h0, h0_⟩ := h
  obtain ⟨e1, d1, rfl, h1, h1_⟩ := h0_
  have h2 := h1_
  obtain rfl := KI_of h0
  obtain rfl := KI_of h1
  obtain ⟨a1, c1, rfl⟩ := slform h2
  exact ⟨a1, c1, rfl, h2⟩
theorem splitM_Matrix {x : T_Matrix} {cs : List Value} (h : M_Matrix.R S H0 x cs) : ∃ (a1 : Option Addr) (c1 : Nat) (X2 : Ids), cs = [.int .i64 x.1, .int .i64 x.2.1, .slice a1 x.2.2.length c1] ∧ M_Int64SS.R X2 H0 x.2.2 [.slice a1 x.2.2.length c1] ∧ (∀ id, X2 id → S id) := by
  obtain ⟨e0, d0, X0, Y0, rfl, i0, j0, q0, h0, h0_⟩ := h
  obtain ⟨e1, d1, X1, Y1, rfl, i1, j1, q1, h1, h1_⟩ := h0_
  have h2 := h1_
  obtain rfl := KI_of h0
  obtain rfl := KI_of h1
  obtain ⟨a1, c1, rfl⟩ := mlform h2
  exact ⟨a1, c1, Y1, rfl, h2, fun _ p => j0 _ (j1 _ p)⟩
theorem to_Matrix {x : T_Matrix} {cs : List Value} (hB : B_Matrix x) (h : K_Matrix.R S H0 x cs) : SpecM Try.prog S H0 172 [.agg cs.toArray] (fun n v H1 => ∃ cs, v = .agg cs.toArray ∧ M_Matrix.R (New n H1.n) H1 x cs) := by
  obtain ⟨a1, c1, rfl, h2⟩ := split_Matrix h
  refine SpecM.of1 Try.func172 rfl (by kernel_rfl) rfl (fun H _ => ?_)
  refine KW.callN1 rfl rfl rfl rfl rfl (to_Int64SS hB.2.2 (On.R h2)) (fun v G2 S2 m2 _ _ hv => ?_)
  obtain ⟨b2, d2, rfl, g2⟩ := hv
  refine KW.retM1 rfl rfl rfl rfl (fun H1 g => ?_)
  refine ⟨_, rfl, ?_⟩
  have k2 : M_Int64SS.R (New H.n H1.n) H1 x.2.2 [.slice b2 x.2.2.length d2] := (M_Int64SS).more (g.inn (H := G2) (fun _ p => by have := p.1; omega)) (g.keep g2)
  have k1 : (Kn.mp (KI) (M_Int64SS)).R (New H.n H1.n) H1 (x.2) [.int .i64 x.2.1, .slice b2 x.2.2.length d2] := mpR (X := None_) (show KI.R None_ H1 _ [.int .i64 x.2.1] from rfl) k2 (fun _ p => p.elim) (fun _ p => p) (fun _ p _ => p.elim)
  have k0 : (Kn.mp (KI) (Kn.mp (KI) (M_Int64SS))).R (New H.n H1.n) H1 (x) [.int .i64 x.1, .int .i64 x.2.1, .slice b2 x.2.2.length d2] := mpR (X := None_) (show KI.R None_ H1 _ [.int .i64 x.1] from rfl) k1 (fun _ p => p.elim) (fun _ p => p) (fun _ p _ => p.elim)
  exact k0
theorem eq_Matrix {x : T_Matrix} {cs cs' : List Value} (hB : B_Matrix x) (h : K_Matrix.R S H0 x cs) (h' : K_Matrix.R S H0 x cs') : Spec Try.prog S H0 182 [.agg cs.toArray, .agg cs'.toArray] (fun v => v = .bool true) := by
  obtain ⟨a1, c1, rfl, h2⟩ := split_Matrix h
  obtain ⟨b1, d1, rfl, k2⟩ := split_Matrix h'
  refine Spec.of1 Try.func182 rfl (by kernel_rfl) rfl (fun H _ => ?_)
  refine KW.cF rfl rfl (by first | (simp; done) | decide) ?_
  refine KW.cF rfl rfl (by first | (simp; done) | decide) ?_
  refine KW.callE rfl rfl rfl rfl rfl (eq_Int64SS hB.2.2 (On.R h2) (On.R k2)) (fun _ _ => ?_)
  refine KW.cF rfl rfl (by first | (simp; done) | decide) ?_
  exact KW.ret rfl rfl rfl rfl (rfl)
theorem sz_Matrix' {x : T_Matrix} {cs : List Value} (l0 : 0 ≤ left) (l1 : left ≤ 1048576) (hW : W_Matrix x) (h : K_Matrix.R S H0 x cs) : Spec Try.prog S H0 167 [.agg cs.toArray, .int .i64 left] (SzPost left (B_Matrix x)) := by
  obtain ⟨a1, c1, rfl, h2⟩ := split_Matrix h
  refine Spec.of1 Try.func167 rfl (by kernel_rfl) rfl (fun H _ => ?_)
  refine KW.call rfl rfl rfl rfl rfl (sz_Int64SS' l0 l1 hW.2.2 (On.R h2)) (fun v _ _ hv => ?_)
  obtain ⟨r2, rfl, k2⟩ := hv
  refine KW.cnd rfl rfl (fun h => KW.ret rfl rfl rfl rfl ⟨-1, rfl, .inl rfl⟩) (fun h => ?_)
  have k2 := k2.resolve_left (by omega)
  exact KW.ret rfl rfl rfl rfl (⟨_, rfl, .inr ⟨k2.1, by have := k2.2.1; omega, hW.1, hW.2.1, k2.2.2⟩⟩)
end
end Go.Proofs.Ytijmkfnmdhpakaa.Am
/- What the laws' own functions do at Scheme: sizes, copies, equality, marks. Each holds under its own conditions. -/
set_option linter.unusedVariables false
set_option maxRecDepth 20000
namespace Go.Proofs.Ytijmkfnmdhpakaa.Am
open Go Go.RowKit Go.Proofs
abbrev T_Scheme : Type := (Int) × (List Int) × (T_Matrix)
abbrev K_Scheme : Kn T_Scheme := Kn.pair (KI) (Kn.pair (K_Int64S) (K_Matrix))
abbrev M_Scheme : Kn T_Scheme := Kn.mp (KI) (Kn.mp (M_Int64S) (M_Matrix))
theorem le_Scheme : KLe M_Scheme K_Scheme := KLe.pair ((KLe.refl KI)) (KLe.pair (le_Int64S) (le_Matrix))
abbrev B_Scheme (x : T_Scheme) : Prop := I64 x.1 ∧ B_Int64S x.2.1 ∧ B_Matrix x.2.2
abbrev W_Scheme (x : T_Scheme) : Prop := I64 x.1 ∧ W_Int64S x.2.1 ∧ W_Matrix x.2.2
abbrev sz_Scheme (x : T_Scheme) : Nat := sz_Int64S x.2.1 + sz_Matrix x.2.2
abbrev mk_Scheme (k : Int) (x : T_Scheme) : T_Scheme := (x.1, mk_Int64S (k) x.2.1, mk_Matrix (k + (sz_Int64S x.2.1 : Nat)) x.2.2)
theorem size_Scheme {x : T_Scheme} (hB : B_Scheme x) : sz_Scheme x ≤ 2097152 := by have := size_Int64S hB.2.1; have := size_Matrix hB.2.2; simp only [sz_Scheme]; omega
section
variable {S : Ids} {H0 : AH} {W : Ids} {left k : Int}
theorem form_Scheme {x : T_Scheme} {cs : List Value} (h : K_Scheme.R S H0 x cs) : ∃ a1 c1 a2 c2, cs = [.int .i64 x.1, .slice a1 x.2.1.length c1, .int .i64 x.2.2.1, .int .i64 x.2.2.2.1, .slice a2 x.2.2.2.2.length c2] := by
  obtain ⟨e0, d0, rfl, h0, h0_⟩ := h
  obtain ⟨e1, d1, rfl, h1, h1_⟩ := h0_
  have h2 := h1_
  obtain rfl := KI_of h0
  obtain ⟨a1, c1, rfl⟩ := slform h1
  obtain ⟨a2, c2, rfl⟩ := form_Matrix h2
  exact ⟨a1, c1, a2, c2, rfl⟩
theorem formM_Scheme {x : T_Scheme} {cs : List Value} (h : M_Scheme.R S H0 x cs) : ∃ a1 c1 a2 c2, cs = [.int .i64 x.1, .slice a1 x.2.1.length c1, .int .i64 x.2.2.1, .int .i64 x.2.2.2.1, .slice a2 x.2.2.2.2.length c2] := form_Scheme (le_Scheme.2 _ _ _ _ h)
theorem split_Scheme {x : T_Scheme} {cs : List Value} (h : K_Scheme.R S H0 x cs) : ∃ a1 c1 a2 c2, cs = [.int .i64 x.1, .slice a1 x.2.1.length c1, .int .i64 x.2.2.1, .int .i64 x.2.2.2.1, .slice a2 x.2.2.2.2.length c2] ∧ K_Int64S.R S H0 x.2.1 [.slice a1 x.2.1.length c1] ∧ K_Matrix.R S H0 x.2.2 [.int .i64 x.2.2.1, .int .i64 x.2.2.2.1, .slice a2 x.2.2.2.2.length c2] := by
  obtain ⟨e0, d0, rfl, h0, h0_⟩ := h
  obtain ⟨e1, d1, rfl, h1, h1_⟩ := h0_
  have h2 := h1_
  obtain rfl := KI_of h0
  obtain ⟨a1, c1, rfl⟩ := slform h1
  obtain ⟨a2, c2, rfl⟩ := form_Matrix h2
  exact ⟨a1, c1, a2, c2, rfl, h1, h2⟩
theorem splitM_Scheme {x : T_Scheme} {cs : List Value} (h : M_Scheme.R S H0 x cs) : ∃ (a1 : Option Addr) (c1 : Nat) (a2 : Option Addr) (c2 : Nat) (X1 : Ids) (X2 : Ids), cs = [.int .i64 x.1, .slice a1 x.2.1.length c1, .int .i64 x.2.2.1, .int .i64 x.2.2.2.1, .slice a2 x.2.2.2.2.length c2] ∧ M_Int64S.R X1 H0 x.2.1 [.slice a1 x.2.1.length c1] ∧ M_Matrix.R X2 H0 x.2.2 [.int .i64 x.2.2.1, .int .i64 x.2.2.2.1, .slice a2 x.2.2.2.2.length c2] ∧ (∀ id, X1 id → S id) ∧ (∀ id, X2 id → S id) ∧ (∀ id, X1 id → X2 id → False) := by
  obtain ⟨e0, d0, X0, Y0, rfl, i0, j0, q0, h0, h0_⟩ := h
  obtain ⟨e1, d1, X1, Y1, rfl, i1, j1, q1, h1, h1_⟩ := h0_
  have h2 := h1_
  obtain rfl := KI_of h0
  obtain ⟨a1, c1, rfl⟩ := mlform h1
  obtain ⟨a2, c2, rfl⟩ := formM_Matrix h2
  exact ⟨a1, c1, a2, c2, X1, Y1, rfl, h1, h2, fun _ p => j0 _ (i1 _ p), fun _ p => j0 _ (j1 _ p), fun _ o p => q1 _ o (p)⟩
theorem to_Scheme {x : T_Scheme} {cs : List Value} (hB : B_Scheme x) (h : K_Scheme.R S H0 x cs) : SpecM Try.prog S H0 105 [.agg cs.toArray] (fun n v H1 => ∃ cs, v = .agg cs.toArray ∧ M_Scheme.R (New n H1.n) H1 x cs) := by
  obtain ⟨a1, c1, a2, c2, rfl, h1, h2⟩ := split_Scheme h
  refine SpecM.of1 Try.func105 rfl (by kernel_rfl) rfl (fun H _ => ?_)
  refine KW.callN1 rfl rfl rfl rfl rfl (to_Int64S hB.2.1 (On.R h1)) (fun v G1 S1 m1 _ _ hv => ?_)
  obtain ⟨b1, d1, rfl, g1⟩ := hv
  refine KW.callN1 rfl rfl rfl rfl rfl (to_Matrix hB.2.2 (On.R h2)) (fun v G2 S2 m2 _ _ hv => ?_)
  obtain ⟨w2, rfl, g2⟩ := hv
  obtain ⟨b2_0, d2_0, rfl⟩ := formM_Matrix g2
  refine KW.retM1 rfl rfl rfl rfl (fun H1 g => ?_)
  refine ⟨_, rfl, ?_⟩
  have k2 : M_Matrix.R (New G1.n H1.n) H1 x.2.2 [.int .i64 x.2.2.1, .int .i64 x.2.2.2.1, .slice b2_0 x.2.2.2.2.length d2_0] := (M_Matrix).more (g.inn (H := G2) (fun _ p => by have := p.1; omega)) (g.keep g2)
  have k1 : (Kn.mp (M_Int64S) (M_Matrix)).R (New H.n H1.n) H1 (x.2) [.slice b1 x.2.1.length d1, .int .i64 x.2.2.1, .int .i64 x.2.2.2.1, .slice b2_0 x.2.2.2.2.length d2_0] := mpR (g.keep g1) k2 (g.inn (H := G1) (fun _ p => by have := p.1; omega)) (fun _ p => ⟨by have := p.1; have := m1; omega, p.2⟩) (fun _ o p => by have := o.2; have := p.1; omega)
  have k0 : (Kn.mp (KI) (Kn.mp (M_Int64S) (M_Matrix))).R (New H.n H1.n) H1 (x) [.int .i64 x.1, .slice b1 x.2.1.length d1, .int .i64 x.2.2.1, .int .i64 x.2.2.2.1, .slice b2_0 x.2.2.2.2.length d2_0] := mpR (X := None_) (show KI.R None_ H1 _ [.int .i64 x.1] from rfl) k1 (fun _ p => p.elim) (fun _ p => p) (fun _ p _ => p.elim)
  exact k0
theorem eq_Scheme {x : T_Scheme} {cs cs' : List Value} (hB : B_Scheme x) (h : K_Scheme.R S H0 x cs) (h' : K_Scheme.R S H0 x cs') : Spec Try.prog S H0 111 [.agg cs.toArray, .agg cs'.toArray] (fun v => v = .bool true) := by
  obtain ⟨a1, c1, a2, c2, rfl, h1, h2⟩ := split_Scheme h
  obtain ⟨b1, d1, b2, d2, rfl, k1, k2⟩ := split_Scheme h'
  refine Spec.of1 Try.func111 rfl (by kernel_rfl) rfl (fun H _ => ?_)
  refine KW.cF rfl rfl (by first | (simp; done) | decide) ?_
  refine KW.callE rfl rfl rfl rfl rfl (eq_Int64S hB.2.1 (On.R h1) (On.R k1)) (fun _ _ => ?_)
  refine KW.cF rfl rfl (by first | (simp; done) | decide) ?_
  refine KW.callE rfl rfl rfl rfl rfl (eq_Matrix hB.2.2 (On.R h2) (On.R k2)) (fun _ _ => ?_)
  refine KW.cF rfl rfl (by first | (simp; done) | decide) ?_
  exact KW.ret rfl rfl rfl rfl (rfl)
theorem sz_Scheme' {x : T_Scheme} {cs : List Value} (l0 : 0 ≤ left) (l1 : left ≤ 1048576) (hW : W_Scheme x) (h : K_Scheme.R S H0 x cs) : Spec Try.prog S H0 101 [.agg cs.toArray, .int .i64 left] (SzPost left (B_Scheme x)) := by
  obtain ⟨a1, c1, a2, c2, rfl, h1, h2⟩ := split_Scheme h
  refine Spec.of1 Try.func101 rfl (by kernel_rfl) rfl (fun H _ => ?_)
  refine KW.call rfl rfl rfl rfl rfl (sz_Int64S' l0 l1 hW.2.1 (On.R h1)) (fun v _ _ hv => ?_)
  obtain ⟨r1, rfl, k1⟩ := hv
  refine KW.cnd rfl rfl (fun h => KW.ret rfl rfl rfl rfl ⟨-1, rfl, .inl rfl⟩) (fun h => ?_)
  have k1 := k1.resolve_left (by omega)
  refine KW.call rfl rfl rfl rfl rfl (sz_Matrix' k1.1 (by have := k1.2.1; omega) hW.2.2 (On.R h2)) (fun v _ _ hv => ?_)
  obtain ⟨r2, rfl, k2⟩ := hv
  refine KW.cnd rfl rfl (fun h => KW.ret rfl rfl rfl rfl ⟨-1, rfl, .inl rfl⟩) (fun h => ?_)
  have k2 := k2.resolve_left (by omega)
  exact KW.ret rfl rfl rfl rfl (⟨_, rfl, .inr ⟨k2.1, by have := k1.2.1; have := k2.2.1; omega, hW.1, k1.2.2, k2.2.2⟩⟩)
end
end Go.Proofs.Ytijmkfnmdhpakaa.Am
/- What the laws' own functions do at rows of rows of rows of numbers. Each holds under its own conditions. -/
set_option linter.unusedVariables false
set_option maxRecDepth 20000
namespace Go.Proofs.Ytijmkfnmdhpakaa.Am
open Go Go.RowKit Go.Proofs
/-- All cells. -/
abbrev ts_Int64SS (x : List (List Int)) : Nat := x.length + sum (lens x)
theorem sum_le2 {α : Type} {f g : α → Nat} (l : List α) (h : ∀ x, f x ≤ g x) : sum (l.map f) ≤ sum (l.map g) := by
  induction l with
  | nil => exact Nat.le_refl _
  | cons x l ih => have := h x; simp only [List.map_cons, sum]; omega
abbrev K_Int64SSS : Kn (List (List (List Int))) := KI.sl.sl.sl
abbrev M_Int64SSS : Kn (List (List (List Int))) := KI.ml.ml.ml
theorem le_Int64SSS : KLe M_Int64SSS K_Int64SSS := KLe.row le_Int64SS
structure B_Int64SSS (x : List (List (List Int))) : Prop where
  len : x.length ≤ 1048576
  each : ∀ y ∈ x, B_Int64SS y
  tot : sum (x.map sz_Int64SS) ≤ 1048576
abbrev W_Int64SSS (x : List (List (List Int))) : Prop := x.length ≤ 9223372036854775807 ∧ ∀ y ∈ x, W_Int64SS y
abbrev sz_Int64SSS (x : List (List (List Int))) : Nat := sum (x.map sz_Int64SS)
abbrev mk_Int64SSS (k : Int) (x : List (List (List Int))) : List (List (List Int)) := mks mk_Int64SS sz_Int64SS k x
theorem size_Int64SSS {x : List (List (List Int))} (hB : B_Int64SSS x) : sz_Int64SSS x ≤ 1048576 := hB.tot
section
variable {S : Ids} {H0 : AH} {W : Ids} {a a' : Option Addr} {c c' : Nat} {left k : Int}
/-- .. with the very number. -/
theorem szx_Int64SS {x : List (List Int)} (l0 : 0 ≤ left) (l1 : left ≤ 1048576) (hW : W_Int64SS x) (hs : K_Int64SS.R S H0 x [.slice a x.length c]) : Spec Try.prog S H0 70 [.slice a x.length c, .int .i64 left] (fun v => ∃ r : Int, v = .int .i64 r ∧ (r = -1 ∨ (0 ≤ r ∧ r = left - ts_Int64SS x ∧ B_Int64SS x))) := by
  have hs := sl1 hs
  have hx := hW.1
  refine Spec.of1 Try.func70 rfl (by kernel_rfl) rfl (fun H _ => ?_)
  have e : IntKind.i64.wrap (left - (x.length : Int)) = left - (x.length : Int) := wr (by omega) (by omega)
  refine KW.cnd rfl rfl (fun h => KW.ret rfl rfl rfl rfl ⟨-1, rfl, .inl rfl⟩) (fun h => ?_)
  rw [e] at h
  refine KW.lp rfl rfl (fun s : Nat × Int => [(0, .slice a x.length c), (1, .int .i64 s.2), (5, .int .i64 s.1)]) (fun s => s.1 ≤ x.length ∧ 0 ≤ s.2 ∧ s.2 = left - x.length - (sum ((lens x).take s.1) : Nat)) (fun s => x.length - s.1) ((0, left - x.length)) (⟨by omega, by simp only; omega, by simp [sum]⟩) ⟨rfl, congrArg (Value.int .i64) e, rfl, trivial⟩ (fun s hi bE n => ?_)
  obtain ⟨i, r⟩ := s
  obtain ⟨hi, hr0, hr1⟩ := hi
  simp only at hi hr0 hr1
  refine KW.cnd rfl rfl (fun h2 => ?_) (fun h2 => KW.ret rfl rfl rfl rfl ⟨_, rfl, .inr ⟨hr0, ?_, ?_⟩⟩)
  · refine KW.getL hs.up rfl rfl rfl rfl rfl rfl rfl rfl rfl rfl rfl rfl rfl rfl rfl rfl (by omega) (h2) (fun y a' m hy hsy => ?_)
    have hy : x[i]? = some y := hy
    have hyl : (lens x)[i]? = some y.length := by simp [hy]
    have hsum := sum_take hyl
    refine KW.call rfl rfl rfl rfl rfl (szInt64S' hr0 (by omega) (hW.2 y (List.mem_of_getElem? hy))) (fun v _ _ hv => ?_)
    obtain ⟨q, rfl, hq⟩ := hv
    refine KW.cnd rfl rfl (fun h3 => KW.ret rfl rfl rfl rfl ⟨-1, rfl, .inl rfl⟩) (fun h3 => ?_)
    exact KW.nxt rfl rfl (fun H g => ⟨(i + 1, q), ⟨by simp only; omega, by simp only; omega, by simp only [hsum]; omega⟩, by simp only; omega, ⟨rfl, rfl, congrArg (Value.int .i64) (inc64 (by omega)), trivial⟩, g⟩)
  · have : i = x.length := by omega
    subst this
    rw [List.take_of_length_le (by simp)] at hr1
    simp only [ts_Int64SS]; omega
  · have : i = x.length := by omega
    subst this
    rw [List.take_of_length_le (by simp)] at hr1
    exact ⟨by omega, by omega⟩
theorem sz_Int64SSS' {x : List (List (List Int))} (l0 : 0 ≤ left) (l1 : left ≤ 1048576) (hW : W_Int64SSS x) (hs : K_Int64SSS.R S H0 x [.slice a x.length c]) : Spec Try.prog S H0 102 [.slice a x.length c, .int .i64 left] (SzPost left (B_Int64SSS x)) := by
  have hs := sl1 hs
  have hx := hW.1
  refine Spec.of1 Try.func102 rfl (by kernel_rfl) rfl (fun H _ => ?_)
  have e : IntKind.i64.wrap (left - (x.length : Int)) = left - (x.length : Int) := wr (by omega) (by omega)
  refine KW.cnd rfl rfl (fun h => KW.ret rfl rfl rfl rfl ⟨-1, rfl, .inl rfl⟩) (fun h => ?_)
  rw [e] at h
  refine KW.lp rfl rfl (fun s : Nat × Int => [(0, .slice a x.length c), (1, .int .i64 s.2), (5, .int .i64 s.1)]) (fun s => s.1 ≤ x.length ∧ 0 ≤ s.2 ∧ s.2 = left - x.length - (sum ((x.map ts_Int64SS).take s.1) : Nat) ∧ ∀ j y, j < s.1 → x[j]? = some y → B_Int64SS y) (fun s => x.length - s.1) ((0, left - x.length)) (⟨by omega, by simp only; omega, by simp [sum], fun j y h => absurd h (by simp)⟩) ⟨rfl, congrArg (Value.int .i64) e, rfl, trivial⟩ (fun s hi bE n => ?_)
  obtain ⟨i, r⟩ := s
  obtain ⟨hi, hr0, hr1, hb⟩ := hi
  simp only at hi hr0 hr1 hb
  refine KW.cnd rfl rfl (fun h2 => ?_) (fun h2 => KW.ret rfl rfl rfl rfl ⟨_, rfl, .inr ⟨hr0, by simp only; omega, ⟨by omega, ?_, ?_⟩⟩⟩)
  · refine KW.getL hs.up rfl rfl rfl rfl rfl rfl rfl rfl rfl rfl rfl rfl rfl rfl rfl rfl (by omega) (h2) (fun y a' m hy hsy => ?_)
    have hy : x[i]? = some y := hy
    have hyl : (x.map ts_Int64SS)[i]? = some (ts_Int64SS y) := by simp [hy]
    have hsum := sum_take hyl
    refine KW.call rfl rfl rfl rfl rfl (szx_Int64SS hr0 (by omega) (hW.2 y (List.mem_of_getElem? hy)) (sl1' hsy)) (fun v _ _ hv => ?_)
    obtain ⟨q, rfl, hq⟩ := hv
    refine KW.cnd rfl rfl (fun h3 => KW.ret rfl rfl rfl rfl ⟨-1, rfl, .inl rfl⟩) (fun h3 => ?_)
    have hq := hq.resolve_left (by omega)
    exact KW.nxt rfl rfl (fun H g => ⟨(i + 1, q), ⟨by simp only; omega, hq.1, by simp only [hsum]; have := hq.2.1; simp only [ts_Int64SS] at *; omega, fun j z hj hz => by
      rcases Nat.lt_or_ge j i with h | h
      · exact hb j z h hz
      · obtain rfl : j = i := by simp only at hj; omega
        rw [hy] at hz
        cases hz
        exact hq.2.2⟩, by simp only; omega, ⟨rfl, rfl, congrArg (Value.int .i64) (inc64 (by omega)), trivial⟩, g⟩)
  · intro y hy
    obtain ⟨j, hj⟩ := List.getElem?_of_mem hy
    have := (List.getElem?_eq_some_iff.1 hj).1
    exact hb j y (by omega) hj
  · have : i = x.length := by omega
    subst this
    rw [List.take_of_length_le (by simp)] at hr1
    have := sum_le2 (f := sz_Int64SS) (g := ts_Int64SS) x (fun y => by simp only [sz_Int64SS, ts_Int64SS]; omega)
    omega
theorem to_Int64SSS {x : List (List (List Int))} (hB : B_Int64SSS x) (hs : K_Int64SSS.R S H0 x [.slice a x.length c]) : SpecM Try.prog S H0 106 [.slice a x.length c] (fun n v H1 => ∃ a c, v = .slice a x.length c ∧ M_Int64SSS.R (New n H1.n) H1 x [.slice a x.length c]) := by
  have hs := sl1 hs
  have hl := hB.len
  refine SpecM.of1 Try.func106 rfl (by kernel_rfl) rfl (fun H _ => ?_)
  refine KW.mk1 rfl rfl rfl rfl rfl rfl rfl rfl rfl rfl rfl rfl (x.length) rfl rfl (by omega) (by show 24 * _ ≤ _; omega) ?_
  refine KW.lpM rfl rfl (fun s : MkS => [(0, .slice a x.length c), (3, .slice (some ⟨H.n, 0, some 1⟩) x.length x.length), (4, .int .i64 s.i)]) (fun s => s.S) (fun s => s.A) (fun s => [(H.n, ⟨_, true, s.cs⟩)]) (fun s => MkI M_Int64SS x H s) (fun s => x.length - s.i) ⟨0, Low H.n, H, fun _ _ => False, List.replicate x.length (.slice none 0 0)⟩
    (MkI.start (by simp)) ⟨rfl, rfl, rfl, trivial⟩ rfl rfl rfl (fun s hi b n => ?_)
  have hle := hi.le
  refine KW.fact (p := H.n < n ∧ ∀ id, s.S id → id < n) (fun _ g => ⟨(g.vars 0 _ rfl).2.1, fun id hid => (g.froz id hid).1⟩) (fun hHn => ?_)
  haveI : Stp (Low H.n) H s.S s.A := ⟨hi.old⟩
  refine KW.cnd rfl rfl (fun h => ?_) (fun h => ?_)
  · refine KW.getL hs.up rfl rfl rfl rfl rfl rfl rfl rfl rfl rfl rfl rfl rfl rfl rfl rfl (by omega) (h) (fun y a' m hy hsy => ?_)
    have hy : x[s.i]? = some y := hy
    refine KW.callN rfl rfl rfl rfl rfl (to_Int64SS (hB.each y (List.mem_of_getElem? hy)) (sl1' hsy)) (fun v H1 S' hn st hw hv => ?_)
    obtain ⟨a2, c2, rfl, hv⟩ := hv
    refine KW.idx0 rfl rfl rfl rfl rfl rfl rfl rfl rfl (by omega) (by omega) ?_
    refine KW.st1 0 rfl rfl rfl rfl rfl rfl rfl rfl rfl rfl rfl rfl (by have := hi.len; simp only; omega) ?_
    exact KW.nxt rfl rfl (fun H' g => ⟨_, hi.next hHn.1 hHn.2 st hw hy hv, by simp only; omega, ⟨rfl, rfl, congrArg (Value.int .i64) (inc64 (by omega)), trivial⟩, g⟩)
  · have he : s.i = x.length := by omega
    refine KW.retM rfl rfl rfl rfl hi.old (fun H1 g => ?_)
    exact ⟨_, _, rfl, ml1' (hi.ml he rfl rfl g)⟩
theorem eq_Int64SSS {x : List (List (List Int))} (hB : B_Int64SSS x) (hs : K_Int64SSS.R S H0 x [.slice a x.length c]) (hs' : K_Int64SSS.R S H0 x [.slice a' x.length c']) : Spec Try.prog S H0 112 [.slice a x.length c, .slice a' x.length c'] (fun v => v = .bool true) := by
  have hs := sl1 hs
  have hs' := sl1 hs'
  have hl := hB.len
  refine Spec.of1 Try.func112 rfl (by kernel_rfl) rfl (fun H _ => ?_)
  refine KW.cF rfl rfl (by first | (simp; done) | decide) ?_
  refine KW.lp rfl rfl (fun i : Nat => [(0, .slice a x.length c), (1, .slice a' x.length c'), (5, .int .i64 i)]) (fun i => i ≤ x.length) (fun i => x.length - i) (0) (by omega) ⟨rfl, rfl, rfl, trivial⟩ (fun i hi bE n => ?_)
  refine KW.cnd rfl rfl (fun h => ?_) (fun h => ?_)
  · refine KW.getL hs.up rfl rfl rfl rfl rfl rfl rfl rfl rfl rfl rfl rfl rfl rfl rfl rfl (by omega) (h) (fun y a1 m1 hy hsy => ?_)
    refine KW.getL hs'.up rfl rfl rfl rfl rfl rfl rfl rfl rfl rfl rfl rfl rfl rfl rfl rfl (by omega) (h) (fun z a2 m2 hz hsz => ?_)
    have hy : x[i]? = some y := hy
    have hz : x[i]? = some z := hz
    rw [hy] at hz
    cases hz
    refine KW.callE rfl rfl rfl rfl rfl (eq_Int64SS (hB.each y (List.mem_of_getElem? hy)) (sl1' hsy) (sl1' hsz)) (fun _ _ => ?_)
    refine KW.cF rfl rfl (by first | (simp; done) | decide) ?_
    refine KW.nxt rfl rfl (fun H' g => ⟨i + 1, by omega, by first | omega | (simp only; omega), ⟨rfl, rfl, congrArg (Value.int .i64) (inc64 (by omega)), trivial⟩, g⟩)
  · exact KW.ret rfl rfl rfl rfl (rfl)
end
end Go.Proofs.Ytijmkfnmdhpakaa.Am
/- What the laws' own functions do at Deal: sizes, copies, equality, marks. Each holds under its own conditions. -/
set_option linter.unusedVariables false
set_option maxRecDepth 20000
namespace Go.Proofs.Ytijmkfnmdhpakaa.Am
open Go Go.RowKit Go.Proofs
abbrev T_Deal : Type := (T_Scheme) × (Int) × (List (List Int)) × (List (List (List Int)))
abbrev K_Deal : Kn T_Deal := Kn.pair (K_Scheme) (Kn.pair (KI) (Kn.pair (K_Int64SS) (K_Int64SSS)))
abbrev M_Deal : Kn T_Deal := Kn.mp (M_Scheme) (Kn.mp (KI) (Kn.mp (M_Int64SS) (M_Int64SSS)))
theorem le_Deal : KLe M_Deal K_Deal := KLe.pair (le_Scheme) (KLe.pair ((KLe.refl KI)) (KLe.pair (le_Int64SS) (le_Int64SSS)))
abbrev B_Deal (x : T_Deal) : Prop := B_Scheme x.1 ∧ I64 x.2.1 ∧ B_Int64SS x.2.2.1 ∧ B_Int64SSS x.2.2.2
abbrev W_Deal (x : T_Deal) : Prop := W_Scheme x.1 ∧ I64 x.2.1 ∧ W_Int64SS x.2.2.1 ∧ W_Int64SSS x.2.2.2
abbrev sz_Deal (x : T_Deal) : Nat := sz_Scheme x.1 + sz_Int64SS x.2.2.1 + sz_Int64SSS x.2.2.2
abbrev mk_Deal (k : Int) (x : T_Deal) : T_Deal := (mk_Scheme (k) x.1, x.2.1, mk_Int64SS (k + (sz_Scheme x.1 : Nat)) x.2.2.1, mk_Int64SSS (k + (sz_Scheme x.1 : Nat) + (sz_Int64SS x.2.2.1 : Nat)) x.2.2.2)
theorem size_Deal {x : T_Deal} (hB : B_Deal x) : sz_Deal x ≤ 4194304 := by have := size_Scheme hB.1; have := size_Int64SS hB.2.2.1; have := size_Int64SSS hB.2.2.2; simp only [sz_Deal]; omega
section
variable {S : Ids} {H0 : AH} {W : Ids} {left k : Int}
theorem form_Deal {x : T_Deal} {cs : List Value} (h : K_Deal.R S H0 x cs) : ∃ a1 c1 a2 c2 a3 c3 a4 c4, cs = [.int .i64 x.1.1, .slice a1 x.1.2.1.length c1, .int .i64 x.1.2.2.1, .int .i64 x.1.2.2.2.1, .slice a2 x.1.2.2.2.2.length c2, .int .i64 x.2.1, .slice a3 x.2.2.1.length c3, .slice a4 x.2.2.2.length c4] := by
  obtain ⟨e0, d0, rfl, h0, h0_⟩ := h
  obtain ⟨e1, d1, rfl, h1, h1_⟩ := h0_
  obtain ⟨e2, d2, rfl, h2, h2_⟩ := h1_
  have h3 := h2_
  obtain ⟨a1, c1, a2, c2, rfl⟩ := form_Scheme h0
  obtain rfl := KI_of h1
  obtain ⟨a3, c3, rfl⟩ := slform h2
  obtain ⟨a4, c4, rfl⟩ := slform h3
  exact ⟨a1, c1, a2, c2, a3, c3, a4, c4, rfl⟩
theorem formM_Deal {x : T_Deal} {cs : List Value} (h : M_Deal.R S H0 x cs) : ∃ a1 c1 a2 c2 a3 c3 a4 c4, cs = [.int .i64 x.1.1, .slice a1 x.1.2.1.length c1, .int .i64 x.1.2.2.1, .int .i64 x.1.2.2.2.1, .slice a2 x.1.2.2.2.2.length c2, .int .i64 x.2.1, .slice a3 x.2.2.1.length c3, .slice a4 x.2.2.2.length c4] := form_Deal (le_Deal.2 _ _ _ _ h)
theorem split_Deal {x : T_Deal} {cs : List Value} (h : K_Deal.R S H0 x cs) : ∃ a1 c1 a2 c2 a3 c3 a4 c4, cs = [.int .i64 x.1.1, .slice a1 x.1.2.1.length c1, .int .i64 x.1.2.2.1, .int .i64 x.1.2.2.2.1, .slice a2 x.1.2.2.2.2.length c2, .int .i64 x.2.1, .slice a3 x.2.2.1.length c3, .slice a4 x.2.2.2.length c4] ∧ K_Scheme.R S H0 x.1 [.int .i64 x.1.1, .slice a1 x.1.2.1.length c1, .int .i64 x.1.2.2.1, .int .i64 x.1.2.2.2.1, .slice a2 x.1.2.2.2.2.length c2] ∧ K_Int64SS.R S H0 x.2.2.1 [.slice a3 x.2.2.1.length c3] ∧ K_Int64SSS.R S H0 x.2.2.2 [.slice a4 x.2.2.2.length c4] := by
  obtain ⟨e0, d0, rfl, h0, h0_⟩ := h
  obtain ⟨e1, d1, rfl, h1, h1_⟩ := h0_
  obtain ⟨e2, d2, rfl, h2, h2_⟩ := h1_
  have h3 := h2_
  obtain ⟨a1, c1, a2, c2, rfl⟩ := form_Scheme h0
  obtain rfl := KI_of h1
  obtain ⟨a3, c3, rfl⟩ := slform h2
  obtain ⟨a4, c4, rfl⟩ := slform h3
  exact ⟨a1, c1, a2, c2, a3, c3, a4, c4, rfl, h0, h2, h3⟩
theorem splitM_Deal {x : T_Deal} {cs : List Value} (h : M_Deal.R S H0 x cs) : ∃ (a1 : Option Addr) (c1 : Nat) (a2 : Option Addr) (c2 : Nat) (a3 : Option Addr) (c3 : Nat) (a4 : Option Addr) (c4 : Nat) (X0 : Ids) (X2 : Ids) (X3 : Ids), cs = [.int .i64 x.1.1, .slice a1 x.1.2.1.length c1, .int .i64 x.1.2.2.1, .int .i64 x.1.2.2.2.1, .slice a2 x.1.2.2.2.2.length c2, .int .i64 x.2.1, .slice a3 x.2.2.1.length c3, .slice a4 x.2.2.2.length c4] ∧ M_Scheme.R X0 H0 x.1 [.int .i64 x.1.1, .slice a1 x.1.2.1.length c1, .int .i64 x.1.2.2.1, .int .i64 x.1.2.2.2.1, .slice a2 x.1.2.2.2.2.length c2] ∧ M_Int64SS.R X2 H0 x.2.2.1 [.slice a3 x.2.2.1.length c3] ∧ M_Int64SSS.R X3 H0 x.2.2.2 [.slice a4 x.2.2.2.length c4] ∧ (∀ id, X0 id → S id) ∧ (∀ id, X2 id → S id) ∧ (∀ id, X3 id → S id) ∧ (∀ id, X0 id → X2 id → False) ∧ (∀ id, X0 id → X3 id → False) ∧ (∀ id, X2 id → X3 id → False) := by
  obtain ⟨e0, d0, X0, Y0, rfl, i0, j0, q0, h0, h0_⟩ := h
  obtain ⟨e1, d1, X1, Y1, rfl, i1, j1, q1, h1, h1_⟩ := h0_
  obtain ⟨e2, d2, X2, Y2, rfl, i2, j2, q2, h2, h2_⟩ := h1_
  have h3 := h2_
  obtain ⟨a1, c1, a2, c2, rfl⟩ := formM_Scheme h0
  obtain rfl := KI_of h1
  obtain ⟨a3, c3, rfl⟩ := mlform h2
  obtain ⟨a4, c4, rfl⟩ := mlform h3
  exact ⟨a1, c1, a2, c2, a3, c3, a4, c4, X0, X2, Y2, rfl, h0, h2, h3, fun _ p => i0 _ p, fun _ p => j0 _ (j1 _ (i2 _ p)), fun _ p => j0 _ (j1 _ (j2 _ p)), fun _ o p => q0 _ o (j1 _ (i2 _ p)), fun _ o p => q0 _ o (j1 _ (j2 _ p)), fun _ o p => q2 _ o (p)⟩
theorem to_Deal {x : T_Deal} {cs : List Value} (hB : B_Deal x) (h : K_Deal.R S H0 x cs) : SpecM Try.prog S H0 39 [.agg cs.toArray] (fun n v H1 => ∃ cs, v = .agg cs.toArray ∧ M_Deal.R (New n H1.n) H1 x cs) := by
  obtain ⟨a1, c1, a2, c2, a3, c3, a4, c4, rfl, h0, h2, h3⟩ := split_Deal h
  refine SpecM.of1 Try.func39 rfl (by kernel_rfl) rfl (fun H _ => ?_)
  refine KW.callN1 rfl rfl rfl rfl rfl (to_Scheme hB.1 (On.R h0)) (fun v G0 S0 m0 _ _ hv => ?_)
  obtain ⟨w0, rfl, g0⟩ := hv
  obtain ⟨b0_0, d0_0, b0_1, d0_1, rfl⟩ := formM_Scheme g0
  refine KW.callN1 rfl rfl rfl rfl rfl (to_Int64SS hB.2.2.1 (On.R h2)) (fun v G2 S2 m2 _ _ hv => ?_)
  obtain ⟨b2, d2, rfl, g2⟩ := hv
  refine KW.callN1 rfl rfl rfl rfl rfl (to_Int64SSS hB.2.2.2 (On.R h3)) (fun v G3 S3 m3 _ _ hv => ?_)
  obtain ⟨b3, d3, rfl, g3⟩ := hv
  refine KW.retM1 rfl rfl rfl rfl (fun H1 g => ?_)
  refine ⟨_, rfl, ?_⟩
  have k3 : M_Int64SSS.R (New G2.n H1.n) H1 x.2.2.2 [.slice b3 x.2.2.2.length d3] := (M_Int64SSS).more (g.inn (H := G3) (fun _ p => by have := p.1; omega)) (g.keep g3)
  have k2 : (Kn.mp (M_Int64SS) (M_Int64SSS)).R (New G0.n H1.n) H1 (x.2.2) [.slice b2 x.2.2.1.length d2, .slice b3 x.2.2.2.length d3] := mpR (g.keep g2) k3 (g.inn (H := G2) (fun _ p => by have := p.1; omega)) (fun _ p => ⟨by have := p.1; have := m2; omega, p.2⟩) (fun _ o p => by have := o.2; have := p.1; omega)
  have k1 : (Kn.mp (KI) (Kn.mp (M_Int64SS) (M_Int64SSS))).R (New G0.n H1.n) H1 (x.2) [.int .i64 x.2.1, .slice b2 x.2.2.1.length d2, .slice b3 x.2.2.2.length d3] := mpR (X := None_) (show KI.R None_ H1 _ [.int .i64 x.2.1] from rfl) k2 (fun _ p => p.elim) (fun _ p => p) (fun _ p _ => p.elim)
  have k0 : (Kn.mp (M_Scheme) (Kn.mp (KI) (Kn.mp (M_Int64SS) (M_Int64SSS)))).R (New H.n H1.n) H1 (x) [.int .i64 x.1.1, .slice b0_0 x.1.2.1.length d0_0, .int .i64 x.1.2.2.1, .int .i64 x.1.2.2.2.1, .slice b0_1 x.1.2.2.2.2.length d0_1, .int .i64 x.2.1, .slice b2 x.2.2.1.length d2, .slice b3 x.2.2.2.length d3] := mpR (g.keep g0) k1 (g.inn (H := G0) (fun _ p => by have := p.1; omega)) (fun _ p => ⟨by have := p.1; have := m0; omega, p.2⟩) (fun _ o p => by have := o.2; have := p.1; omega)
  exact k0
theorem eq_Deal {x : T_Deal} {cs cs' : List Value} (hB : B_Deal x) (h : K_Deal.R S H0 x cs) (h' : K_Deal.R S H0 x cs') : Spec Try.prog S H0 42 [.agg cs.toArray, .agg cs'.toArray] (fun v => v = .bool true) := by
  obtain ⟨a1, c1, a2, c2, a3, c3, a4, c4, rfl, h0, h2, h3⟩ := split_Deal h
  obtain ⟨b1, d1, b2, d2, b3, d3, b4, d4, rfl, k0, k2, k3⟩ := split_Deal h'
  refine Spec.of1 Try.func42 rfl (by kernel_rfl) rfl (fun H _ => ?_)
  refine KW.callE rfl rfl rfl rfl rfl (eq_Scheme hB.1 (On.R h0) (On.R k0)) (fun _ _ => ?_)
  refine KW.cF rfl rfl (by first | (simp; done) | decide) ?_
  refine KW.cF rfl rfl (by first | (simp; done) | decide) ?_
  refine KW.callE rfl rfl rfl rfl rfl (eq_Int64SS hB.2.2.1 (On.R h2) (On.R k2)) (fun _ _ => ?_)
  refine KW.cF rfl rfl (by first | (simp; done) | decide) ?_
  refine KW.callE rfl rfl rfl rfl rfl (eq_Int64SSS hB.2.2.2 (On.R h3) (On.R k3)) (fun _ _ => ?_)
  refine KW.cF rfl rfl (by first | (simp; done) | decide) ?_
  exact KW.ret rfl rfl rfl rfl (rfl)
theorem sz_Deal' {x : T_Deal} {cs : List Value} (l0 : 0 ≤ left) (l1 : left ≤ 1048576) (hW : W_Deal x) (h : K_Deal.R S H0 x cs) : Spec Try.prog S H0 36 [.agg cs.toArray, .int .i64 left] (SzPost left (B_Deal x)) := by
  obtain ⟨a1, c1, a2, c2, a3, c3, a4, c4, rfl, h0, h2, h3⟩ := split_Deal h
  refine Spec.of1 Try.func36 rfl (by kernel_rfl) rfl (fun H _ => ?_)
  refine KW.call rfl rfl rfl rfl rfl (sz_Scheme' l0 l1 hW.1 (On.R h0)) (fun v _ _ hv => ?_)
  obtain ⟨r0, rfl, k0⟩ := hv
  refine KW.cnd rfl rfl (fun h => KW.ret rfl rfl rfl rfl ⟨-1, rfl, .inl rfl⟩) (fun h => ?_)
  have k0 := k0.resolve_left (by omega)
  refine KW.call rfl rfl rfl rfl rfl (sz_Int64SS' k0.1 (by have := k0.2.1; omega) hW.2.2.1 (On.R h2)) (fun v _ _ hv => ?_)
  obtain ⟨r2, rfl, k2⟩ := hv
  refine KW.cnd rfl rfl (fun h => KW.ret rfl rfl rfl rfl ⟨-1, rfl, .inl rfl⟩) (fun h => ?_)
  have k2 := k2.resolve_left (by omega)
  refine KW.call rfl rfl rfl rfl rfl (sz_Int64SSS' k2.1 (by have := k2.2.1; omega) hW.2.2.2 (On.R h3)) (fun v _ _ hv => ?_)
  obtain ⟨r3, rfl, k3⟩ := hv
  refine KW.cnd rfl rfl (fun h => KW.ret rfl rfl rfl rfl ⟨-1, rfl, .inl rfl⟩) (fun h => ?_)
  have k3 := k3.resolve_left (by omega)
  exact KW.ret rfl rfl rfl rfl (⟨_, rfl, .inr ⟨k3.1, by have := k0.2.1; have := k2.2.1; have := k3.2.1; omega, k0.2.2, hW.2.1, k2.2.2, k3.2.2⟩⟩)
end
end Go.Proofs.Ytijmkfnmdhpakaa.Am
/- Contracts: valid schemes and deals, of the program and of the reference. Each holds under its own conditions. -/
set_option linter.unusedVariables false
set_option maxRecDepth 20000
namespace Go.Proofs.Ytijmkfnmdhpakaa.Am
open Go Go.RowKit Go.Proofs
structure OkSch (h : Int) (ow : List Int) (p c : Int) (rows : List (List Int)) : Prop where
  h1 : 1 ≤ h
  h7 : h ≤ 7
  mat : OkMat p c rows
  c1 : 1 ≤ c
  len : ow.length = rows.length
  own : ∀ x ∈ ow, 0 ≤ x ∧ x ≤ h - 1
section
variable {S : Ids} {H0 : AH}
theorem validScheme1 (h y : Int) (hh : 1 ≤ h ∧ h ≤ 7) {id : Nat} {b : Blk} {vs : List Value} (hb : b.cells = .int .i64 h :: vs) (hv : S id ∧ H0.m id = some b) : Spec Try.prog S H0 188 [.int .i64 y, .pointer (some ⟨id, 0, none⟩)] (fun v => v = .bool (!decide (0 ≤ y ∧ y ≤ h - 1))) := by
  refine Spec.of1 Try.func188 rfl (by kernel_rfl) rfl (fun H _ => ?_)
  obtain ⟨hS1, hm1⟩ := On.blk (S' := Low H.n) (H' := H) hv.1 hv.2
  obtain ⟨ty, rw, cs⟩ := b
  subst hb
  refine KW.ldP hS1 hm1 rfl rfl rfl rfl rfl rfl ?_
  refine KW.callE rfl rfl rfl rfl rfl (within _ _ _) (fun _ _ => ?_)
  have e : IntKind.i64.wrap (h - 1) = h - 1 := wr (by omega) (by omega)
  refine KW.ret rfl rfl rfl rfl ?_
  rw [e]; rfl
theorem validScheme (h p c : Int) (hp : I64 p) {a1 c1 a2 c2} {ow : List Int} {rows : List (List Int)} (hO : B_Int64S ow) (hB : B_Int64SS rows) (ho : KI.Sl S H0 (.slice a1 ow.length c1) ow) (hs : KI.sl.Sl S H0 (.slice a2 rows.length c2) rows) :
    Spec Try.prog S H0 123 [.agg #[.int .i64 h, .slice a1 ow.length c1, .int .i64 p, .int .i64 c, .slice a2 rows.length c2]] (fun v => v = .bool (tv (OkSch h ow p c rows))) := by
  refine Spec.of1 Try.func123 rfl (by kernel_rfl) rfl (fun H _ => ?_)
  refine KW.callE rfl rfl rfl rfl rfl (within _ _ _) (fun _ _ => ?_)
  refine KW.tstB rfl rfl (fun k1 => ?_) (fun k1 => ?_)
  · have k1 : 1 ≤ h ∧ h ≤ 7 := by simpa using k1
    refine KW.callE rfl rfl rfl rfl rfl (validMatrix p c hp hB hs.up) (fun _ _ => ?_)
    refine KW.tstB rfl rfl (fun k2 => ?_) (fun k2 => ?_)
    · have k2 := tv_iff.1 k2
      refine KW.tst rfl rfl (fun k3 => ?_) (fun k3 => ?_)
      · have k3 : 1 ≤ c := k3
        refine KW.tstB rfl rfl (fun k4 => ?_) (fun k4 => ?_)
        · have k4 : ow.length = rows.length := by simp at k4; omega
          have hO' : ow.length ≤ 1048576 := hO
          refine KW.callV1 rfl rfl rfl rfl rfl (fun H1 g _ => containsFuncI (p := fun y => !decide (0 ≤ y ∧ y ≤ h - 1)) (by omega) ho.up (fun S' H' o y _ => validScheme1 h y k1 rfl (g.var (j := 0) rfl))) (fun _ _ => ?_)
          refine KW.ret rfl rfl rfl rfl ?_
          show Value.bool (!tv (∃ x ∈ ow, (!decide (0 ≤ x ∧ x ≤ h - 1)) = true)) = _
          by_cases hx : OkSch h ow p c rows
          · rw [tv_true hx, tv_false (fun ⟨x, h1, h2⟩ => by have := hx.own x h1; simp at h2; omega)]; rfl
          · rw [tv_false hx, tv_true ?_]; · rfl
            refine Classical.byContradiction fun hc => hx ⟨k1.1, k1.2, k2, k3, k4, fun x h1 => ?_⟩
            refine Classical.byContradiction fun h2 => hc ⟨x, h1, by simp; omega⟩
        · have k4 : ow.length ≠ rows.length := by simp at k4; omega
          repeat first | refine KW.tT rfl rfl rfl ?_ | refine KW.tF rfl rfl rfl ?_
          exact KW.ret rfl rfl rfl rfl (by rw [tv_false (p := OkSch h ow p c rows) (fun hc => k4 hc.len)]; rfl)
      · have k3 : ¬ 1 ≤ c := k3
        repeat first | refine KW.tT rfl rfl rfl ?_ | refine KW.tF rfl rfl rfl ?_
        exact KW.ret rfl rfl rfl rfl (by rw [tv_false (p := OkSch h ow p c rows) (fun hc => k3 hc.c1)]; rfl)
    · repeat first | refine KW.tT rfl rfl rfl ?_ | refine KW.tF rfl rfl rfl ?_
      exact KW.ret rfl rfl rfl rfl (by rw [tv_false (p := OkSch h ow p c rows) (fun hc => by rw [tv_true hc.mat] at k2; cases k2)]; rfl)
  · have k1 : ¬ (1 ≤ h ∧ h ≤ 7) := by simp at k1; omega
    repeat first | refine KW.tT rfl rfl rfl ?_ | refine KW.tF rfl rfl rfl ?_
    exact KW.ret rfl rfl rfl rfl (by rw [tv_false (p := OkSch h ow p c rows) (fun hc => k1 ⟨hc.h1, hc.h7⟩)]; rfl)
theorem Has3.drop {S : Ids} {H : AH} {id k : Nat} {vs ws : List Value} (h : Has3 S H id k (vs ++ ws)) : Has3 S H id (k + vs.length) ws := by
  obtain ⟨h1, b, h2, h3⟩ := h
  exact ⟨h1, b, h2, fun i v hi => by rw [Nat.add_assoc]; exact h3 _ v (by rw [List.getElem?_append_right (by omega)]; simpa using hi)⟩
theorem Has3.take {S : Ids} {H : AH} {id k : Nat} {vs ws : List Value} (h : Has3 S H id k (vs ++ ws)) : Has3 S H id k vs := by
  obtain ⟨h1, b, h2, h3⟩ := h
  exact ⟨h1, b, h2, fun i v hi => h3 i v (by rw [List.getElem?_append_left (List.getElem?_eq_some_iff.1 hi).1]; exact hi)⟩
theorem Good.has {S0 : Ids} {H0 H1 : AH} {T : List Var} {n j id : Nat} {b : Blk} {vs : List Value} (g : Good S0 H0 T n H1) (hj : T[j]? = some (id, b)) (hb : b.cells = vs) : Has3 (Low H1.n) H1 id 0 vs := ⟨(g.blk hj).2, b, (g.blk hj).1, fun i v hi => by rw [hb, Nat.zero_add]; exact hi⟩
theorem l04Ok (h p c : Int) (hp : I64 p) {id k : Nat} {a1 c1 a2 c2} {ow : List Int} {rows : List (List Int)} (hO : B_Int64S ow) (hB : B_Int64SS rows) (hv : Has3 S H0 id k [.int .i64 h, .slice a1 ow.length c1, .int .i64 p, .int .i64 c, .slice a2 rows.length c2]) (ho : KI.Sl S H0 (.slice a1 ow.length c1) ow) (hs : KI.sl.Sl S H0 (.slice a2 rows.length c2) rows) :
    Spec Try.prog S H0 204 [.pointer (some ⟨id, k, none⟩)] (fun v => v = .bool (tv (OkSch h ow p c rows))) := by
  refine Spec.of1 Try.func204 rfl (by kernel_rfl) rfl (fun H _ => ?_)
  have hO' : ow.length ≤ 1048576 := hO
  have hv := hv.up (S' := Low H.n) (H' := H)
  have ho := ho.up (S' := Low H.n) (H' := H)
  have hs := hs.up (S' := Low H.n) (H' := H)
  refine KW.ldF 0 hv rfl rfl rfl rfl rfl rfl rfl rfl rfl ?_
  refine KW.callE rfl rfl rfl rfl rfl (l00In _ _ _) (fun _ _ => ?_)
  refine KW.tstB rfl rfl (fun k1 => ?_) (fun k1 => ?_)
  · have k1 : ¬ (1 ≤ h ∧ h ≤ 7) := by simp at k1; omega
    repeat first | refine KW.tT rfl rfl rfl ?_ | refine KW.tF rfl rfl rfl ?_
    first | refine KW.cT rfl rfl rfl ?_ | refine KW.cF rfl rfl rfl ?_
    exact KW.ret rfl rfl rfl rfl (by rw [tv_false (p := OkSch h ow p c rows) (fun hc => k1 ⟨hc.h1, hc.h7⟩)]; rfl)
  have k1 : 1 ≤ h ∧ h ≤ 7 := by simpa using k1
  refine KW.callE rfl rfl rfl rfl rfl (l03Ok p c hp hB (hv.drop (vs := [_, _])) hs) (fun _ _ => ?_)
  refine KW.tstB rfl rfl (fun k2 => ?_) (fun k2 => ?_)
  · repeat first | refine KW.tT rfl rfl rfl ?_ | refine KW.tF rfl rfl rfl ?_
    first | refine KW.cT rfl rfl rfl ?_ | refine KW.cF rfl rfl rfl ?_
    exact KW.ret rfl rfl rfl rfl (by rw [tv_false (p := OkSch h ow p c rows) (fun hc => by rw [tv_true hc.mat] at k2; cases k2)]; rfl)
  have k2 : OkMat p c rows := tv_iff.1 (by simpa using k2)
  refine KW.ldF 3 hv rfl rfl rfl rfl rfl rfl rfl rfl rfl ?_
  refine KW.tst rfl rfl (fun k3 => ?_) (fun k3 => ?_)
  · have k3 : c < 1 := k3
    repeat first | refine KW.tT rfl rfl rfl ?_ | refine KW.tF rfl rfl rfl ?_
    first | refine KW.cT rfl rfl rfl ?_ | refine KW.cF rfl rfl rfl ?_
    exact KW.ret rfl rfl rfl rfl (by rw [tv_false (p := OkSch h ow p c rows) (fun hc => by have := hc.c1; omega)]; rfl)
  have k3 : ¬ c < 1 := k3
  refine KW.ldF 1 hv rfl rfl rfl rfl rfl rfl rfl rfl rfl ?_
  refine KW.ldF 4 hv rfl rfl rfl rfl rfl rfl rfl rfl rfl ?_
  refine KW.cndB rfl rfl (fun k4 => ?_) (fun k4 => ?_)
  · have k4 : ow.length ≠ rows.length := by simp at k4; omega
    exact KW.ret rfl rfl rfl rfl (by rw [tv_false (p := OkSch h ow p c rows) (fun hc => k4 hc.len)]; rfl)
  have k4 : ow.length = rows.length := by simp at k4; omega
  refine KW.lp rfl rfl (fun i : Nat => [(0, .pointer (some ⟨id, k, none⟩)), (3, .int .i64 i)]) (fun i => i ≤ ow.length ∧ ∀ j, j < i → ∀ x, ow[j]? = some x → 0 ≤ x ∧ x ≤ h - 1) (fun i => ow.length - i) (0) (⟨by omega, fun j h => absurd h (by omega)⟩) ⟨rfl, rfl, trivial⟩ (fun i hi bE n => ?_)
  obtain ⟨hi, hj⟩ := hi
  refine KW.ldF 1 hv rfl rfl rfl rfl rfl rfl rfl rfl rfl ?_
  refine KW.cnd rfl rfl (fun k5 => ?_) (fun k5 => ?_)
  · refine KW.ldF 1 hv rfl rfl rfl rfl rfl rfl rfl rfl rfl ?_
    refine KW.getI ho rfl rfl rfl rfl rfl rfl rfl rfl rfl rfl rfl rfl rfl rfl rfl rfl (by omega) (k5) (fun y hy => ?_)
    have hy : ow[i]? = some y := hy
    refine KW.ldF 0 hv rfl rfl rfl rfl rfl rfl rfl rfl rfl ?_
    refine KW.callE rfl rfl rfl rfl rfl (l00In _ _ _) (fun _ _ => ?_)
    have e : IntKind.i64.wrap (h - 1) = h - 1 := wr (by omega) (by omega)
    rw [e]
    refine KW.cndB rfl rfl (fun k6 => ?_) (fun k6 => ?_)
    · exact KW.ret rfl rfl rfl rfl (by rw [tv_false (p := OkSch h ow p c rows) (fun hc => by have := hc.own y (List.mem_of_getElem? hy); simp at k6; omega)]; rfl)
    · refine KW.nxt rfl rfl (fun H' g => ⟨i + 1, ⟨by omega, upto hj (fun z hz => by rw [hy] at hz; cases hz; simpa using k6)⟩, by first | omega | (simp only; omega), ⟨rfl, congrArg (Value.int .i64) (inc64 (by omega)), trivial⟩, g⟩)
  · exact KW.ret rfl rfl rfl rfl (by rw [tv_true (p := OkSch h ow p c rows) ⟨k1.1, k1.2, k2, by omega, k4, all_of (fun j hjl => hj j (by omega))⟩]; rfl)
end
/-- Keys of an epoch. -/
def KeysOk (p : Int) (n : Nat) (kk : List (List Int)) : Prop := kk.length = n ∧ ∀ y ∈ kk, y.length = 2 ∧ Elems p y
structure OkDeal (h : Int) (ow : List Int) (p c : Int) (rows : List (List Int)) (s : Int) (bs : List (List Int)) (ks : List (List (List Int))) : Prop where
  sch : OkSch h ow p c rows
  sec : 0 ≤ s ∧ s ≤ p - 1
  bl : 1 ≤ bs.length ∧ bs.length ≤ 4
  kl : ks.length = bs.length
  bk : ∀ (e : Nat) b kk, bs[e]? = some b → ks[e]? = some kk → ((b.length : Int) = c - 1 ∧ Elems p b) ∧ KeysOk p rows.length kk
section
variable {S : Ids} {H0 : AH}
theorem validDeal (h p c s : Int) (hp : I64 p) {a1 c1 a2 c2 a3 c3 a4 c4} {ow : List Int} {rows bs : List (List Int)} {ks : List (List (List Int))} (hO : B_Int64S ow) (hB : B_Int64SS rows) (hBb : B_Int64SS bs) (hBk : B_Int64SSS ks)
    (ho : KI.Sl S H0 (.slice a1 ow.length c1) ow) (hs : KI.sl.Sl S H0 (.slice a2 rows.length c2) rows) (hb : KI.sl.Sl S H0 (.slice a3 bs.length c3) bs) (hk : KI.sl.sl.Sl S H0 (.slice a4 ks.length c4) ks) :
    Spec Try.prog S H0 173 [.agg #[.int .i64 h, .slice a1 ow.length c1, .int .i64 p, .int .i64 c, .slice a2 rows.length c2, .int .i64 s, .slice a3 bs.length c3, .slice a4 ks.length c4]] (fun v => v = .bool (tv (OkDeal h ow p c rows s bs ks))) := by
  refine Spec.of1 Try.func173 rfl (by kernel_rfl) rfl (fun H _ => ?_)
  have bl := hBb.len
  have kl := hBk.len
  refine KW.callE rfl rfl rfl rfl rfl (validScheme h p c hp hO hB ho.up hs.up) (fun _ _ => ?_)
  refine KW.tstB rfl rfl (fun k1 => ?_) (fun k1 => ?_)
  · repeat first | refine KW.tT rfl rfl rfl ?_ | refine KW.tF rfl rfl rfl ?_
    first | refine KW.cT rfl rfl rfl ?_ | refine KW.cF rfl rfl rfl ?_
    exact KW.ret rfl rfl rfl rfl (by rw [tv_false (p := OkDeal h ow p c rows s bs ks) (fun hc => by rw [tv_true hc.sch] at k1; cases k1)]; rfl)
  have k1 : OkSch h ow p c rows := tv_iff.1 (by simpa using k1)
  have hc12 := k1.mat.c1
  have hc1 := k1.c1
  refine KW.lit rfl rfl rfl rfl rfl rfl rfl rfl rfl rfl [.int .i64 s] rfl rfl (fun v hv => by simp at hv; subst hv; rfl) rfl ?_
  refine KW.callV1 rfl rfl rfl rfl rfl (fun H1 g _ => areElements p hp (xs := [s]) (by simp) (g.ints (j := 2) rfl rfl (by simp))) (fun _ _ => ?_)
  refine KW.tstB rfl rfl (fun k2 => ?_) (fun k2 => ?_)
  · repeat first | refine KW.tT rfl rfl rfl ?_ | refine KW.tF rfl rfl rfl ?_
    first | refine KW.cT rfl rfl rfl ?_ | refine KW.cF rfl rfl rfl ?_
    exact KW.ret rfl rfl rfl rfl (by rw [tv_false (p := OkDeal h ow p c rows s bs ks) (fun hc => by rw [tv_true ⟨k1.mat.pr, fun x hx => by rw [List.mem_singleton.1 hx]; exact hc.sec⟩] at k2; cases k2)]; rfl)
  have k2 : 0 ≤ s ∧ s ≤ p - 1 := (tv_iff.1 (by simpa using k2) : PrimeP p ∧ Elems p [s]).2 s (by simp)
  refine KW.callE rfl rfl rfl rfl rfl (within _ _ _) (fun _ _ => ?_)
  refine KW.tstB rfl rfl (fun k3 => ?_) (fun k3 => ?_)
  · have k3 : ¬ (1 ≤ bs.length ∧ bs.length ≤ 4) := by simp at k3; omega
    repeat first | refine KW.tT rfl rfl rfl ?_ | refine KW.tF rfl rfl rfl ?_
    first | refine KW.cT rfl rfl rfl ?_ | refine KW.cF rfl rfl rfl ?_
    exact KW.ret rfl rfl rfl rfl (by rw [tv_false (p := OkDeal h ow p c rows s bs ks) (fun hc => k3 hc.bl)]; rfl)
  have k3 : 1 ≤ bs.length ∧ bs.length ≤ 4 := by simp at k3; omega
  refine KW.cndB rfl rfl (fun k4 => ?_) (fun k4 => ?_)
  · exact KW.ret rfl rfl rfl rfl (by rw [tv_false (p := OkDeal h ow p c rows s bs ks) (fun hc => by rw [hc.kl] at k4; simp at k4)]; rfl)
  have k4 : ks.length = bs.length := by simp at k4; omega
  refine KW.lp rfl rfl (fun i : Nat => [(1, .pointer (some ⟨H.n, 0, some 0⟩)), (3, .pointer (some ⟨H.n + 1, 0, some 1⟩)), (41, .slice a3 bs.length c3), (42, .int .i64 bs.length), (43, .int .i64 i)]) (fun i => i ≤ bs.length ∧ ∀ j, j < i → ∀ b kk, bs[j]? = some b → ks[j]? = some kk → ((b.length : Int) = c - 1 ∧ Elems p b) ∧ KeysOk p rows.length kk) (fun i => bs.length - i) (0) (⟨by omega, fun j h => absurd h (by omega)⟩) ⟨rfl, rfl, rfl, rfl, rfl, trivial⟩ (fun i hi bE n => ?_)
  obtain ⟨hi, hj⟩ := hi
  refine KW.cnd rfl rfl (fun k5 => ?_) (fun k5 => ?_)
  · refine KW.getL hb.up rfl rfl rfl rfl rfl rfl rfl rfl rfl rfl rfl rfl rfl rfl rfl rfl (by omega) (k5) (fun y a' m' hy hsy => ?_)
    have hy : bs[i]? = some y := hy
    have hym := hBb.each y (List.mem_of_getElem? hy)
    obtain ⟨kk, hkk⟩ : ∃ kk, ks[i]? = some kk := ⟨ks[i]'(by omega), List.getElem?_eq_getElem (by omega)⟩
    have bad : ¬ (((y.length : Int) = c - 1 ∧ Elems p y) ∧ KeysOk p rows.length kk) → aout [Value.bool false] = .bool (tv (OkDeal h ow p c rows s bs ks)) := fun hx => by rw [tv_false (p := OkDeal h ow p c rows s bs ks) (fun hc => hx (hc.bk i y kk hy hkk))]; rfl
    have e : IntKind.i64.wrap (c - 1) = c - 1 := wr (by omega) (by omega)
    refine KW.tstB rfl rfl (fun k6 => ?_) (fun k6 => ?_)
    · rw [e] at k6
      repeat first | refine KW.tT rfl rfl rfl ?_ | refine KW.tF rfl rfl rfl ?_
      first | refine KW.cT rfl rfl rfl ?_ | refine KW.cF rfl rfl rfl ?_
      exact KW.ret rfl rfl rfl rfl (bad (fun hc => by rw [hc.1.1] at k6; simp at k6))
    rw [e] at k6
    have k6 : (y.length : Int) = c - 1 := by simpa using k6
    refine KW.callE rfl rfl rfl rfl rfl (areElements p hp (by omega) hsy) (fun _ _ => ?_)
    refine KW.tstB rfl rfl (fun k7 => ?_) (fun k7 => ?_)
    · repeat first | refine KW.tT rfl rfl rfl ?_ | refine KW.tF rfl rfl rfl ?_
      first | refine KW.cT rfl rfl rfl ?_ | refine KW.cF rfl rfl rfl ?_
      exact KW.ret rfl rfl rfl rfl (bad (fun hc => by rw [tv_true ⟨k1.mat.pr, hc.1.2⟩] at k7; cases k7))
    have k7 : Elems p y := (tv_iff.1 (by simpa using k7) : PrimeP p ∧ Elems p y).2
    refine KW.getL hk.up rfl rfl rfl rfl rfl rfl rfl rfl rfl rfl rfl rfl rfl rfl rfl rfl (by omega) (by omega) (fun kk1 a'' m'' hkk1 hskk => ?_)
    have hkk1 : ks[i]? = some kk1 := hkk1
    rw [hkk] at hkk1
    cases hkk1
    have hkB := hBk.each kk (List.mem_of_getElem? hkk)
    have hkl := hkB.len
    refine KW.cndB rfl rfl (fun k8 => ?_) (fun k8 => ?_)
    · exact KW.ret rfl rfl rfl rfl (bad (fun hc => by rw [hc.2.1] at k8; simp at k8))
    have k8 : kk.length = rows.length := by simp at k8; omega
    refine KW.getL hk.up rfl rfl rfl rfl rfl rfl rfl rfl rfl rfl rfl rfl rfl rfl rfl rfl (by omega) (by omega) (fun kk1 a'' m'' hkk1 hskk => ?_)
    have hkk1 : ks[i]? = some kk1 := hkk1
    rw [hkk] at hkk1
    cases hkk1
    refine KW.lp rfl rfl (fun q : Nat => [(1, .pointer (some ⟨H.n, 0, some 0⟩)), (3, .pointer (some ⟨H.n + 1, 0, some 1⟩)), (41, .slice a3 bs.length c3), (42, .int .i64 bs.length), (43, .int .i64 i), (77, .slice a'' kk.length m''), (78, .int .i64 kk.length), (79, .int .i64 q)]) (fun q => q ≤ kk.length ∧ ∀ j, j < q → ∀ x, kk[j]? = some x → x.length = 2 ∧ Elems p x) (fun q => kk.length - q) (0) (⟨by omega, fun j h => absurd h (by omega)⟩) ⟨rfl, rfl, rfl, rfl, rfl, rfl, rfl, rfl, trivial⟩ (fun q hi bE n => ?_)
    obtain ⟨hq, hqj⟩ := hi
    refine KW.cnd rfl rfl (fun k9 => ?_) (fun k9 => ?_)
    · refine KW.getL hskk rfl rfl rfl rfl rfl rfl rfl rfl rfl rfl rfl rfl rfl rfl rfl rfl (by omega) (k9) (fun z a3' m3' hz hsz => ?_)
      have hz : kk[q]? = some z := hz
      have hzm := List.mem_of_getElem? hz
      refine KW.tstB rfl rfl (fun k10 => ?_) (fun k10 => ?_)
      · repeat first | refine KW.tT rfl rfl rfl ?_ | refine KW.tF rfl rfl rfl ?_
        first | refine KW.cT rfl rfl rfl ?_ | refine KW.cF rfl rfl rfl ?_
        exact KW.ret rfl rfl rfl rfl (bad (fun hc => by rw [(hc.2.2 z hzm).1] at k10; simp at k10))
      have k10 : z.length = 2 := by simp at k10; omega
      refine KW.callE rfl rfl rfl rfl rfl (areElements p hp (by omega) hsz) (fun _ _ => ?_)
      refine KW.cndB rfl rfl (fun k11 => ?_) (fun k11 => ?_)
      · exact KW.ret rfl rfl rfl rfl (bad (fun hc => by rw [tv_true ⟨k1.mat.pr, (hc.2.2 z hzm).2⟩] at k11; cases k11))
      have k11 : Elems p z := (tv_iff.1 (by simpa using k11) : PrimeP p ∧ Elems p z).2
      refine KW.nxt rfl rfl (fun H' g => ⟨q + 1, ⟨by omega, upto hqj (fun x hx => by rw [hz] at hx; cases hx; exact ⟨k10, k11⟩)⟩, by first | omega | (simp only; omega), ⟨rfl, rfl, rfl, rfl, rfl, rfl, rfl, congrArg (Value.int .i64) (inc64 (by omega)), trivial⟩, g⟩)
    · refine KW.nxt rfl rfl (fun H' g => ⟨i + 1, ⟨by omega, upto hj (fun b kk1 hb1 hk1 => by rw [hy] at hb1; rw [hkk] at hk1; cases hb1; cases hk1; exact ⟨⟨k6, k7⟩, k8, all_of (fun j hjl => hqj j (by omega))⟩)⟩, by first | omega | (simp only; omega), ⟨rfl, rfl, rfl, rfl, congrArg (Value.int .i64) (inc64 (by omega)), trivial⟩, g⟩)
  · exact KW.ret rfl rfl rfl rfl (by rw [tv_true (p := OkDeal h ow p c rows s bs ks) ⟨k1, k2, k3, k4, fun e b kk h1 h2 => hj e (by have := (List.getElem?_eq_some_iff.1 h1).1; omega) b kk h1 h2⟩]; rfl)
theorem l08Keys (p : Int) (hp : PrimeP p) {id k : Nat} {v0 : Value} {a c} {kk : List (List Int)} {vs : List Value} {aw : Option Addr} {cw w : Nat} (hB : B_Int64SS kk) (hv : Has3 S H0 id k (v0 :: .slice aw w cw :: .int .i64 p :: vs)) (hk : KI.sl.Sl S H0 (.slice a kk.length c) kk) :
    Spec Try.prog S H0 206 [.pointer (some ⟨id, k, none⟩), .slice a kk.length c] (fun v => v = .bool (tv (KeysOk p w kk))) := by
  refine Spec.of1 Try.func206 rfl (by kernel_rfl) rfl (fun H _ => ?_)
  have hv := hv.up (S' := Low H.n) (H' := H)
  have kl := hB.len
  refine KW.lp rfl rfl (fun i : Nat => [(0, .pointer (some ⟨id, k, none⟩)), (1, .slice a kk.length c), (5, .int .i64 i)]) (fun i => i ≤ kk.length ∧ ∀ j, j < i → ∀ x, kk[j]? = some x → x.length = 2 ∧ Elems p x) (fun i => kk.length - i) (0) (⟨by omega, fun j h => absurd h (by omega)⟩) ⟨rfl, rfl, rfl, trivial⟩ (fun i hi bE n => ?_)
  obtain ⟨hi, hj⟩ := hi
  refine KW.cnd rfl rfl (fun k1 => ?_) (fun k1 => ?_)
  · refine KW.ldF 2 hv rfl rfl rfl rfl rfl rfl rfl rfl rfl ?_
    refine KW.getL hk.up rfl rfl rfl rfl rfl rfl rfl rfl rfl rfl rfl rfl rfl rfl rfl rfl (by omega) (k1) (fun y a' m' hy hsy => ?_)
    have hy : kk[i]? = some y := hy
    refine KW.callE rfl rfl rfl rfl rfl (l03Row p 2 (by unfold I64; have := hp.1; have := hp.2.1; omega) (hB.each y (List.mem_of_getElem? hy)) hsy) (fun _ _ => ?_)
    refine KW.cndB rfl rfl (fun k2 => ?_) (fun k2 => ?_)
    · exact KW.ret rfl rfl rfl rfl (by rw [tv_false (p := KeysOk p w kk) (fun hc => by rw [tv_true ⟨by have := (hc.2 y (List.mem_of_getElem? hy)).1; omega, (hc.2 y (List.mem_of_getElem? hy)).2⟩] at k2; cases k2)]; rfl)
    have k2 := tv_iff.1 (by simpa using k2)
    refine KW.nxt rfl rfl (fun H' g => ⟨i + 1, ⟨by omega, upto hj (fun x hx => by rw [hy] at hx; cases hx; exact ⟨by have := k2.1; omega, k2.2⟩)⟩, by first | omega | (simp only; omega), ⟨rfl, rfl, congrArg (Value.int .i64) (inc64 (by omega)), trivial⟩, g⟩)
  · refine KW.ldF 1 hv rfl rfl rfl rfl rfl rfl rfl rfl rfl ?_
    refine KW.ret rfl rfl rfl rfl ?_
    show Value.bool (((kk.length : Nat) : Int) == ((w : Nat) : Int)) = _
    congr 1
    by_cases hx : kk.length = w
    · rw [tv_true (p := KeysOk p w kk) ⟨hx, all_of (fun j hjl => hj j (by omega))⟩, hx]; simp
    · rw [tv_false (p := KeysOk p w kk) (fun hc => hx hc.1)]; simp; omega
theorem l08Ok (h p c s : Int) (hp : I64 p) {id k : Nat} {a1 c1 a2 c2 a3 c3 a4 c4} {ow : List Int} {rows bs : List (List Int)} {ks : List (List (List Int))} (hO : B_Int64S ow) (hB : B_Int64SS rows) (hBb : B_Int64SS bs) (hBk : B_Int64SSS ks)
    (hv : Has3 S H0 id k [.int .i64 h, .slice a1 ow.length c1, .int .i64 p, .int .i64 c, .slice a2 rows.length c2, .int .i64 s, .slice a3 bs.length c3, .slice a4 ks.length c4])
    (ho : KI.Sl S H0 (.slice a1 ow.length c1) ow) (hs : KI.sl.Sl S H0 (.slice a2 rows.length c2) rows) (hb : KI.sl.Sl S H0 (.slice a3 bs.length c3) bs) (hk : KI.sl.sl.Sl S H0 (.slice a4 ks.length c4) ks) :
    Spec Try.prog S H0 168 [.pointer (some ⟨id, k, none⟩)] (fun v => v = .bool (tv (OkDeal h ow p c rows s bs ks))) := by
  refine Spec.of1 Try.func168 rfl (by kernel_rfl) rfl (fun H _ => ?_)
  have bl := hBb.len
  have kl := hBk.len
  have hv := hv.up (S' := Low H.n) (H' := H)
  refine KW.callE rfl rfl rfl rfl rfl (l04Ok h p c hp hO hB (hv.take (vs := [_, _, _, _, _])) ho.up hs.up) (fun _ _ => ?_)
  refine KW.tstB rfl rfl (fun k1 => ?_) (fun k1 => ?_)
  · repeat first | refine KW.tT rfl rfl rfl ?_ | refine KW.tF rfl rfl rfl ?_
    first | refine KW.cT rfl rfl rfl ?_ | refine KW.cF rfl rfl rfl ?_
    exact KW.ret rfl rfl rfl rfl (by rw [tv_false (p := OkDeal h ow p c rows s bs ks) (fun hc => by rw [tv_true hc.sch] at k1; cases k1)]; rfl)
  have k1 : OkSch h ow p c rows := tv_iff.1 (by simpa using k1)
  have hc12 := k1.mat.c1
  have hc1 := k1.c1
  have hp31 := k1.mat.pr.2.1
  have hp2 := k1.mat.pr.1
  have ep : IntKind.i64.wrap (p - 1) = p - 1 := wr (by omega) (by omega)
  have ec : IntKind.i64.wrap (c - 1) = c - 1 := wr (by omega) (by omega)
  refine KW.ldF 5 hv rfl rfl rfl rfl rfl rfl rfl rfl rfl ?_
  refine KW.ldF 2 hv rfl rfl rfl rfl rfl rfl rfl rfl rfl ?_
  refine KW.callE rfl rfl rfl rfl rfl (l00In _ _ _) (fun _ _ => ?_)
  rw [ep]
  refine KW.tstB rfl rfl (fun k2 => ?_) (fun k2 => ?_)
  · repeat first | refine KW.tT rfl rfl rfl ?_ | refine KW.tF rfl rfl rfl ?_
    first | refine KW.cT rfl rfl rfl ?_ | refine KW.cF rfl rfl rfl ?_
    exact KW.ret rfl rfl rfl rfl (by rw [tv_false (p := OkDeal h ow p c rows s bs ks) (fun hc => by have := hc.sec; simp at k2; omega)]; rfl)
  have k2 : 0 ≤ s ∧ s ≤ p - 1 := by simpa using k2
  refine KW.ldF 6 hv rfl rfl rfl rfl rfl rfl rfl rfl rfl ?_
  refine KW.callE rfl rfl rfl rfl rfl (l00In _ _ _) (fun _ _ => ?_)
  refine KW.tstB rfl rfl (fun k3 => ?_) (fun k3 => ?_)
  · repeat first | refine KW.tT rfl rfl rfl ?_ | refine KW.tF rfl rfl rfl ?_
    first | refine KW.cT rfl rfl rfl ?_ | refine KW.cF rfl rfl rfl ?_
    exact KW.ret rfl rfl rfl rfl (by rw [tv_false (p := OkDeal h ow p c rows s bs ks) (fun hc => by have := hc.bl; simp at k3; omega)]; rfl)
  have k3 : 1 ≤ bs.length ∧ bs.length ≤ 4 := by simp at k3; omega
  refine KW.ldF 7 hv rfl rfl rfl rfl rfl rfl rfl rfl rfl ?_
  refine KW.ldF 6 hv rfl rfl rfl rfl rfl rfl rfl rfl rfl ?_
  refine KW.cndB rfl rfl (fun k4 => ?_) (fun k4 => ?_)
  · exact KW.ret rfl rfl rfl rfl (by rw [tv_false (p := OkDeal h ow p c rows s bs ks) (fun hc => by rw [hc.kl] at k4; simp at k4)]; rfl)
  have k4 : ks.length = bs.length := by simp at k4; omega
  refine KW.lp rfl rfl (fun i : Nat => [(0, .pointer (some ⟨id, k, none⟩)), (3, .int .i64 i)]) (fun i => i ≤ bs.length ∧ ∀ j, j < i → ∀ b kk, bs[j]? = some b → ks[j]? = some kk → ((b.length : Int) = c - 1 ∧ Elems p b) ∧ KeysOk p rows.length kk) (fun i => bs.length - i) (0) (⟨by omega, fun j h => absurd h (by omega)⟩) ⟨rfl, rfl, trivial⟩ (fun i hi bE n => ?_)
  obtain ⟨hi, hj⟩ := hi
  refine KW.ldF 6 hv rfl rfl rfl rfl rfl rfl rfl rfl rfl ?_
  refine KW.cnd rfl rfl (fun k5 => ?_) (fun k5 => ?_)
  · refine KW.ldF 2 hv rfl rfl rfl rfl rfl rfl rfl rfl rfl ?_
    refine KW.ldF 3 hv rfl rfl rfl rfl rfl rfl rfl rfl rfl ?_
    refine KW.ldF 6 hv rfl rfl rfl rfl rfl rfl rfl rfl rfl ?_
    refine KW.getL hb.up rfl rfl rfl rfl rfl rfl rfl rfl rfl rfl rfl rfl rfl rfl rfl rfl (by omega) (k5) (fun y a' m' hy hsy => ?_)
    have hy : bs[i]? = some y := hy
    have hym := hBb.each y (List.mem_of_getElem? hy)
    obtain ⟨kk, hkk⟩ : ∃ kk, ks[i]? = some kk := ⟨ks[i]'(by omega), List.getElem?_eq_getElem (by omega)⟩
    have bad : ¬ (((y.length : Int) = c - 1 ∧ Elems p y) ∧ KeysOk p rows.length kk) → aout [Value.bool false] = .bool (tv (OkDeal h ow p c rows s bs ks)) := fun hx => by rw [tv_false (p := OkDeal h ow p c rows s bs ks) (fun hc => hx (hc.bk i y kk hy hkk))]; rfl
    refine KW.callE rfl rfl rfl rfl rfl (l03Row p _ (by unfold I64; omega) (by omega) hsy) (fun _ _ => ?_)
    rw [ec]
    refine KW.tstB rfl rfl (fun k6 => ?_) (fun k6 => ?_)
    · repeat first | refine KW.tT rfl rfl rfl ?_ | refine KW.tF rfl rfl rfl ?_
      first | refine KW.cT rfl rfl rfl ?_ | refine KW.cF rfl rfl rfl ?_
      exact KW.ret rfl rfl rfl rfl (bad (fun hc => by rw [tv_true hc.1] at k6; cases k6))
    have k6 := tv_iff.1 (by simpa using k6)
    refine KW.ldF 7 hv rfl rfl rfl rfl rfl rfl rfl rfl rfl ?_
    refine KW.getL hk.up rfl rfl rfl rfl rfl rfl rfl rfl rfl rfl rfl rfl rfl rfl rfl rfl (by omega) (by omega) (fun kk1 a'' m'' hkk1 hskk => ?_)
    have hkk1 : ks[i]? = some kk1 := hkk1
    rw [hkk] at hkk1
    cases hkk1
    refine KW.callE rfl rfl rfl rfl rfl (l08Keys p k1.mat.pr (hBk.each kk (List.mem_of_getElem? hkk)) hv hskk) (fun _ _ => ?_)
    refine KW.cndB rfl rfl (fun k7 => ?_) (fun k7 => ?_)
    · exact KW.ret rfl rfl rfl rfl (by rw [k1.len] at k7; exact bad (fun hc => by rw [tv_true hc.2] at k7; cases k7))
    rw [k1.len] at k7
    have k7 := tv_iff.1 (by simpa using k7)
    refine KW.nxt rfl rfl (fun H' g => ⟨i + 1, ⟨by omega, upto hj (fun b kk1 hb1 hk1 => by rw [hy] at hb1; rw [hkk] at hk1; cases hb1; cases hk1; exact ⟨k6, k7⟩)⟩, by first | omega | (simp only; omega), ⟨rfl, congrArg (Value.int .i64) (inc64 (by omega)), trivial⟩, g⟩)
  · exact KW.ret rfl rfl rfl rfl (by rw [tv_true (p := OkDeal h ow p c rows s bs ks) ⟨k1, k2, k3, k4, fun e b kk h1 h2 => hj e (by have := (List.getElem?_eq_some_iff.1 h1).1; omega) b kk h1 h2⟩]; rfl)
end
end Go.Proofs.Ytijmkfnmdhpakaa.Am
/- Contracts: ValidDeal, as the law asks them. Each holds under its own conditions. -/
set_option linter.unusedVariables false
set_option maxRecDepth 20000
namespace Go.Proofs.Ytijmkfnmdhpakaa.Am
open Go Go.RowKit Go.Proofs
/-- A deal that is valid. -/
def DealOk (x : T_Deal) : Prop := OkDeal x.1.1 x.1.2.1 x.1.2.2.1 x.1.2.2.2.1 x.1.2.2.2.2 x.2.1 x.2.2.1 x.2.2.2
section
variable {S : Ids} {H0 : AH}
theorem split2_Deal {x : T_Deal} {cs : List Value} (h : K_Deal.R S H0 x cs) : ∃ a1 c1 a2 c2 a3 c3 a4 c4, cs = [.int .i64 x.1.1, .slice a1 x.1.2.1.length c1, .int .i64 x.1.2.2.1, .int .i64 x.1.2.2.2.1, .slice a2 x.1.2.2.2.2.length c2, .int .i64 x.2.1, .slice a3 x.2.2.1.length c3, .slice a4 x.2.2.2.length c4] ∧
    KI.Sl S H0 (.slice a1 x.1.2.1.length c1) x.1.2.1 ∧ KI.sl.Sl S H0 (.slice a2 x.1.2.2.2.2.length c2) x.1.2.2.2.2 ∧ KI.sl.Sl S H0 (.slice a3 x.2.2.1.length c3) x.2.2.1 ∧ KI.sl.sl.Sl S H0 (.slice a4 x.2.2.2.length c4) x.2.2.2 := by
  obtain ⟨a1, c1, a2, c2, a3, c3, a4, c4, rfl, h0, h2, h3⟩ := split_Deal h
  obtain ⟨b1, d1, b2, d2, e0, k1, k2⟩ := split_Scheme h0
  cases e0
  obtain ⟨b3, d3, e1, k3⟩ := split_Matrix k2
  cases e1
  exact ⟨a1, c1, a2, c2, a3, c3, a4, c4, rfl, sl1 k1, sl1 k3, sl1 h2, sl1 h3⟩
noncomputable def r0_ValidDeal (x : T_Deal) : Bool := tv (DealOk x)
theorem impl_ValidDeal {x : T_Deal} {cs : List Value} (hB : B_Deal x) (h : K_Deal.R S H0 x cs) : Spec Try.prog S H0 173 [.agg cs.toArray] (fun v => v = .bool (tv (DealOk x))) := by
  obtain ⟨a1, c1, a2, c2, a3, c3, a4, c4, rfl, h1, h2, h3, h4⟩ := split2_Deal h
  exact validDeal _ _ _ _ hB.1.2.2.1 hB.1.2.1 hB.1.2.2.2.2 hB.2.2.1 hB.2.2.2 h1 h2 h3 h4
end
end Go.Proofs.Ytijmkfnmdhpakaa.Am
/- Contracts: families and their validity. Each holds under its own conditions. -/
set_option linter.unusedVariables false
set_option maxRecDepth 20000
namespace Go.Proofs.Ytijmkfnmdhpakaa.Am
open Go Go.RowKit Go.Proofs
section
variable {S : Ids} {H0 : AH}
theorem l01Before {a c a' c'} {xs ys : List Int} (hl : xs.length ≤ 1048576) (hs : (Kn.int .i64).Sl S H0 (.slice a xs.length c) xs) (hs' : (Kn.int .i64).Sl S H0 (.slice a' ys.length c') ys) :
    Spec Try.prog S H0 230 [.slice a xs.length c, .slice a' ys.length c'] (fun v => v = .bool (lexB xs ys)) := by
  refine Spec.of Try.func230 rfl (by kernel_rfl) rfl (fun H hfin hfz => ?_)
  have hs := hs.to hfz
  have hs' := hs'.to hfz
  refine KW.lp rfl rfl (fun i : Nat => [(0, .slice a xs.length c), (1, .slice a' ys.length c'), (5, .int .i64 i)]) (fun i => i ≤ xs.length ∧ i ≤ ys.length ∧ lexB xs ys = lexB (xs.drop i) (ys.drop i)) (fun i => xs.length - i) 0 ⟨by omega, by omega, rfl⟩ ⟨rfl, rfl, rfl, trivial⟩ (fun i hi b n => ?_)
  obtain ⟨hi, hi', hj⟩ := hi
  have fin : (i = xs.length ∨ i = ys.length) → aout [Value.bool (decide ((xs.length : Int) < ys.length))] = .bool (lexB xs ys) := fun h => by
    rw [hj, lexB_end h hi hi']
    show Value.bool _ = _
    congr 1
    simp
  refine KW.tst rfl rfl (fun h => ?_) (fun h => ?_)
  · refine KW.cnd rfl rfl (fun h2 => ?_) (fun h2 => KW.ret rfl rfl rfl rfl (fin (.inr (by omega))))
    refine KW.getI hs rfl rfl rfl rfl rfl rfl rfl rfl rfl rfl rfl rfl rfl rfl rfl rfl (by omega) (by omega) (fun x hx => ?_)
    have hx : xs[i]? = some x := hx
    refine KW.getI hs' rfl rfl rfl rfl rfl rfl rfl rfl rfl rfl rfl rfl rfl rfl rfl rfl (by omega) (by omega) (fun y hy => ?_)
    have hy : ys[i]? = some y := hy
    have e := lexB_self_step hx hy
    refine KW.cndB rfl rfl (fun h3 => ?_) (fun h3 => ?_)
    · refine KW.getI hs rfl rfl rfl rfl rfl rfl rfl rfl rfl rfl rfl rfl rfl rfl rfl rfl (by omega) (by omega) (fun x1 hx1 => ?_)
      obtain rfl : x = x1 := by have : xs[i]? = some x1 := hx1; rw [hx] at this; cases this; rfl
      refine KW.getI hs' rfl rfl rfl rfl rfl rfl rfl rfl rfl rfl rfl rfl rfl rfl rfl rfl (by omega) (by omega) (fun y1 hy1 => ?_)
      obtain rfl : y = y1 := by have : ys[i]? = some y1 := hy1; rw [hy] at this; cases this; rfl
      refine KW.ret rfl rfl rfl rfl ?_
      have h3 : ¬ x = y := by simpa using h3
      show Value.bool (decide (x < y)) = _
      rw [hj, e, if_neg h3]
    · have h3 : x = y := by simpa using h3
      exact KW.nxt rfl rfl (fun H g => ⟨i + 1, ⟨by omega, by omega, by rw [hj, e, if_pos h3]⟩, by omega, ⟨rfl, rfl, congrArg (Value.int .i64) (inc64 (by omega)), trivial⟩, g⟩)
  · exact KW.cndB rfl rfl (fun h => absurd h (by decide)) (fun _ => KW.ret rfl rfl rfl rfl (fin (.inl (by omega))))
theorem isNaN (x : Int) : Spec Try.prog S H0 242 [.int .i64 x] (fun v => v = .bool false) := by
  refine Spec.of Try.func242 rfl (by kernel_rfl) rfl (fun H hfin hfz => ?_)
  refine KW.ret rfl rfl rfl rfl ?_
  show Value.bool (x != x) = _
  simp
theorem cmpCompare (x y : Int) : Spec Try.prog S H0 203 [.int .i64 x, .int .i64 y] (fun v => v = .int .i64 (if x < y then -1 else if x > y then 1 else 0)) := by
  refine Spec.of Try.func203 rfl (by kernel_rfl) rfl (fun H hfin hfz => ?_)
  refine KW.callE rfl rfl rfl rfl rfl (isNaN _) (fun _ _ => ?_)
  refine KW.callE rfl rfl rfl rfl rfl (isNaN _) (fun _ _ => ?_)
  refine KW.cndB rfl rfl (fun h => absurd h (by decide)) (fun _ => ?_)
  refine KW.cndB rfl rfl (fun h => absurd h (by decide)) (fun _ => ?_)
  refine KW.cnd rfl rfl (fun h => KW.ret rfl rfl rfl rfl ?_) (fun h => ?_)
  · rw [if_pos h]; rfl
  refine KW.cnd rfl rfl (fun h2 => KW.ret rfl rfl rfl rfl ?_) (fun h2 => KW.ret rfl rfl rfl rfl ?_)
  · rw [if_neg h, if_pos h2]; rfl
  · rw [if_neg h, if_neg h2]; rfl
theorem slicesCompare {a c a' c'} {xs ys : List Int} (hl : xs.length ≤ 1048576) (hs : (Kn.int .i64).Sl S H0 (.slice a xs.length c) xs) (hs' : (Kn.int .i64).Sl S H0 (.slice a' ys.length c') ys) :
    Spec Try.prog S H0 165 [.slice a xs.length c, .slice a' ys.length c'] (fun v => ∃ r : Int, v = .int .i64 r ∧ (r ≥ 0 ↔ lexB xs ys = false)) := by
  refine Spec.of Try.func165 rfl (by kernel_rfl) rfl (fun H hfin hfz => ?_)
  have hs := hs.to hfz
  have hs' := hs'.to hfz
  refine KW.lp rfl rfl (fun i : Nat => [(0, .slice a xs.length c), (1, .slice a' ys.length c'), (9, .slice a xs.length c), (10, .int .i64 xs.length), (11, .int .i64 i)]) (fun i => i ≤ xs.length ∧ i ≤ ys.length ∧ lexB xs ys = lexB (xs.drop i) (ys.drop i)) (fun i => xs.length - i) 0 ⟨by omega, by omega, rfl⟩ ⟨rfl, rfl, rfl, rfl, rfl, trivial⟩ (fun i hi b n => ?_)
  obtain ⟨hi, hi', hj⟩ := hi
  refine KW.cnd rfl rfl (fun h => ?_) (fun h => ?_)
  · refine KW.getI hs rfl rfl rfl rfl rfl rfl rfl rfl rfl rfl rfl rfl rfl rfl rfl rfl (by omega) (by omega) (fun x hx => ?_)
    have hx : xs[i]? = some x := hx
    refine KW.cnd rfl rfl (fun h2 => KW.ret rfl rfl rfl rfl ⟨1, rfl, ?_⟩) (fun h2 => ?_)
    · rw [hj, lexB_end (.inr (by omega)) hi hi']
      simp
      omega
    refine KW.getI hs' rfl rfl rfl rfl rfl rfl rfl rfl rfl rfl rfl rfl rfl rfl rfl rfl (by omega) (by omega) (fun y hy => ?_)
    have hy : ys[i]? = some y := hy
    have e := lexB_self_step hx hy
    refine KW.callE rfl rfl rfl rfl rfl (cmpCompare _ _) (fun _ _ => ?_)
    refine KW.cndB rfl rfl (fun h3 => KW.ret rfl rfl rfl rfl ⟨_, rfl, ?_⟩) (fun h3 => ?_)
    · rw [hj, e]
      by_cases h4 : x = y
      · subst h4; simp at h3
      · rw [if_neg h4]
        by_cases h5 : x < y
        · rw [if_pos h5]; simp [h5]
        · rw [if_neg h5, if_pos (by omega)]; simp; omega
    · have h3 : x = y := by
        by_cases h5 : x < y
        · rw [if_pos h5] at h3; simp at h3
        · rw [if_neg h5] at h3
          by_cases h6 : x > y
          · rw [if_pos h6] at h3; simp at h3
          · omega
      exact KW.nxt rfl rfl (fun H g => ⟨i + 1, ⟨by omega, by omega, by rw [hj, e, if_pos h3]⟩, by omega, ⟨rfl, rfl, rfl, rfl, congrArg (Value.int .i64) (inc64 (by omega)), trivial⟩, g⟩)
  · have e := lexB_end (a := xs) (b := ys) (i := i) (.inl (by omega)) hi hi'
    refine KW.cnd rfl rfl (fun h2 => KW.ret rfl rfl rfl rfl ⟨-1, rfl, ?_⟩) (fun h2 => KW.ret rfl rfl rfl rfl ⟨0, rfl, ?_⟩)
    · rw [hj, e]; simp; omega
    · rw [hj, e]; simp; omega
theorem l00Rises (lo hi : Int) {a c} {xs : List Int} (hl : xs.length ≤ 1048576) (hs : (Kn.int .i64).Sl S H0 (.slice a xs.length c) xs) : Spec Try.prog S H0 193 [.slice a xs.length c, .int .i64 lo, .int .i64 hi] (fun v => v = .bool (tv (Rises lo hi xs))) := by
  refine Spec.of Try.func193 rfl (by kernel_rfl) rfl (fun H hfin hfz => ?_)
  have hs := hs.to hfz
  refine KW.lp rfl rfl (fun i : Nat => [(0, .slice a xs.length c), (1, .int .i64 lo), (2, .int .i64 hi), (7, .int .i64 i)]) (fun i => i ≤ xs.length ∧ ∀ j, j < i → RiseAt lo hi xs j) (fun i => xs.length - i) 0 ⟨by omega, fun j h => absurd h (by omega)⟩ ⟨rfl, rfl, rfl, rfl, trivial⟩ (fun i hi' b n => ?_)
  obtain ⟨hi', hr⟩ := hi'
  have e1 := inc64 (i := i) (by omega)
  have bad : i < xs.length → ¬ RiseAt lo hi xs i → aout [Value.bool false] = .bool (tv (Rises lo hi xs)) := fun hi hx => by
    rw [tv_false (fun hc => hx (hc i (by omega)))]; rfl
  refine KW.cnd rfl rfl (fun h => ?_) (fun h => KW.ret rfl rfl rfl rfl ?_)
  · refine KW.getI hs rfl rfl rfl rfl rfl rfl rfl rfl rfl rfl rfl rfl rfl rfl rfl rfl (by omega) h (fun y hy => ?_)
    have hy : xs.getD i 0 = y := getD_of hy
    refine KW.callE rfl rfl rfl rfl rfl (l00In _ _ _) (fun n' _ => ?_)
    refine KW.tstB rfl rfl (fun h1 => ?_) (fun h1 => ?_)
    · simp at h1
      refine KW.cndB rfl rfl (fun h => KW.ret rfl rfl rfl rfl (bad (by omega) (fun hx => ?_))) (fun h => absurd h (by decide))
      have := hx.1; omega
    · have h1 : lo ≤ y ∧ y ≤ hi := by simpa using h1
      refine KW.tst rfl rfl (fun h2 => ?_) (fun h2 => ?_)
      · have e2 : IntKind.i64.wrap ((i : Int) - 1) = ((i - 1 : Nat) : Int) := by rw [wr (by omega) (by omega)]; omega
        refine KW.getI hs rfl rfl rfl rfl rfl rfl rfl rfl rfl rfl rfl rfl rfl rfl rfl rfl (by rw [e2]; omega) (by rw [e2]; omega) (fun z hz => ?_)
        rw [e2] at hz
        have hz : xs.getD (i - 1) 0 = z := getD_of hz
        refine KW.getI hs rfl rfl rfl rfl rfl rfl rfl rfl rfl rfl rfl rfl rfl rfl rfl rfl (by omega) (by omega) (fun y1 hy1 => ?_)
        obtain rfl : y = y1 := hy.symm.trans (getD_of hy1)
        refine KW.cnd rfl rfl (fun h3 => KW.ret rfl rfl rfl rfl (bad (by omega) (fun hx => ?_))) (fun h3 => ?_)
        · have := hx.2 (by omega); omega
        · exact KW.nxt rfl rfl (fun H g => ⟨i + 1, ⟨by omega, upto hr ⟨by omega, fun _ => by omega⟩⟩, by omega, ⟨rfl, rfl, rfl, congrArg (Value.int .i64) e1, trivial⟩, g⟩)
      · refine KW.cndB rfl rfl (fun h => absurd h (by decide)) (fun _ => ?_)
        exact KW.nxt rfl rfl (fun H g => ⟨i + 1, ⟨by omega, upto hr ⟨by omega, fun _ => by omega⟩⟩, by omega, ⟨rfl, rfl, rfl, congrArg (Value.int .i64) e1, trivial⟩, g⟩)
  · rw [tv_true (p := Rises lo hi xs) (fun j hj => hr j (by omega))]; rfl
theorem l01Group (m : Int) {a c} {xs : List Int} (hl : xs.length ≤ 1048576) (hm : -9223372036854775807 ≤ m ∧ m ≤ 9223372036854775807) (hs : (Kn.int .i64).Sl S H0 (.slice a xs.length c) xs) : Spec Try.prog S H0 226 [.int .i64 m, .slice a xs.length c] (fun v => v = .bool (tv (Rises 0 (m - 1) xs))) := by
  refine Spec.of Try.func226 rfl (by kernel_rfl) rfl (fun H hfin hfz => ?_)
  have e : IntKind.i64.wrap (m - 1) = m - 1 := wr (by omega) (by omega)
  refine KW.callE rfl rfl rfl rfl rfl (by have := l00Rises 0 (IntKind.i64.wrap (m - 1)) hl (hs.to hfz); rw [e] at this ⊢; exact this) (fun n' _ => ?_)
  exact KW.ret rfl rfl rfl rfl rfl
theorem l01Bits {m : Nat} (hm : m ≤ 8) {a c} {xs : List Int} (hl : xs.length ≤ 1048576) (hx : ∀ x ∈ xs, 0 ≤ x ∧ x < m) (hs : (Kn.int .i64).Sl S H0 (.slice a xs.length c) xs) : Spec Try.prog S H0 255 [.slice a xs.length c] (fun v => v = .int .i64 (bitsOf xs : Nat)) := by
  refine Spec.of Try.func255 rfl (by kernel_rfl) rfl (fun H hfin hfz => ?_)
  have hs := hs.to hfz
  refine KW.lp rfl rfl (fun i : Nat => [(0, .slice a xs.length c), (3, .int .i64 (bitsOf (xs.take i) : Nat)), (4, .int .i64 i)]) (fun i => i ≤ xs.length) (fun i => xs.length - i) 0 (by omega) ⟨rfl, rfl, rfl, trivial⟩ (fun i hi b n => ?_)
  refine KW.cnd rfl rfl (fun h => ?_) (fun h => KW.ret rfl rfl rfl rfl ?_)
  · obtain ⟨r, e, hr, hb, hp⟩ := step_small hm hx i (by omega)
    refine KW.getI hs rfl rfl rfl rfl rfl rfl rfl rfl rfl rfl rfl rfl rfl rfl rfl rfl (by omega) h (fun y hy => ?_)
    obtain rfl : y = (r : Int) := by rw [← e]; exact (getD_of hy).symm
    refine KW.shlI rfl rfl rfl rfl rfl rfl r (wru (by omega) (by omega)) (by omega) ?_
    have e2 : IntKind.i64.wrap ((BitVec.ofInt IntKind.i64.bits ((bitsOf (xs.take i) : Nat) : Int) ||| BitVec.ofInt IntKind.i64.bits ((2 ^ r : Nat) : Int)).toNat : Int) = ((bitsOf (xs.take (i + 1)) : Nat) : Int) := by
      rw [or_i64 (by omega) (by omega), bits_take xs i (by omega), e]; rfl
    exact KW.nxt rfl rfl (fun H g => ⟨i + 1, by omega, by omega, ⟨rfl, congrArg (Value.int .i64) e2, congrArg (Value.int .i64) (inc64 (by omega)), trivial⟩, g⟩)
  · show Value.int .i64 (bitsOf (xs.take i) : Nat) = _
    rw [List.take_of_length_le (by omega)]
theorem l01Within {m : Nat} (hm : m ≤ 7) {a c a' c'} {xs ys : List Int} (hl : xs.length ≤ 1048576) (hl' : ys.length ≤ 1048576) (hx : ∀ x ∈ xs, 0 ≤ x ∧ x < m) (hy : ∀ x ∈ ys, 0 ≤ x ∧ x < m) (hs : (Kn.int .i64).Sl S H0 (.slice a xs.length c) xs) (hs' : (Kn.int .i64).Sl S H0 (.slice a' ys.length c') ys) :
    Spec Try.prog S H0 231 [.slice a xs.length c, .slice a' ys.length c'] (fun v => v = .bool (tv (bitsOf xs &&& bitsOf ys = bitsOf xs))) := by
  refine Spec.of Try.func231 rfl (by kernel_rfl) rfl (fun H hfin hfz => ?_)
  have b1 : bitsOf xs < 2 ^ m := bitsOf_lt (fun x h => by have := hx x h; omega)
  have b2 : bitsOf ys < 2 ^ m := bitsOf_lt (fun x h => by have := hy x h; omega)
  have hp := small_pow (m := m) (by omega)
  refine KW.callE rfl rfl rfl rfl rfl (l01Bits (by omega) hl hx (hs.to hfz)) (fun n' _ => ?_)
  refine KW.callE rfl rfl rfl rfl rfl (l01Bits (by omega) hl' hy (hs'.to hfz)) (fun n' _ => ?_)
  refine KW.ret rfl rfl rfl rfl ?_
  show Value.bool (IntKind.i64.wrap ((BitVec.ofInt IntKind.i64.bits ((bitsOf xs : Nat) : Int) &&& BitVec.ofInt IntKind.i64.bits ((bitsOf ys : Nat) : Int)).toNat : Int) == ((bitsOf xs : Nat) : Int)) = _
  rw [and_i64 (by omega) (by omega)]
  congr 1
  by_cases h : bitsOf xs &&& bitsOf ys = bitsOf xs
  · rw [tv_true h, h]; simp
  · rw [tv_false h]; simp; omega
end
end Go.Proofs.Ytijmkfnmdhpakaa.Am
/- Contracts: valid families. Each holds under its own conditions. -/
set_option linter.unusedVariables false
set_option maxRecDepth 20000
namespace Go.Proofs.Ytijmkfnmdhpakaa.Am
open Go Go.RowKit Go.Proofs
section
variable {S : Ids} {H0 : AH}
theorem Sml.at_ {gs : List (List Int)} (h : Sml gs) {i : Nat} {g : List Int} (hg : gs[i]? = some g) : g.length ≤ 1048576 := h.each g (List.mem_of_getElem? hg)
theorem l01Ok (m : Int) {id : Nat} {ty : TypeId} {rw : Bool} {s c} {gs : List (List Int)} (hsm : Sml gs) (hS : S id) (hm : H0.m id = some ⟨ty, rw, [.int .i64 m, .slice s gs.length c]⟩) (hs : (Kn.int .i64).sl.Sl S H0 (.slice s gs.length c) gs) :
    Spec Try.prog S H0 196 [.pointer (some ⟨id, 0, none⟩)] (fun v => v = .bool (tv (FamOk m gs))) := by
  refine Spec.of Try.func196 rfl (by kernel_rfl) rfl (fun H hfin hfz => ?_)
  have hs := hs.to hfz
  have hm := ((hfz id hS).2).trans hm
  have hS : Low H.n id := (hfz id hS).1
  have hgl := hsm.len
  have bad : ¬ FamOk m gs → aout [Value.bool false] = .bool (tv (FamOk m gs)) := fun hx => by rw [tv_false hx]; rfl
  refine KW.ldP hS hm rfl rfl rfl rfl rfl rfl ?_
  refine KW.callE rfl rfl rfl rfl rfl (l00In _ _ _) (fun _ _ => ?_)
  refine KW.cndB rfl rfl (fun h1 => KW.ret rfl rfl rfl rfl (bad (fun hc => ?_))) (fun h1 => ?_)
  · have := hc.h1; have := hc.h2; simp at h1; omega
  have h1 : 1 ≤ m ∧ m ≤ 7 := by simpa using h1
  refine KW.lp rfl rfl (fun i : Nat => [(0, .pointer (some ⟨id, 0, none⟩)), (3, .int .i64 i)]) (fun i => i ≤ gs.length ∧ ∀ j, j < i → GrpAt m gs j) (fun i => gs.length - i) 0 ⟨by omega, fun j h => absurd h (by omega)⟩ ⟨rfl, rfl, trivial⟩ (fun i hi b n => ?_)
  obtain ⟨hi, hr⟩ := hi
  refine KW.ldP hS hm rfl rfl rfl rfl rfl rfl ?_
  refine KW.cnd rfl rfl (fun h => ?_) (fun h => ?_)
  · have hil : i < gs.length := by omega
    have bad' : ¬ GrpAt m gs i → aout [Value.bool false] = .bool (tv (FamOk m gs)) := fun hx => bad (fun hc => hx (hc.grp i hil))
    refine KW.ldP hS hm rfl rfl rfl rfl rfl rfl ?_
    refine KW.ldP hS hm rfl rfl rfl rfl rfl rfl ?_
    refine KW.getL hs rfl rfl rfl rfl rfl rfl rfl rfl rfl rfl rfl rfl rfl rfl rfl rfl (by omega) h (fun g ag cg hg hsg => ?_)
    have hg : gs[i]? = some g := hg
    have hgd := getDL_of hg
    refine KW.callE rfl rfl rfl rfl rfl (l01Group _ (hsm.at_ hg) (by omega) hsg) (fun _ _ => ?_)
    refine KW.tstB rfl rfl (fun h2 => ?_) (fun h2 => ?_)
    · refine KW.cndB rfl rfl (fun _ => KW.ret rfl rfl rfl rfl (bad' (fun hx => ?_))) (fun h => absurd h (by decide))
      have := hx.1; rw [hgd] at this; rw [tv_true this] at h2; cases h2
    have h2 : Rises 0 (m - 1) g := tv_iff.1 (by simpa using h2)
    refine KW.tst rfl rfl (fun h3 => ?_) (fun h3 => ?_)
    · have e2 : IntKind.i64.wrap ((i : Int) - 1) = ((i - 1 : Nat) : Int) := by rw [wr (by omega) (by omega)]; omega
      refine KW.ldP hS hm rfl rfl rfl rfl rfl rfl ?_
      refine KW.getL hs rfl rfl rfl rfl rfl rfl rfl rfl rfl rfl rfl rfl rfl rfl rfl rfl (by rw [e2]; omega) (by rw [e2]; omega) (fun p ap cp hp hsp => ?_)
      rw [e2] at hp
      have hp : gs[i - 1]? = some p := hp
      have hpd := getDL_of hp
      refine KW.ldP hS hm rfl rfl rfl rfl rfl rfl ?_
      refine KW.getL hs rfl rfl rfl rfl rfl rfl rfl rfl rfl rfl rfl rfl rfl rfl rfl rfl (by omega) h (fun g1 ag1 cg1 hg1 hsg1 => ?_)
      obtain rfl : g = g1 := by have : gs[i]? = some g1 := hg1; rw [hg] at this; cases this; rfl
      refine KW.callE rfl rfl rfl rfl rfl (l01Before (hsm.at_ hp) hsp hsg1) (fun _ _ => ?_)
      refine KW.cndB rfl rfl (fun h4 => KW.ret rfl rfl rfl rfl (bad' (fun hx => ?_))) (fun h4 => ?_)
      · have := hx.2 (by omega); rw [hgd, hpd] at this; rw [this] at h4; cases h4
      · exact KW.nxt rfl rfl (fun H g' => ⟨i + 1, ⟨by omega, upto hr ⟨by rw [hgd]; exact h2, fun _ => by rw [hgd, hpd]; simpa using h4⟩⟩, by omega, ⟨rfl, congrArg (Value.int .i64) (inc64 (by omega)), trivial⟩, g'⟩)
    · refine KW.cndB rfl rfl (fun h => absurd h (by decide)) (fun _ => ?_)
      exact KW.nxt rfl rfl (fun H g' => ⟨i + 1, ⟨by omega, upto hr ⟨by rw [hgd]; exact h2, fun h => absurd h (by omega)⟩⟩, by omega, ⟨rfl, congrArg (Value.int .i64) (inc64 (by omega)), trivial⟩, g'⟩)
  have hG : ∀ j, j < gs.length → GrpAt m gs j := fun j hj => hr j (by omega)
  have hB : ∀ {j : Nat} {g : List Int}, gs[j]? = some g → ∀ x ∈ g, 0 ≤ x ∧ x < (m.toNat : Nat) := fun {j g} hj => by
    have := (hG j (List.getElem?_eq_some_iff.1 hj).1).1
    rw [getDL_of hj] at this
    exact rises_bound h1.1 this
  refine KW.lp rfl rfl (fun i : Nat => [(0, .pointer (some ⟨id, 0, none⟩)), (4, .int .i64 i)]) (fun i => i ≤ gs.length ∧ ∀ i', i' < i → ∀ j, j < gs.length → i' ≠ j → ¬ Sub gs i' j) (fun i => gs.length - i) 0 ⟨by omega, fun j h => absurd h (by omega)⟩ ⟨rfl, rfl, trivial⟩ (fun i hi b n => ?_)
  obtain ⟨hi, hf⟩ := hi
  refine KW.ldP hS hm rfl rfl rfl rfl rfl rfl ?_
  refine KW.cnd rfl rfl (fun h => ?_) (fun h => KW.ret rfl rfl rfl rfl ?_)
  · have hil : i < gs.length := by omega
    refine KW.lp rfl rfl (fun j : Nat => [(0, .pointer (some ⟨id, 0, none⟩)), (4, .int .i64 i), (5, .int .i64 j)]) (fun j => j ≤ gs.length ∧ ∀ j', j' < j → i ≠ j' → ¬ Sub gs i j') (fun j => gs.length - j) 0 ⟨by omega, fun j h => absurd h (by omega)⟩ ⟨rfl, rfl, rfl, trivial⟩ (fun j hj b n => ?_)
    obtain ⟨hj, hf2⟩ := hj
    refine KW.ldP hS hm rfl rfl rfl rfl rfl rfl ?_
    refine KW.cnd rfl rfl (fun h => ?_) (fun h => ?_)
    · have hjl : j < gs.length := by omega
      refine KW.tstB rfl rfl (fun h2 => ?_) (fun h2 => ?_)
      · have hne : i ≠ j := by intro e; subst e; simp at h2
        refine KW.ldP hS hm rfl rfl rfl rfl rfl rfl ?_
        refine KW.getL hs rfl rfl rfl rfl rfl rfl rfl rfl rfl rfl rfl rfl rfl rfl rfl rfl (by omega) (by omega) (fun g ag cg hg hsg => ?_)
        have hg : gs[i]? = some g := hg
        refine KW.ldP hS hm rfl rfl rfl rfl rfl rfl ?_
        refine KW.getL hs rfl rfl rfl rfl rfl rfl rfl rfl rfl rfl rfl rfl rfl rfl rfl rfl (by omega) (by omega) (fun q aq cq hq hsq => ?_)
        have hq : gs[j]? = some q := hq
        have hsub : Sub gs i j ↔ bitsOf g &&& bitsOf q = bitsOf g := by unfold Sub; rw [getDL_of hg, getDL_of hq]
        refine KW.callE rfl rfl rfl rfl rfl (l01Within (m := m.toNat) (by omega) (hsm.at_ hg) (hsm.at_ hq) (hB hg) (hB hq) hsg hsq) (fun _ _ => ?_)
        refine KW.cndB rfl rfl (fun h4 => KW.ret rfl rfl rfl rfl (bad (fun hx => hx.free i hil j hjl hne (hsub.2 (tv_iff.1 h4))))) (fun h4 => ?_)
        exact KW.nxt rfl rfl (fun H g' => ⟨j + 1, ⟨by omega, upto hf2 (fun _ hc => by rw [tv_true (hsub.1 hc)] at h4; cases h4)⟩, by omega, ⟨rfl, rfl, congrArg (Value.int .i64) (inc64 (by omega)), trivial⟩, g'⟩)
      · refine KW.cndB rfl rfl (fun h => absurd h (by decide)) (fun _ => ?_)
        exact KW.nxt rfl rfl (fun H g' => ⟨j + 1, ⟨by omega, upto hf2 (fun hne => absurd (by simp at h2; omega) hne)⟩, by omega, ⟨rfl, rfl, congrArg (Value.int .i64) (inc64 (by omega)), trivial⟩, g'⟩)
    · exact KW.nxt rfl rfl (fun H g' => ⟨i + 1, ⟨by omega, upto hf (fun j' hj' => hf2 j' (by omega))⟩, by omega, ⟨rfl, congrArg (Value.int .i64) (inc64 (by omega)), trivial⟩, g'⟩)
  · rw [tv_true (p := FamOk m gs) ⟨h1.1, h1.2, hG, fun i' hi' => hf i' (by omega)⟩]; rfl
theorem specValidFamily (m : Int) {s c} {gs : List (List Int)} (hsm : Sml gs) (hs : (Kn.int .i64).sl.Sl S H0 (.slice s gs.length c) gs) :
    Spec Try.prog S H0 151 [familyV m (.slice s gs.length c)] (fun v => v = .bool (tv (FamOk m gs))) := by
  refine Spec.of Try.func151 rfl (by kernel_rfl) rfl (fun H hfin hfz => ?_)
  refine KW.callV rfl rfl rfl rfl rfl (fun H1 g => l01Ok m hsm (g.blk (j := 0) rfl).2 (g.blk (j := 0) rfl).1 ((hs.to hfz).on (fun id hid => (g.froz id hid).2) (fun id hid => by have := (g.froz id hid).1; have := g.n_; show id < H1.n; omega))) (fun _ _ => ?_)
  exact KW.ret rfl rfl rfl rfl rfl
end
end Go.Proofs.Ytijmkfnmdhpakaa.Am
/- Contracts: the program's check of families, and the codes. Each holds under its own conditions. -/
set_option linter.unusedVariables false
set_option maxRecDepth 20000
namespace Go.Proofs.Ytijmkfnmdhpakaa.Am
open Go Go.RowKit Go.Proofs
section
variable {S : Ids} {H0 : AH}
def ImpAt (m : Int) (gs : List (List Int)) (i : Nat) : Prop := GrpAt m gs i ∧ ∀ j, j < i → ¬ Sub gs i j ∧ ¬ Sub gs j i
theorem fam_of_imp {m : Int} {gs : List (List Int)} (h1 : 1 ≤ m ∧ m ≤ 7) (h : ∀ i, i < gs.length → ImpAt m gs i) : FamOk m gs :=
  ⟨h1.1, h1.2, fun i hi => (h i hi).1, fun i hi j hj hne => by
    rcases Nat.lt_or_ge j i with hlt | hge
    · exact ((h i hi).2 j hlt).1
    · exact ((h j hj).2 i (by omega)).2⟩
theorem imp_of_fam {m : Int} {gs : List (List Int)} (h : FamOk m gs) (i : Nat) (hi : i < gs.length) : ImpAt m gs i :=
  ⟨h.grp i hi, fun j hj => ⟨h.free i hi j (by omega) (by omega), h.free j (by omega) i hi (by omega)⟩⟩
theorem validFamily (m : Int) {s c} {gs : List (List Int)} (hsm : Sml gs) (hs : (Kn.int .i64).sl.Sl S H0 (.slice s gs.length c) gs) :
    Spec Try.prog S H0 154 [familyV m (.slice s gs.length c)] (fun v => v = .bool (tv (FamOk m gs))) := by
  refine Spec.of Try.func154 rfl (by kernel_rfl) rfl (fun H hfin hfz => ?_)
  have hs := hs.to hfz
  have hgl := hsm.len
  have bad : ¬ FamOk m gs → aout [Value.bool false] = .bool (tv (FamOk m gs)) := fun hx => by rw [tv_false hx]; rfl
  refine KW.callE rfl rfl rfl rfl rfl (within _ _ _) (fun _ _ => ?_)
  refine KW.cndB rfl rfl (fun h1 => KW.ret rfl rfl rfl rfl (bad (fun hc => ?_))) (fun h1 => ?_)
  · have := hc.h1; have := hc.h2; simp at h1; omega
  have h1 : 1 ≤ m ∧ m ≤ 7 := by simpa using h1
  refine KW.lp rfl rfl (fun i : Nat => [(1, .pointer (some ⟨H.n, 0, some 0⟩)), (14, .slice s gs.length c), (15, .int .i64 gs.length), (16, .int .i64 i)]) (fun i => i ≤ gs.length ∧ ∀ j, j < i → ImpAt m gs j) (fun i => gs.length - i) 0 ⟨by omega, fun j h => absurd h (by omega)⟩ ⟨rfl, rfl, rfl, rfl, trivial⟩ (fun i hi b n => ?_)
  obtain ⟨hi, hr⟩ := hi
  refine KW.cnd rfl rfl (fun h => ?_) (fun h => KW.ret rfl rfl rfl rfl ?_)
  · have hil : i < gs.length := by omega
    have bad' : ¬ ImpAt m gs i → aout [Value.bool false] = .bool (tv (FamOk m gs)) := fun hx => bad (fun hc => hx (imp_of_fam hc i hil))
    refine KW.getL hs rfl rfl rfl rfl rfl rfl rfl rfl rfl rfl rfl rfl rfl rfl rfl rfl (by omega) h (fun g ag cg hg hsg => ?_)
    have hg : gs[i]? = some g := hg
    have hgd := getDL_of hg
    refine KW.callE rfl rfl rfl rfl rfl (isGroup _ (by have := hsm.at_ hg; omega) (by omega) hsg) (fun _ _ => ?_)
    refine KW.tstB rfl rfl (fun h2 => ?_) (fun h2 => ?_)
    · refine KW.cndB rfl rfl (fun _ => KW.ret rfl rfl rfl rfl (bad' (fun hx => ?_))) (fun h => absurd h (by decide))
      have := hx.1.1; rw [hgd] at this; rw [tv_true this] at h2; cases h2
    have h2 : Rises 0 (m - 1) g := tv_iff.1 (by simpa using h2)
    have hB : ∀ {j : Nat} {q : List Int}, j ≤ i → gs[j]? = some q → ∀ x ∈ q, 0 ≤ x ∧ x < (m.toNat : Nat) := fun {j q} hj hq => by
      rcases Nat.lt_or_ge j i with hlt | hge
      · have := (hr j hlt).1.1
        rw [getDL_of hq] at this
        exact rises_bound h1.1 this
      · obtain rfl : j = i := by omega
        rw [hg] at hq
        cases hq
        exact rises_bound h1.1 h2
    have hsmall : ∀ {j : Nat} {q : List Int}, j ≤ i → gs[j]? = some q → bitsOf q < 128 := fun {j q} hj hq => by
      have h3 : bitsOf q < 2 ^ 7 := bitsOf_lt (fun x hx => by have := hB hj hq x hx; omega)
      have h4 : (2 : Nat) ^ 7 = 128 := by decide
      omega
    refine KW.tst rfl rfl (fun h3 => ?g1) (fun h3 => ?g2)
    case' g1 =>
      have e2 : IntKind.i64.wrap ((i : Int) - 1) = ((i - 1 : Nat) : Int) := by rw [wr (by omega) (by omega)]; omega
      refine KW.getL hs rfl rfl rfl rfl rfl rfl rfl rfl rfl rfl rfl rfl rfl rfl rfl rfl (by rw [e2]; omega) (by rw [e2]; omega) (fun p ap cp hp hsp => ?_)
      rw [e2] at hp
      have hp : gs[i - 1]? = some p := hp
      have hpd := getDL_of hp
      refine KW.call rfl rfl rfl rfl rfl (slicesCompare (hsm.at_ hp) hsp hsg) (fun v n' _ hv => ?_)
      obtain ⟨r, rfl, hv⟩ := hv
      refine KW.cnd rfl rfl (fun h4 => KW.ret rfl rfl rfl rfl (bad' (fun hx => ?_))) (fun h4 => ?_)
      · have := hx.1.2 (by omega); rw [hgd, hpd] at this; rw [hv.1 h4] at this; cases this
      have hgrp : GrpAt m gs i := ⟨by rw [hgd]; exact h2, fun _ => by
        rw [hgd, hpd]
        cases e : lexB p g with
        | true => rfl
        | false => exact absurd (hv.2 e) h4⟩
      clear hv hp hpd hsp
    case' g2 =>
      refine KW.cndB rfl rfl (fun h => absurd h (by decide)) (fun _ => ?_)
      have hgrp : GrpAt m gs i := ⟨by rw [hgd]; exact h2, fun h => absurd h (by omega)⟩
    all_goals
      refine KW.cutTo hs rfl rfl rfl rfl rfl rfl rfl rfl rfl i rfl (by omega) (by omega) (fun at' ct hst => ?_)
      have htl : (gs.take i).length = i := by simp; omega
      refine KW.lp rfl rfl (fun j : Nat => [(1, .pointer (some ⟨H.n, 0, some 0⟩)), (4, .slice ag g.length cg), (14, .slice s gs.length c), (15, .int .i64 gs.length), (16, .int .i64 i), (44, .slice at' (gs.take i).length ct), (45, .int .i64 (gs.take i).length), (46, .int .i64 j)]) (fun j => j ≤ i ∧ ∀ j', j' < j → ¬ Sub gs i j' ∧ ¬ Sub gs j' i) (fun j => i - j) 0 ⟨by omega, fun j h => absurd h (by omega)⟩ ⟨rfl, rfl, rfl, rfl, rfl, rfl, rfl, rfl, trivial⟩ (fun j hj b n => ?_)
      obtain ⟨hj, hf⟩ := hj
      refine KW.cnd rfl rfl (fun h5 => ?_) (fun h5 => ?_)
      · have hji : j < i := by rw [htl] at h5; omega
        refine KW.getL hst rfl rfl rfl rfl rfl rfl rfl rfl rfl rfl rfl rfl rfl rfl rfl rfl (by omega) h5 (fun q aq cq hq hsq => ?_)
        have hq : gs[j]? = some q := by
          have hq : (gs.take i)[j]? = some q := hq
          rw [List.getElem?_take, if_pos hji] at hq; exact hq
        have hqd := getDL_of hq
        have b1 := hsmall (Nat.le_refl i) hg
        have b2 := hsmall (Nat.le_of_lt hji) hq
        refine KW.callE rfl rfl rfl rfl rfl (crowdOf (m := m.toNat) (by omega) (by have := hsm.at_ hq; omega) (hB (Nat.le_of_lt hji) hq) hsq) (fun _ _ => ?_)
        refine KW.callE rfl rfl rfl rfl rfl (crowdOf (m := m.toNat) (by omega) (by have := hsm.at_ hg; omega) (hB (Nat.le_refl i) hg) hsg) (fun _ _ => ?_)
        refine KW.callE rfl rfl rfl rfl rfl (contains (by omega) (by omega)) (fun _ _ => ?_)
        have s1 : Sub gs i j ↔ bitsOf q &&& bitsOf g = bitsOf g := by unfold Sub; rw [hgd, hqd, Nat.and_comm]
        have s2 : Sub gs j i ↔ bitsOf g &&& bitsOf q = bitsOf q := by unfold Sub; rw [hgd, hqd, Nat.and_comm]
        refine KW.tstB rfl rfl (fun h6 => ?_) (fun h6 => ?_)
        · refine KW.cndB rfl rfl (fun _ => KW.ret rfl rfl rfl rfl (bad' (fun hx => ?_))) (fun h => absurd h (by decide))
          exact (hx.2 j hji).1 (s1.2 (tv_iff.1 h6))
        refine KW.callE rfl rfl rfl rfl rfl (contains (by omega) (by omega)) (fun _ _ => ?_)
        refine KW.cndB rfl rfl (fun h7 => KW.ret rfl rfl rfl rfl (bad' (fun hx => (hx.2 j hji).2 (s2.2 (tv_iff.1 h7))))) (fun h7 => ?_)
        exact KW.nxt rfl rfl (fun H g' => ⟨j + 1, ⟨by omega, upto hf ⟨fun hc => (by rw [tv_true (s1.1 hc)] at h6; cases h6), fun hc => (by rw [tv_true (s2.1 hc)] at h7; cases h7)⟩⟩, by omega, ⟨rfl, rfl, rfl, rfl, rfl, rfl, rfl, congrArg (Value.int .i64) (inc64 (by omega)), trivial⟩, g'⟩)
      · have : j = i := by rw [htl] at h5; omega
        subst this
        exact KW.nxt rfl rfl (fun H g' => ⟨j + 1, ⟨by omega, upto hr ⟨hgrp, hf⟩⟩, by omega, ⟨rfl, rfl, rfl, congrArg (Value.int .i64) (inc64 (by omega)), trivial⟩, g'⟩)
  · rw [tv_true (p := FamOk m gs) (fam_of_imp h1 (fun i' hi' => hr i' (by omega)))]; rfl
/-- The code of a family. -/
noncomputable def codeF (h : Int) (gs : List (List Int)) : Int := if tv (FamOk h gs) = true then (if h > 5 then 3 else if gs.length = 0 then 4 else if (gs.getD 0 []).length = 0 then 4 else 0) else 1
theorem rankedCode (m : Int) {s c} {gs : List (List Int)} (hsm : Sml gs) (hs : (Kn.int .i64).sl.Sl S H0 (.slice s gs.length c) gs) :
    Spec Try.prog S H0 81 [familyV m (.slice s gs.length c)] (fun v => v = .int .i64 (codeF m gs)) := by
  refine Spec.of Try.func81 rfl (by kernel_rfl) rfl (fun H hfin hfz => ?_)
  have hs := hs.to hfz
  refine KW.callE rfl rfl rfl rfl rfl (validFamily m hsm hs) (fun _ _ => ?_)
  refine KW.cndB rfl rfl (fun h1 => KW.ret rfl rfl rfl rfl ?_) (fun h1 => ?_)
  · have h1 : tv (FamOk m gs) = false := by simpa using h1
    unfold codeF; rw [h1]; rfl
  have h1 : tv (FamOk m gs) = true := by simpa using h1
  refine KW.cnd rfl rfl (fun h2 => KW.ret rfl rfl rfl rfl ?_) (fun h2 => ?_)
  · unfold codeF; rw [if_pos h1, if_pos h2]; rfl
  refine KW.tstB rfl rfl (fun h3 => ?_) (fun h3 => ?_)
  · refine KW.cndB rfl rfl (fun _ => KW.ret rfl rfl rfl rfl ?_) (fun h => absurd h (by decide))
    unfold codeF; rw [if_pos h1, if_neg h2, if_pos (by simp at h3; simp [h3])]; rfl
  have h3 : ¬ gs.length = 0 := by simp at h3; simp [h3]
  refine KW.getL hs rfl rfl rfl rfl rfl rfl rfl rfl rfl rfl rfl rfl rfl rfl rfl rfl (by omega) (by omega) (fun g ag cg hg hsg => ?_)
  have hgd : gs.getD 0 [] = g := getDL_of hg
  refine KW.cndB rfl rfl (fun h4 => KW.ret rfl rfl rfl rfl ?_) (fun h4 => KW.ret rfl rfl rfl rfl ?_)
  · unfold codeF; rw [if_pos h1, if_neg h2, if_neg h3, hgd, if_pos (by simp at h4; simp [h4])]; rfl
  · unfold codeF; rw [if_pos h1, if_neg h2, if_neg h3, hgd, if_neg (by simp at h4; simp [h4])]; rfl
theorem l07Family (m : Int) {id : Nat} {ty : TypeId} {rw : Bool} {s c} {gs : List (List Int)} (hsm : Sml gs) (hS : S id) (hm : H0.m id = some ⟨ty, rw, [.int .i64 m, .slice s gs.length c]⟩) (hs : (Kn.int .i64).sl.Sl S H0 (.slice s gs.length c) gs) :
    Spec Try.prog S H0 72 [.pointer (some ⟨id, 0, none⟩)] (fun v => v = .int .i64 (codeF m gs)) := by
  refine Spec.of Try.func72 rfl (by kernel_rfl) rfl (fun H hfin hfz => ?_)
  have hs := hs.to hfz
  have hm := ((hfz id hS).2).trans hm
  have hS : Low H.n id := (hfz id hS).1
  refine KW.ldP hS hm rfl rfl rfl rfl rfl rfl ?_
  refine KW.callE rfl rfl rfl rfl rfl (specValidFamily m hsm hs) (fun _ _ => ?_)
  refine KW.cndB rfl rfl (fun h1 => KW.ret rfl rfl rfl rfl ?_) (fun h1 => ?_)
  · have h1 : tv (FamOk m gs) = false := by simpa using h1
    unfold codeF; rw [h1]; rfl
  have h1 : tv (FamOk m gs) = true := by simpa using h1
  refine KW.ldP hS hm rfl rfl rfl rfl rfl rfl ?_
  refine KW.cnd rfl rfl (fun h2 => KW.ret rfl rfl rfl rfl ?_) (fun h2 => ?_)
  · unfold codeF; rw [if_pos h1, if_pos h2]; rfl
  refine KW.ldP hS hm rfl rfl rfl rfl rfl rfl ?_
  refine KW.tstB rfl rfl (fun h3 => ?_) (fun h3 => ?_)
  · refine KW.cndB rfl rfl (fun _ => KW.ret rfl rfl rfl rfl ?_) (fun h => absurd h (by decide))
    unfold codeF; rw [if_pos h1, if_neg h2, if_pos (by simp at h3; simp [h3])]; rfl
  have h3 : ¬ gs.length = 0 := by simp at h3; simp [h3]
  refine KW.ldP hS hm rfl rfl rfl rfl rfl rfl ?_
  refine KW.getL hs rfl rfl rfl rfl rfl rfl rfl rfl rfl rfl rfl rfl rfl rfl rfl rfl (by omega) (by omega) (fun g ag cg hg hsg => ?_)
  have hgd : gs.getD 0 [] = g := getDL_of hg
  refine KW.cndB rfl rfl (fun h4 => KW.ret rfl rfl rfl rfl ?_) (fun h4 => KW.ret rfl rfl rfl rfl ?_)
  · unfold codeF; rw [if_pos h1, if_neg h2, if_neg h3, hgd, if_pos (by simp at h4; simp [h4])]; rfl
  · unfold codeF; rw [if_pos h1, if_neg h2, if_neg h3, hgd, if_neg (by simp at h4; simp [h4])]; rfl
noncomputable def fitC (m u : Int) (l : List Int) (h : Int) (gs : List (List Int)) : Int := if tv (OkR m u l) = true then (if codeF h gs = 0 then (if m = h then 0 else 2) else codeF h gs) else 1
end
end Go.Proofs.Ytijmkfnmdhpakaa.Am
/- Contracts: which sets open, and the program's search for a misfit. Each holds under its own conditions. -/
set_option linter.unusedVariables false
set_option maxRecDepth 20000
namespace Go.Proofs.Ytijmkfnmdhpakaa.Am
open Go Go.RowKit Go.Proofs
theorem Fz.trans {S : Ids} {H0 H H' : AH} (h : Fz S H0 H) (k : Fz (Low H.n) H H') : Fz S H0 H' := fun id hid => by
  obtain ⟨h1, h2⟩ := h id hid
  obtain ⟨h3, h4⟩ := k id h1
  exact ⟨h3, h4.trans h2⟩
section
variable {S : Ids} {H0 : AH}
/-- A function value that tells something of each element. -/
def Tells {α : Type} (P : Program) (S : Ids) (H0 : AH) (d : Kn α) (xs : List (List α)) (g : FuncId) (cap : List Value) (p : List α → Bool) : Prop :=
  ∀ H', Fz S H0 H' → ∀ x a c, x ∈ xs → d.Sl (Low H'.n) H' (.slice a x.length c) x → Spec P (Low H'.n) H' g (.slice a x.length c :: cap) (fun v => v = .bool (p x))
theorem Tells.to {α : Type} {P : Program} {d : Kn α} {xs : List (List α)} {g : FuncId} {cap : List Value} {p : List α → Bool} {H : AH} (h : Tells P S H0 d xs g cap p) (hf : Fz S H0 H) : Tells P (Low H.n) H d xs g cap p := fun H' hf' => h H' (hf.trans hf')
theorem indexFunc2 {a c} {xs : List (List Int)} {g : FuncId} {id k : Nat} {sp : Option Nat} {p : List Int → Bool} (hl : xs.length ≤ 1048576) (hs : (Kn.int .i64).sl.Sl S H0 (.slice a xs.length c) xs) (hp : Tells Try.prog S H0 (Kn.int .i64) xs g [.pointer (some ⟨id, k, none⟩)] p) :
    Spec Try.prog S H0 197 [.slice a xs.length c, .func (.func g) #[] #[.pointer (some ⟨id, k, sp⟩)]] (fun v => ∃ r : Int, v = .int .i64 r ∧ (r ≥ 0 ↔ ∃ x ∈ xs, p x = true)) := by
  refine Spec.of Try.func197 rfl (by kernel_rfl) rfl (fun H hfin hfz => ?_)
  have hs := hs.to hfz
  have hp := hp.to hfz
  refine KW.lp rfl rfl (fun i : Nat => [(0, .slice a xs.length c), (1, .func (.func g) #[] #[.pointer (some ⟨id, k, sp⟩)]), (7, .int .i64 xs.length), (8, .int .i64 i)]) (fun i => i ≤ xs.length ∧ ∀ j, j < i → ∀ x, xs[j]? = some x → p x = false) (fun i => xs.length - i) 0 ⟨by omega, fun j h => absurd h (by omega)⟩ ⟨rfl, rfl, rfl, rfl, trivial⟩ (fun i hi b n => ?_)
  obtain ⟨hi, hj⟩ := hi
  refine KW.cnd rfl rfl (fun h => ?_) (fun h => KW.ret rfl rfl rfl rfl ⟨-1, rfl, ?_⟩)
  · refine KW.getL hs rfl rfl rfl rfl rfl rfl rfl rfl rfl rfl rfl rfl rfl rfl rfl rfl (by omega) h (fun x ax cx hx hsx => ?_)
    have hx : xs[i]? = some x := hx
    have hmem := List.mem_of_getElem? hx
    refine KW.callE rfl rfl rfl rfl rfl (hp H (fun id h => ⟨h, rfl⟩) x ax cx hmem hsx) (fun _ _ => ?_)
    refine KW.cndB rfl rfl (fun h2 => KW.ret rfl rfl rfl rfl ⟨(i : Int), rfl, ?_⟩) (fun h2 => ?_)
    · exact ⟨fun _ => ⟨x, hmem, h2⟩, fun _ => by omega⟩
    · exact KW.nxt rfl rfl (fun H g' => ⟨i + 1, ⟨by omega, upto hj (fun y hy => by rw [hx] at hy; cases hy; exact h2)⟩, by omega, ⟨rfl, rfl, rfl, congrArg (Value.int .i64) (inc64 (by omega)), trivial⟩, g'⟩)
  · refine ⟨fun h => absurd h (by decide), fun ⟨x, hx, hpx⟩ => ?_⟩
    obtain ⟨j, hjx⟩ := List.getElem?_of_mem hx
    have := hj j (by have := (List.getElem?_eq_some_iff.1 hjx).1; omega) x hjx
    rw [hpx] at this; cases this
theorem containsFunc2 {a c} {xs : List (List Int)} {g : FuncId} {id k : Nat} {sp : Option Nat} {p : List Int → Bool} (hl : xs.length ≤ 1048576) (hs : (Kn.int .i64).sl.Sl S H0 (.slice a xs.length c) xs) (hp : Tells Try.prog S H0 (Kn.int .i64) xs g [.pointer (some ⟨id, k, none⟩)] p) :
    Spec Try.prog S H0 156 [.slice a xs.length c, .func (.func g) #[] #[.pointer (some ⟨id, k, sp⟩)]] (fun v => v = .bool (tv (∃ x ∈ xs, p x = true))) := by
  refine Spec.of Try.func156 rfl (by kernel_rfl) rfl (fun H hfin hfz => ?_)
  refine KW.call rfl rfl rfl rfl rfl (indexFunc2 hl (hs.to hfz) (hp.to hfz)) (fun v n' _ hv => ?_)
  obtain ⟨r, rfl, hr⟩ := hv
  refine KW.ret rfl rfl rfl rfl ?_
  show Value.bool (decide (r ≥ 0)) = _
  rw [tv_dec, tv_congr hr]
/-- The set c has all holders of a group. -/
def Opens (gs : List (List Int)) (c : Nat) : Prop := ∃ g ∈ gs, c &&& bitsOf g = bitsOf g
/-- All groups are of holders below m. -/
def Below' (m : Nat) (gs : List (List Int)) : Prop := ∀ g ∈ gs, ∀ x ∈ g, 0 ≤ x ∧ x < (m : Int)
theorem below_bits {m : Nat} (hm : m ≤ 7) {gs : List (List Int)} (hb : Below' m gs) {g : List Int} (hg : g ∈ gs) : bitsOf g < 128 := by
  have h3 : bitsOf g < 2 ^ 7 := bitsOf_lt (fun x hx => by have := hb g hg x hx; omega)
  have h4 : (2 : Nat) ^ 7 = 128 := by decide
  omega
theorem FamOk.below {m : Int} {gs : List (List Int)} (h : FamOk m gs) : Below' m.toNat gs := fun g hg x hx => by
  obtain ⟨i, hi⟩ := List.getElem?_of_mem hg
  have h1 := (h.grp i (List.getElem?_eq_some_iff.1 hi).1).1
  rw [getDL_of hi] at h1
  exact rises_bound h.h1 h1 x hx
theorem opens1 {m : Nat} (hm : m ≤ 7) {q : Nat} (hq : q < 4611686018427387904) {g : List Int} (hg : ∀ x ∈ g, 0 ≤ x ∧ x < (m : Int)) (hl : g.length ≤ 1048576) {a c} {id : Nat} {ty : TypeId} {rw : Bool} (hS : S id) (hm' : H0.m id = some ⟨ty, rw, [.int .u64 q]⟩) (hs : (Kn.int .i64).Sl S H0 (.slice a g.length c) g) :
    Spec Try.prog S H0 157 [.slice a g.length c, .pointer (some ⟨id, 0, none⟩)] (fun v => v = .bool (tv (q &&& bitsOf g = bitsOf g))) := by
  refine Spec.of Try.func157 rfl (by kernel_rfl) rfl (fun H hfin hfz => ?_)
  have hm' := ((hfz id hS).2).trans hm'
  have hS : Low H.n id := (hfz id hS).1
  have hb : bitsOf g < 2 ^ m := bitsOf_lt (fun x h => by have := hg x h; omega)
  have hp := small_pow (m := m) (by omega)
  refine KW.ldP hS hm' rfl rfl rfl rfl rfl rfl ?_
  refine KW.callE rfl rfl rfl rfl rfl (crowdOf (m := m) (by omega) (by omega) hg (hs.to hfz)) (fun _ _ => ?_)
  refine KW.callE rfl rfl rfl rfl rfl (contains hq (by omega)) (fun _ _ => ?_)
  exact KW.ret rfl rfl rfl rfl rfl
theorem opens {m : Nat} (hm : m ≤ 7) (h : Int) {q : Nat} (hq : q < 4611686018427387904) {gs : List (List Int)} (hsm : Sml gs) (hb : Below' m gs) {a c} (hs : (Kn.int .i64).sl.Sl S H0 (.slice a gs.length c) gs) :
    Spec Try.prog S H0 86 [familyV h (.slice a gs.length c), .int .u64 q] (fun v => v = .bool (tv (Opens gs q))) := by
  refine Spec.of Try.func86 rfl (by kernel_rfl) rfl (fun H hfin hfz => ?_)
  refine KW.callV rfl rfl rfl rfl rfl (fun H1 g => containsFunc2 (p := fun x => tv (q &&& bitsOf x = bitsOf x)) hsm.len ((hs.to hfz).on (fun id hid => (g.froz id hid).2) (fun id hid => by have := (g.froz id hid).1; have := g.n_; show id < H1.n; omega)) (fun H' hf' x ax cx hx hsx => ?_)) (fun _ _ => ?_)
  · have hb1 := g.blk (j := 1) rfl
    obtain ⟨h1, h2⟩ := hf' _ hb1.2
    exact opens1 hm hq (hb x hx) (hsm.each x hx) h1 (h2.trans hb1.1) hsx
  · refine KW.ret rfl rfl rfl rfl ?_
    show Value.bool (tv _) = _
    congr 1
    exact tv_congr ⟨fun ⟨x, h1, h2⟩ => ⟨x, h1, tv_iff.1 h2⟩, fun ⟨x, h1, h2⟩ => ⟨x, h1, tv_iff.2 h2⟩⟩
end
end Go.Proofs.Ytijmkfnmdhpakaa.Am
/- Contracts: the program's search for a misfit. Each holds under its own conditions. -/
set_option linter.unusedVariables false
set_option maxRecDepth 20000
namespace Go.Proofs.Ytijmkfnmdhpakaa.Am
open Go Go.RowKit Go.Proofs
def Grow (l : List Int) (u : Int) (gs : List (List Int)) (a b : Nat) : Prop := a &&& b = a ∧ ¬ Opens gs a ∧ Opens gs b ∧ l.getD b 0 < l.getD a 0 + u
def Meet (l : List Int) (u : Int) (gs : List (List Int)) (a b : Nat) : Prop := Opens gs a ∧ Opens gs b ∧ ¬ Opens gs (a &&& b) ∧ l.getD a 0 + l.getD b 0 < l.getD (a ||| b) 0 + l.getD (a &&& b) 0 + u
def Mis (l : List Int) (u : Int) (gs : List (List Int)) (a b : Nat) : Prop := Grow l u gs a b ∨ Meet l u gs a b
/-- The first misfit, or that there is none. -/
def Fst (l : List Int) (u : Int) (gs : List (List Int)) (a b : Nat) (f : Bool) : Prop :=
  (f = true ∧ a < l.length ∧ b < l.length ∧ Mis l u gs a b ∧ (∀ a', a' < a → ∀ b', b' < l.length → ¬ Mis l u gs a' b') ∧ ∀ b', b' < b → ¬ Mis l u gs a b') ∨
  (f = false ∧ a = 0 ∧ b = 0 ∧ ∀ a', a' < l.length → ∀ b', b' < l.length → ¬ Mis l u gs a' b')
theorem Fst.one {l : List Int} {u : Int} {gs : List (List Int)} {a b a' b' : Nat} {f f' : Bool} (h : Fst l u gs a b f) (k : Fst l u gs a' b' f') : a = a' ∧ b = b' ∧ f = f' := by
  rcases h with ⟨rfl, h1, h2, h3, h4, h5⟩ | ⟨rfl, rfl, rfl, h4⟩ <;> rcases k with ⟨rfl, k1, k2, k3, k4, k5⟩ | ⟨rfl, rfl, rfl, k4⟩
  · have ha : a = a' := by
      rcases Nat.lt_trichotomy a a' with h | h | h
      · exact absurd h3 (k4 a h b h2)
      · exact h
      · exact absurd k3 (h4 a' h b' k2)
    subst ha
    refine ⟨rfl, ?_, rfl⟩
    rcases Nat.lt_trichotomy b b' with h | h | h
    · exact absurd h3 (k5 b h)
    · exact h
    · exact absurd k3 (h5 b' h)
  · exact absurd h3 (k4 a h1 b h2)
  · exact absurd k3 (h4 a' k1 b' k2)
  · exact ⟨rfl, rfl, rfl⟩
section
variable {S : Ids} {H0 : AH}
end
end Go.Proofs.Ytijmkfnmdhpakaa.Am
/- Contracts: the reference's table of what opens, and its search for a misfit. Each holds under its own conditions. -/
set_option linter.unusedVariables false
set_option maxRecDepth 20000
namespace Go.Proofs.Ytijmkfnmdhpakaa.Am
open Go Go.RowKit Go.Proofs
theorem bool_sl {xs : List Bool} {S : Ids} {H : AH} {id c : Nat} {b : Blk} (hS : S id) (hb : H.m id = some b) (hc : b.cells = xs.map Value.bool) (hl : xs.length ≤ c) : Kn.bool.Sl S H (.slice (some ⟨id, 0, some 1⟩) xs.length c) xs := by
  refine .inr ⟨id, 0, c, b, rfl, hl, hS, hb, by rw [hc]; simp [Kn.bool], fun i x hx => ?_⟩
  obtain ⟨hi, rfl⟩ := List.getElem?_eq_some_iff.1 hx
  show _ = _
  rw [hc]
  show ((xs.map Value.bool).drop (0 + i * 1)).take 1 = _
  rw [List.take_one, Nat.zero_add, Nat.mul_one, List.head?_drop]
  simp [hi]
noncomputable def tabO (gs : List (List Int)) (n : Nat) : List Bool := (List.range n).map fun q => tv (Opens gs q)
theorem tabO_len (gs : List (List Int)) (n : Nat) : (tabO gs n).length = n := by simp [tabO]
theorem tabO_at {gs : List (List Int)} {n q : Nat} (h : q < n) {y : Bool} (hy : (tabO gs n)[q]? = some y) : y = tv (Opens gs q) := by
  unfold tabO at hy
  rw [List.getElem?_map, List.getElem?_range h] at hy
  simpa using hy.symm
theorem tabO_next (gs : List (List Int)) (n : Nat) : tabO gs (n + 1) = tabO gs n ++ [tv (Opens gs n)] := by simp [tabO, List.range_succ]
section
variable {S : Ids} {H0 : AH}
theorem l07Grows {gs : List (List Int)} {n a b : Nat} (hn : n ≤ 256) (ha : a < n) (hb : b < n) {s c} (hs : Kn.bool.Sl S H0 (.slice s (tabO gs n).length c) (tabO gs n)) :
    Spec Try.prog S H0 76 [.slice s (tabO gs n).length c, .int .i64 a, .int .i64 b] (fun v => v = .bool (tv (a &&& b = a ∧ ¬ Opens gs a ∧ Opens gs b))) := by
  refine Spec.of Try.func76 rfl (by kernel_rfl) rfl (fun H hfin hfz => ?_)
  have hs := hs.to hfz
  have hl := tabO_len gs n
  have ea := and_i64 (a := a) (b := b) (by omega) (by omega)
  have no : ¬ (a &&& b = a ∧ ¬ Opens gs a ∧ Opens gs b) → aout [Value.bool false] = .bool (tv (a &&& b = a ∧ ¬ Opens gs a ∧ Opens gs b)) := fun h => by rw [tv_false h]; rfl
  refine KW.tstB rfl rfl (fun h1 => ?_) (fun h1 => ?_)
  · have h1 : a &&& b = a := by rw [ea] at h1; simp at h1; omega
    refine KW.getB hs rfl rfl rfl rfl rfl rfl rfl rfl rfl rfl rfl rfl rfl rfl rfl rfl (by omega) (by omega) (fun y hy => ?_)
    obtain rfl := tabO_at ha hy
    refine KW.tstB rfl rfl (fun h2 => ?_) (fun h2 => ?_)
    · refine KW.getB hs rfl rfl rfl rfl rfl rfl rfl rfl rfl rfl rfl rfl rfl rfl rfl rfl (by omega) (by omega) (fun z hz => ?_)
      obtain rfl := tabO_at hb hz
      refine KW.ret rfl rfl rfl rfl ?_
      show Value.bool (tv _) = _
      congr 1
      exact tv_congr ⟨fun h => ⟨h1, fun hc => (by rw [tv_true hc] at h2; cases h2), h⟩, fun h => h.2.2⟩
    · exact KW.ret rfl rfl rfl rfl (no (fun hc => by rw [tv_false hc.2.1] at h2; cases h2))
  · refine KW.tstB rfl rfl (fun h => absurd h (by decide)) (fun _ => ?_)
    exact KW.ret rfl rfl rfl rfl (no (fun hc => by rw [ea, hc.1] at h1; simp at h1))
theorem l07Parts {gs : List (List Int)} {n a b : Nat} (hn : n ≤ 256) (ha : a < n) (hb : b < n) (hab : a &&& b < n) {s c} (hs : Kn.bool.Sl S H0 (.slice s (tabO gs n).length c) (tabO gs n)) :
    Spec Try.prog S H0 77 [.slice s (tabO gs n).length c, .int .i64 a, .int .i64 b] (fun v => v = .bool (tv (Opens gs a ∧ Opens gs b ∧ ¬ Opens gs (a &&& b)))) := by
  refine Spec.of Try.func77 rfl (by kernel_rfl) rfl (fun H hfin hfz => ?_)
  have hs := hs.to hfz
  have hl := tabO_len gs n
  have ea := and_i64 (a := a) (b := b) (by omega) (by omega)
  have no : ¬ (Opens gs a ∧ Opens gs b ∧ ¬ Opens gs (a &&& b)) → aout [Value.bool false] = .bool (tv (Opens gs a ∧ Opens gs b ∧ ¬ Opens gs (a &&& b))) := fun h => by rw [tv_false h]; rfl
  refine KW.getB hs rfl rfl rfl rfl rfl rfl rfl rfl rfl rfl rfl rfl rfl rfl rfl rfl (by omega) (by omega) (fun y hy => ?_)
  obtain rfl := tabO_at ha hy
  refine KW.tstB rfl rfl (fun h1 => ?_) (fun h1 => ?_)
  · refine KW.getB hs rfl rfl rfl rfl rfl rfl rfl rfl rfl rfl rfl rfl rfl rfl rfl rfl (by omega) (by omega) (fun z hz => ?_)
    obtain rfl := tabO_at hb hz
    refine KW.tstB rfl rfl (fun h2 => ?_) (fun h2 => ?_)
    · refine KW.getB hs rfl rfl rfl rfl rfl rfl rfl rfl rfl rfl rfl rfl rfl rfl rfl rfl (by rw [ea]; omega) (by rw [ea]; omega) (fun w hw => ?_)
      rw [ea] at hw
      obtain rfl := tabO_at hab hw
      refine KW.ret rfl rfl rfl rfl ?_
      show Value.bool (!tv _) = _
      congr 1
      by_cases h : Opens gs (a &&& b)
      · rw [tv_true h, tv_false (fun hc => hc.2.2 h)]; rfl
      · rw [tv_false h, tv_true ⟨tv_iff.1 h1, tv_iff.1 h2, h⟩]; rfl
    · exact KW.ret rfl rfl rfl rfl (no (fun hc => by rw [tv_true hc.2.1] at h2; cases h2))
  · refine KW.tstB rfl rfl (fun h => absurd h (by decide)) (fun _ => ?_)
    exact KW.ret rfl rfl rfl rfl (no (fun hc => by rw [tv_true hc.1] at h1; cases h1))
theorem l07Open {m : Nat} (hm : m ≤ 7) {id : Nat} {ty : TypeId} {rw : Bool} {a1 c1} {gs : List (List Int)} (hsm : Sml gs) (hb : Below' m gs) (hS : S id) (hmm : H0.m id = some ⟨ty, rw, [.int .i64 m, .slice a1 gs.length c1]⟩) (hs : (Kn.int .i64).sl.Sl S H0 (.slice a1 gs.length c1) gs) :
    SpecM Try.prog S H0 74 [.pointer (some ⟨id, 0, none⟩)] (fun n v H1 => ∃ a c, v = .slice a (tabO gs (2 ^ m)).length c ∧ Kn.bool.Sl (New n H1.n) H1 (.slice a (tabO gs (2 ^ m)).length c) (tabO gs (2 ^ m))) := by
  refine SpecM.of Try.func74 rfl (by kernel_rfl) rfl (fun H hfin hfz => ?_)
  have hs := hs.to hfz
  have hm2 := ((hfz id hS).2).trans hmm
  have hS2 : Low H.n id := (hfz id hS).1
  have hgl := hsm.len
  have hp := small_pow (m := m) (by omega)
  refine KW.lit rfl rfl rfl rfl rfl rfl rfl rfl rfl rfl [] rfl rfl (fun v hv => by simp at hv) rfl ?_
  refine KW.lpM rfl rfl (fun s : Nat × Nat => [(0, .pointer (some ⟨id, 0, none⟩)), (3, .slice (some ⟨s.2, 0, some 1⟩) s.1 s.1), (4, .int .i64 s.1)]) (fun _ => Low H.n) (fun _ => H) (fun s => [(s.2, ⟨_, true, (tabO gs s.1).map Value.bool⟩)]) (fun s => s.1 ≤ 2 ^ m) (fun s => 2 ^ m - s.1) (0, H.n) (by simp) ⟨rfl, rfl, rfl, trivial⟩ rfl rfl rfl (fun s hi b n => ?_)
  obtain ⟨q, o⟩ := s
  simp only at hi
  refine KW.fact (p := ¬ o < H.n) (fun _ g => (g.vars 0 _ rfl).2.2) (fun ho => ?_)
  refine KW.ldP hS2 hm2 rfl rfl rfl rfl rfl rfl ?_
  refine KW.shlI rfl rfl rfl rfl rfl rfl m (wru (by omega) (by omega)) (by omega) ?_
  refine KW.cnd rfl rfl (fun h => ?_) (fun h => ?_)
  · have hql : q < 2 ^ m := by omega
    refine KW.lp rfl rfl (fun i : Nat => [(0, .pointer (some ⟨id, 0, none⟩)), (3, .slice (some ⟨o, 0, some 1⟩) q q), (4, .int .i64 q), (5, .bool (tv (Opens (gs.take i) q))), (6, .int .i64 i)]) (fun i => i ≤ gs.length) (fun i => gs.length - i) 0 (by omega) ⟨rfl, rfl, rfl, congrArg Value.bool (tv_false (fun ⟨g, hg, _⟩ => by simp at hg)).symm, rfl, trivial⟩ (fun i hi b n => ?_)
    refine KW.ldP hS2 hm2 rfl rfl rfl rfl rfl rfl ?_
    refine KW.cnd rfl rfl (fun h2 => ?_) (fun h2 => ?_)
    · refine KW.ldP hS2 hm2 rfl rfl rfl rfl rfl rfl ?_
      refine KW.getL hs rfl rfl rfl rfl rfl rfl rfl rfl rfl rfl rfl rfl rfl rfl rfl rfl (by omega) h2 (fun g ag cg hg hsg => ?_)
      have hg : gs[i]? = some g := hg
      have hmem := List.mem_of_getElem? hg
      have hbs := below_bits hm hb hmem
      refine KW.callE rfl rfl rfl rfl rfl (l07Bits (m := m) (by omega) (by have := hsm.each g hmem; omega) (hb g hmem) hsg) (fun _ _ => ?_)
      have etake : gs.take (i + 1) = gs.take i ++ [g] := by
        obtain ⟨hi', rfl⟩ := List.getElem?_eq_some_iff.1 hg
        exact List.take_succ_eq_append_getElem hi'
      have eop : Opens (gs.take (i + 1)) q ↔ Opens (gs.take i) q ∨ q &&& bitsOf g = bitsOf g := by
        rw [etake]
        constructor
        · rintro ⟨x, hx, h⟩
          rcases List.mem_append.1 hx with hx | hx
          · exact .inl ⟨x, hx, h⟩
          · obtain rfl : x = g := by simpa using hx
            exact .inr h
        · rintro (⟨x, hx, h⟩ | h)
          · exact ⟨x, List.mem_append_left _ hx, h⟩
          · exact ⟨g, by simp, h⟩
      refine KW.tstB rfl rfl (fun h3 => ?_) (fun h3 => ?_)
      · exact KW.nxt rfl rfl (fun H g' => ⟨i + 1, by omega, by omega, ⟨rfl, rfl, rfl, congrArg Value.bool (tv_true (eop.2 (.inl (tv_iff.1 h3)))).symm, congrArg (Value.int .i64) (inc64 (by omega)), trivial⟩, g'⟩)
      · refine KW.nxt rfl rfl (fun H g' => ⟨i + 1, by omega, by omega, ⟨rfl, rfl, rfl, ?_, congrArg (Value.int .i64) (inc64 (by omega)), trivial⟩, g'⟩)
        show Value.bool (IntKind.i64.wrap ((BitVec.ofInt IntKind.i64.bits ((bitsOf g : Nat) : Int) &&& BitVec.ofInt IntKind.i64.bits (q : Int)).toNat : Int) == ((bitsOf g : Nat) : Int)) = _
        rw [and_i64 (by omega) (by omega), Nat.and_comm]
        congr 1
        by_cases h4 : q &&& bitsOf g = bitsOf g
        · rw [tv_true (eop.2 (.inr h4)), h4]; simp
        · rw [tv_false (fun hc => by rcases eop.1 hc with hc | hc; · rw [tv_true hc] at h3; cases h3
                                     · exact h4 hc)]
          simp; omega
    · have hil : i = gs.length := by omega
      subst hil
      rw [List.take_length]
      refine KW.lit rfl rfl rfl rfl rfl rfl rfl rfl rfl rfl [.bool (tv (Opens gs q))] rfl rfl (fun v hv => by simp at hv; subst hv; rfl) rfl ?_
      refine KW.appT (ys := [.bool (tv (Opens gs q))]) (m := 1) 0 rfl rfl rfl rfl rfl rfl rfl rfl rfl rfl (fun H g => acells_T (g.blk (j := 1) rfl).1 rfl rfl) (by simp [tabO_len]) (fun v hv => by simp at hv; subst hv; rfl) (by decide) (by show (q + 1) * 1 ≤ _; omega) (by omega) ?_
      refine KW.nxt rfl rfl (fun H g' => ⟨(q + 1, _), by simp only; omega, by simp only; omega, ⟨rfl, rfl, congrArg (Value.int .i64) (inc64 (by omega)), trivial⟩, (g'.take 1).eqT ?_⟩)
      rw [tabO_next, List.map_append]
      rfl
  · obtain rfl : q = 2 ^ m := by omega
    refine KW.retM rfl rfl rfl rfl (fun id hid => ⟨hid, rfl⟩) (fun H1 g => ?_)
    have hb := g.blk (j := 0) rfl
    refine ⟨some ⟨o, 0, some 1⟩, 2 ^ m, ?_, bool_sl ⟨by omega, hb.2⟩ hb.1 rfl (by rw [tabO_len]; omega)⟩
    rw [tabO_len]
    rfl
end
end Go.Proofs.Ytijmkfnmdhpakaa.Am
/- Contracts: FitsFamily, of the program and of the reference. Each holds under its own conditions. -/
set_option linter.unusedVariables false
set_option maxRecDepth 20000
namespace Go.Proofs.Ytijmkfnmdhpakaa.Am
open Go Go.RowKit Go.Proofs
/-- What both return. -/
noncomputable def fitsB (m u : Int) (l : List Int) (h : Int) (gs : List (List Int)) : Bool := if fitC m u l h gs = 0 then tv (∀ a, a < l.length → ∀ b, b < l.length → ¬ Mis l u gs a b) else false
noncomputable def fitsV (m u : Int) (l : List Int) (h : Int) (gs : List (List Int)) : Value := .tuple #[.bool (fitsB m u l h gs), .int .i64 (fitC m u l h gs)]
theorem fits_no {m u : Int} {l : List Int} {h : Int} {gs : List (List Int)} (e : ¬ fitC m u l h gs = 0) : fitsV m u l h gs = .tuple #[.bool false, .int .i64 (fitC m u l h gs)] := by unfold fitsV fitsB; rw [if_neg e]
theorem fits_yes {m u : Int} {l : List Int} {h : Int} {gs : List (List Int)} (e : fitC m u l h gs = 0) : fitsV m u l h gs = .tuple #[.bool (tv (∀ a, a < l.length → ∀ b, b < l.length → ¬ Mis l u gs a b)), .int .i64 0] := by unfold fitsV fitsB; rw [if_pos e, e]
theorem fitC_zero {m u : Int} {l : List Int} {h : Int} {gs : List (List Int)} (e : fitC m u l h gs = 0) : OkR m u l ∧ FamOk h gs ∧ m = h := by
  unfold fitC at e
  by_cases h1 : tv (OkR m u l) = true
  · rw [if_pos h1] at e
    by_cases h2 : codeF h gs = 0
    · rw [if_pos h2] at e
      by_cases h3 : m = h
      · refine ⟨tv_iff.1 h1, ?_, h3⟩
        unfold codeF at h2
        by_cases h4 : tv (FamOk h gs) = true
        · exact tv_iff.1 h4
        · rw [if_neg h4] at h2; omega
      · rw [if_neg h3] at e; omega
    · rw [if_neg h2] at e; omega
  · rw [if_neg h1] at e; omega
theorem Fst.none_ {l : List Int} {u : Int} {gs : List (List Int)} {a b : Nat} {f : Bool} (h : Fst l u gs a b f) : (!f) = tv (∀ a, a < l.length → ∀ b, b < l.length → ¬ Mis l u gs a b) := by
  rcases h with ⟨rfl, h1, h2, h3, _⟩ | ⟨rfl, _, _, h4⟩
  · rw [tv_false (fun hc => hc a h1 b h2 h3)]; rfl
  · rw [tv_true h4]; rfl
section
variable {S : Ids} {H0 : AH}
end
end Go.Proofs.Ytijmkfnmdhpakaa.Am
/- Contracts: sets as groups, marks on ranks and families. Each holds under its own conditions. -/
set_option linter.unusedVariables false
set_option maxRecDepth 20000
namespace Go.Proofs.Ytijmkfnmdhpakaa.Am
open Go Go.RowKit Go.Proofs
section
variable {P : Program} {S : Ids} {H0 : AH} {Q : PostC} {k k1 : List It} {e e1 : Env} {T T1 : List Var} {n n1 : Nat} {l1 r1 : List Nat} {d1 : Tmp}
theorem KW.shr {o : Oper} {dr : Bool} {t u : TypeId} {x y : Operand} {ik kk : IntKind} {j : Int} {v : Int} (h : Go1 P k e T n (.op o dr) k1 e1 T1 n1 l1 r1) (hlr : l1 = r1) (ho : o.op = .binOp .shr t x y u) (hd : o.dst = some d1) (hx : ev e1 x = .int ik v) (hy : ev e1 y = .int kk j) (hb : ik.bits = 64) (a m : Nat) (hv : v = a) (hj : j = m) (hm : m ≤ 63)
    (hk : KW P S H0 Q n1 T1 k1 (put1 e1 d1 (.int ik ((a / 2 ^ m : Nat) : Int)))) : KW P S H0 Q n T k e := by
  refine KW.pure h hlr ho hd rfl _ ?_ hk
  subst hj hv
  simp only [pop, hx, hy, abin, ashift]
  rw [if_neg (by omega), hb]
  have e1 : min (m : Int).toNat 64 = m := by omega
  rw [e1]
  congr 2
  rw [Int.fdiv_eq_ediv_of_nonneg _ (by exact Int.pow_nonneg (by decide))]
  exact_mod_cast rfl
end
/-- The holders below n that are in a set. -/
def hold (x n : Nat) : List Int := ((List.range n).filter fun i => x.testBit i).map fun (i : Nat) => (i : Int)
theorem hold_next (x n : Nat) : hold x (n + 1) = if x.testBit n = true then hold x n ++ [(n : Int)] else hold x n := by
  unfold hold
  rw [List.range_succ, List.filter_append, List.map_append]
  by_cases h : x.testBit n = true
  · simp [h]
  · have h : x.testBit n = false := by simpa using h
    simp [h]
theorem hold_len (x n : Nat) : (hold x n).length ≤ n := by
  unfold hold
  rw [List.length_map]
  exact Nat.le_trans (List.length_filter_le _ _) (by simp)
theorem hold_up {x m : Nat} (hx : x < 2 ^ m) : ∀ d, hold x (m + d) = hold x m
  | 0 => rfl
  | d + 1 => by
    rw [← Nat.add_assoc, hold_next, if_neg (by rw [Nat.testBit_lt_two_pow (Nat.lt_of_lt_of_le hx (Nat.pow_le_pow_right (by decide) (by omega)))]; decide)]
    exact hold_up hx d
theorem bit_is {x h : Nat} : (((x / 2 ^ h) &&& 1 : Nat) == 1) = x.testBit h := by
  rw [Nat.testBit_eq_decide_div_mod_eq, Nat.and_one_is_mod]
  rfl
section
variable {S : Ids} {H0 : AH}
theorem has {x h : Nat} (hx : x < 4611686018427387904) (hh : h ≤ 63) : Spec Try.prog S H0 159 [.int .u64 x, .int .i64 h] (fun v => v = .bool (x.testBit h)) := by
  refine Spec.of Try.func159 rfl (by kernel_rfl) rfl (fun H hfin hfz => ?_)
  refine KW.shr rfl rfl rfl rfl rfl rfl rfl x h rfl rfl hh ?_
  refine KW.ret rfl rfl rfl rfl ?_
  show Value.bool (IntKind.u64.wrap ((BitVec.ofInt IntKind.u64.bits ((x / 2 ^ h : Nat) : Int) &&& BitVec.ofInt IntKind.u64.bits ((1 : Nat) : Int)).toNat : Int) == ((1 : Nat) : Int)) = _
  rw [and_u64 (Nat.lt_of_le_of_lt (Nat.div_le_self _ _) hx) (by decide), ← bit_is]
  congr 1
  generalize x / 2 ^ h &&& 1 = q
  by_cases e : q = 1
  · subst e; rfl
  · rw [show (q == 1) = false from by simpa using e]
    simp only [beq_eq_false_iff_ne, ne_eq]
    omega
theorem group {x : Nat} (hx : x < 4611686018427387904) : SpecM Try.prog S H0 88 [.int .u64 x] (fun n v H1 => ∃ a c, v = .slice a (hold x 7).length c ∧ KI.Ml (New n H1.n) H1 (.slice a (hold x 7).length c) (hold x 7)) := by
  refine SpecM.of Try.func88 rfl (by kernel_rfl) rfl (fun H hfin hfz => ?_)
  refine KW.lit rfl rfl rfl rfl rfl rfl rfl rfl rfl rfl [] rfl rfl (fun v hv => by simp at hv) rfl ?_
  refine KW.lpM rfl rfl (fun s : Nat × Nat => [(0, .int .u64 x), (3, .slice (some ⟨s.2, 0, some 1⟩) (hold x s.1).length (hold x s.1).length), (4, .int .i64 s.1)]) (fun _ => Low H.n) (fun _ => H) (fun s => [(s.2, ⟨_, true, (hold x s.1).map (Value.int .i64)⟩)]) (fun s => s.1 ≤ 7) (fun s => 7 - s.1) (0, H.n) (by simp) ⟨rfl, rfl, rfl, trivial⟩ rfl rfl rfl (fun s hi b n => ?_)
  obtain ⟨q, o⟩ := s
  simp only at hi
  refine KW.fact (p := ¬ o < H.n) (fun _ g => (g.vars 0 _ rfl).2.2) (fun ho => ?_)
  have hq := hold_len x q
  refine KW.cnd rfl rfl (fun h => ?_) (fun h => ?_)
  · refine KW.callE rfl rfl rfl rfl rfl (has hx (by omega)) (fun _ _ => ?_)
    refine KW.cndB rfl rfl (fun h2 => ?_) (fun h2 => ?_)
    · refine KW.lit rfl rfl rfl rfl rfl rfl rfl rfl rfl rfl [.int .i64 q] rfl rfl (fun v hv => by simp at hv; subst hv; rfl) rfl ?_
      refine KW.appT (len := (hold x q).length) (ys := [.int .i64 q]) (m := 1) 0 rfl rfl rfl rfl rfl rfl rfl rfl rfl rfl (fun H g => acells_T (g.blk (j := 1) rfl).1 rfl rfl) (by simp) (fun v hv => by simp at hv; subst hv; rfl) (by decide) (by show ((hold x q).length + 1) * 8 ≤ _; omega) (by omega) ?_
      have e := hold_next x q
      rw [if_pos h2] at e
      refine KW.nxt rfl rfl (fun H g' => ⟨(q + 1, _), by simp only; omega, by simp only; omega, ⟨rfl, by simp only [e, List.length_append, List.length_singleton]; rfl, congrArg (Value.int .i64) (inc64 (by omega)), trivial⟩, (g'.take 1).eqT ?_⟩)
      simp only [e, List.map_append]
      rfl
    · have e := hold_next x q
      rw [if_neg (by rw [h2]; decide)] at e
      exact KW.nxt rfl rfl (fun H g' => ⟨(q + 1, o), by simp only; omega, by simp only; omega, ⟨rfl, by simp only [e]; rfl, congrArg (Value.int .i64) (inc64 (by omega)), trivial⟩, g'.eqT (by simp only [e])⟩)
  · obtain rfl : q = 7 := by omega
    refine KW.retM rfl rfl rfl rfl (fun id hid => ⟨hid, rfl⟩) (fun H1 g => ?_)
    have hb := g.blk (j := 0) rfl
    exact ⟨_, _, rfl, int_ml ⟨by omega, hb.2⟩ hb.1 rfl rfl (Nat.le_refl _)⟩
theorem l06Holders {x m : Nat} (hx : x < 4611686018427387904) (hm : m ≤ 63) : SpecM Try.prog S H0 93 [.int .i64 x, .int .i64 m] (fun n v H1 => ∃ a c, v = .slice a (hold x m).length c ∧ KI.Ml (New n H1.n) H1 (.slice a (hold x m).length c) (hold x m)) := by
  refine SpecM.of Try.func93 rfl (by kernel_rfl) rfl (fun H hfin hfz => ?_)
  refine KW.lit rfl rfl rfl rfl rfl rfl rfl rfl rfl rfl [] rfl rfl (fun v hv => by simp at hv) rfl ?_
  refine KW.lpM rfl rfl (fun s : Nat × Nat => [(0, .int .i64 x), (1, .int .i64 m), (5, .slice (some ⟨s.2, 0, some 1⟩) (hold x s.1).length (hold x s.1).length), (6, .int .i64 s.1)]) (fun _ => Low H.n) (fun _ => H) (fun s => [(s.2, ⟨_, true, (hold x s.1).map (Value.int .i64)⟩)]) (fun s => s.1 ≤ m) (fun s => m - s.1) (0, H.n) (by simp) ⟨rfl, rfl, rfl, rfl, trivial⟩ rfl rfl rfl (fun s hi b n => ?_)
  obtain ⟨q, o⟩ := s
  simp only at hi
  refine KW.fact (p := ¬ o < H.n) (fun _ g => (g.vars 0 _ rfl).2.2) (fun ho => ?_)
  have hq := hold_len x q
  refine KW.cnd rfl rfl (fun h => ?_) (fun h => ?_)
  · refine KW.shr rfl rfl rfl rfl rfl rfl rfl x q rfl (wru (by omega) (by omega)) (by omega) ?_
    have eb : (IntKind.i64.wrap ((BitVec.ofInt IntKind.i64.bits ((x / 2 ^ q : Nat) : Int) &&& BitVec.ofInt IntKind.i64.bits ((1 : Nat) : Int)).toNat : Int) == ((1 : Nat) : Int)) = x.testBit q := by
      rw [and_i64 (Nat.lt_of_le_of_lt (Nat.div_le_self _ _) hx) (by decide), ← bit_is]
      generalize x / 2 ^ q &&& 1 = q
      by_cases e : q = 1
      · subst e; rfl
      · rw [show (q == 1) = false from by simpa using e]
        simp only [beq_eq_false_iff_ne, ne_eq]
        omega
    refine KW.cndB rfl rfl (fun h2 => ?_) (fun h2 => ?_)
    · have h2 : x.testBit q = true := eb.symm.trans h2
      refine KW.lit rfl rfl rfl rfl rfl rfl rfl rfl rfl rfl [.int .i64 q] rfl rfl (fun v hv => by simp at hv; subst hv; rfl) rfl ?_
      refine KW.appT (len := (hold x q).length) (ys := [.int .i64 q]) (m := 1) 0 rfl rfl rfl rfl rfl rfl rfl rfl rfl rfl (fun H g => acells_T (g.blk (j := 1) rfl).1 rfl rfl) (by simp) (fun v hv => by simp at hv; subst hv; rfl) (by decide) (by show ((hold x q).length + 1) * 8 ≤ _; omega) (by omega) ?_
      have e := hold_next x q
      rw [if_pos h2] at e
      refine KW.nxt rfl rfl (fun H g' => ⟨(q + 1, _), by simp only; omega, by simp only; omega, ⟨rfl, rfl, by simp only [e, List.length_append, List.length_singleton]; rfl, congrArg (Value.int .i64) (inc64 (by omega)), trivial⟩, (g'.take 1).eqT ?_⟩)
      simp only [e, List.map_append]
      rfl
    · have h2 : x.testBit q = false := eb.symm.trans h2
      have e := hold_next x q
      rw [if_neg (by rw [h2]; decide)] at e
      exact KW.nxt rfl rfl (fun H g' => ⟨(q + 1, o), by simp only; omega, by simp only; omega, ⟨rfl, rfl, by simp only [e]; rfl, congrArg (Value.int .i64) (inc64 (by omega)), trivial⟩, g'.eqT (by simp only [e])⟩)
  · obtain rfl : q = m := by omega
    refine KW.retM rfl rfl rfl rfl (fun id hid => ⟨hid, rfl⟩) (fun H1 g => ?_)
    have hb := g.blk (j := 0) rfl
    exact ⟨_, _, rfl, int_ml ⟨by omega, hb.2⟩ hb.1 rfl rfl (Nat.le_refl _)⟩
theorem markRanks {W : Ids} {m u : Int} {a c} {xs : List Int} {k : Int} (hl : xs.length ≤ 4194304) (hk : 0 ≤ k ∧ k ≤ 1099511627776) (hW : ∀ id, W id → S id) (hs : KI.Ml W H0 (.slice a xs.length c) xs) :
    SpecW Try.prog S H0 W 34 [ranksV m u (.slice a xs.length c), .int .i64 k] (fun n v H1 => v = .int .i64 (k + xs.length) ∧ KI.Ml W H1 (.slice a xs.length c) (cnt k xs.length)) := by
  refine SpecW.of0 Try.func34 rfl (by kernel_rfl) rfl (fun H hfin hfz => ?_)
  have hWl : ∀ id, W id → Low H.n id := fun id hid => (hfz id (hW id hid)).1
  refine KW.callW hWl rfl rfl rfl rfl rfl (markInt64S hl hk hWl (hs.same (fun id hid => (hfz id (hW id hid)).2))) (fun v H1 S' hn st hw hv => ?_)
  obtain ⟨rfl, hv⟩ := hv
  refine KW.retW rfl rfl rfl rfl (fun H2 g => by have := g.n_; omega) (fun id hid hno => ⟨(st id hid).1, (st id hid).2 hno⟩) (fun H2 g => ⟨rfl, hv.same (fun id hid => (g.froz id (st id (hWl id hid)).1).2)⟩)
theorem markFamily {W : Ids} {m : Int} {a c} {xs : List (List Int)} {k : Int} (hl : xs.length ≤ 4194304) (hx : sum (lens xs) ≤ 4194304) (hk : 0 ≤ k ∧ k ≤ 549755813888) (hW : ∀ id, W id → S id) (hs : KI.ml.Ml W H0 (.slice a xs.length c) xs) :
    SpecW Try.prog S H0 W 20 [familyV m (.slice a xs.length c), .int .i64 k] (fun n v H1 => v = .int .i64 (k + sum (lens xs)) ∧ KI.ml.Ml W H1 (.slice a xs.length c) (cnts k (lens xs))) := by
  refine SpecW.of0 Try.func20 rfl (by kernel_rfl) rfl (fun H hfin hfz => ?_)
  have hWl : ∀ id, W id → Low H.n id := fun id hid => (hfz id (hW id hid)).1
  refine KW.callW hWl rfl rfl rfl rfl rfl (markInt64SS hl hx hk hWl (hs.same (fun id hid => (hfz id (hW id hid)).2))) (fun v H1 S' hn st hw hv => ?_)
  obtain ⟨rfl, hv⟩ := hv
  refine KW.retW rfl rfl rfl rfl (fun H2 g => by have := g.n_; omega) (fun id hid hno => ⟨(st id hid).1, (st id hid).2 hno⟩) (fun H2 g => ⟨rfl, hv.same (fun id hid => (g.froz id (st id (hWl id hid)).1).2)⟩)
end
end Go.Proofs.Ytijmkfnmdhpakaa.Am
/- Contracts: rows held, products, shares, values and tags, of the program and of the reference. Each holds under its own conditions. -/
set_option linter.unusedVariables false
set_option maxRecDepth 20000
namespace Go.Proofs.Ytijmkfnmdhpakaa.Am
open Go Go.RowKit Go.Proofs
/-- The places below n of which q tells true. -/
def rowsP (q : Nat → Bool) (n : Nat) : List Int := ((List.range n).filter q).map fun (i : Nat) => (i : Int)
theorem rowsP_next (q : Nat → Bool) (n : Nat) : rowsP q (n + 1) = if q n = true then rowsP q n ++ [(n : Int)] else rowsP q n := by
  unfold rowsP
  rw [List.range_succ, List.filter_append, List.map_append]
  by_cases hc : q n = true
  · simp [hc]
  · have hc : q n = false := by simpa using hc
    simp [hc]
theorem rowsP_len (q : Nat → Bool) (n : Nat) : (rowsP q n).length ≤ n := by
  unfold rowsP
  rw [List.length_map]
  exact Nat.le_trans (List.length_filter_le _ _) (by simp)
theorem rowsP_mem {q : Nat → Bool} {n : Nat} {x : Int} (hx : x ∈ rowsP q n) : 0 ≤ x ∧ x < n := by
  unfold rowsP at hx
  obtain ⟨i, hi, rfl⟩ := List.mem_map.1 hx
  have := List.mem_range.1 (List.mem_filter.1 hi).1
  omega
theorem rowsP_congr {q q' : Nat → Bool} {n : Nat} (h : ∀ i, i < n → q i = q' i) : rowsP q n = rowsP q' n := by
  unfold rowsP
  congr 1
  exact List.filter_congr fun i hi => h i (List.mem_range.1 hi)
abbrev rowsOf (ow : List Int) (h : Int) : List Int := rowsP (fun i => decide (ow.getD i 0 = h)) ow.length
/-- Sums of products. -/
def dotN (a b : List Int) : Nat → Int
  | 0 => 0
  | n + 1 => dotN a b n + a.getD n 0 * b.getD n 0
def dotS (p : Int) (a b : List Int) : Int := dotN a b a.length % p
theorem elem_at {p : Int} {a : List Int} (h : Elems p a) (hp : 2 ≤ p) (i : Nat) : 0 ≤ a.getD i 0 ∧ a.getD i 0 ≤ p - 1 := by
  rcases Nat.lt_or_ge i a.length with hi | hi
  · rw [List.getD_eq_getElem?_getD, List.getElem?_eq_getElem hi]
    exact h _ (List.getElem_mem hi)
  · rw [List.getD_eq_getElem?_getD, List.getElem?_eq_none hi]
    show 0 ≤ (0 : Int) ∧ (0 : Int) ≤ p - 1
    omega
theorem mul_small {p x y : Int} (hp : p ≤ 31) (hx : 0 ≤ x ∧ x ≤ p - 1) (hy : 0 ≤ y ∧ y ≤ p - 1) : 0 ≤ x * y ∧ x * y ≤ 900 := by
  refine ⟨Int.mul_nonneg hx.1 hy.1, ?_⟩
  have h1 : x * y ≤ 30 * 30 := Int.mul_le_mul (by omega) (by omega) hy.1 (by omega)
  omega
theorem dotN_in {p : Int} {a b : List Int} (hp : PrimeP p) (ha : Elems p a) (hb : Elems p b) : ∀ n, 0 ≤ dotN a b n ∧ dotN a b n ≤ 900 * n
  | 0 => by simp [dotN]
  | n + 1 => by
    have h1 := dotN_in hp ha hb n
    have h2 := mul_small hp.2.1 (elem_at ha hp.1 n) (elem_at hb hp.1 n)
    simp only [dotN]
    omega
def shares (p : Int) (rows : List (List Int)) (all : List Int) : List Int := rows.map fun r => dotS p r all
theorem map_take_succ {α β : Type} (f : α → β) {xs : List α} {i : Nat} {x : α} (h : xs[i]? = some x) : (xs.take (i + 1)).map f = (xs.take i).map f ++ [f x] := by
  obtain ⟨hi, rfl⟩ := List.getElem?_eq_some_iff.1 h
  rw [List.take_succ_eq_append_getElem hi, List.map_append]; rfl
section
variable {S : Ids} {H0 : AH}
theorem dot (p : Int) (hp : PrimeP p) {a1 c1 a2 c2} {a b : List Int} (hl : a.length = b.length) (h12 : a.length ≤ 1048576) (ea : Elems p a) (eb : Elems p b) (ha : KI.Sl S H0 (.slice a1 a.length c1) a) (hb : KI.Sl S H0 (.slice a2 b.length c2) b) :
    Spec Try.prog S H0 124 [.int .i64 p, .slice a1 a.length c1, .slice a2 b.length c2] (fun v => v = .int .i64 (dotS p a b)) := by
  refine Spec.of1 Try.func124 rfl (by kernel_rfl) rfl (fun H _ => ?_)
  refine KW.lp rfl rfl (fun i : Nat => [(0, .int .i64 p), (2, .slice a2 b.length c2), (7, .int .i64 (dotN a b i)), (10, .slice a1 a.length c1), (11, .int .i64 a.length), (12, .int .i64 i)]) (fun i => i ≤ a.length) (fun i => a.length - i) (0) (by omega) ⟨rfl, rfl, rfl, rfl, rfl, rfl, trivial⟩ (fun i hi bE n => ?_)
  refine KW.cnd rfl rfl (fun h => ?_) (fun h => ?_)
  · refine KW.getI ha.up rfl rfl rfl rfl rfl rfl rfl rfl rfl rfl rfl rfl rfl rfl rfl rfl (by omega) (h) (fun x hx => ?_)
    refine KW.getI hb.up rfl rfl rfl rfl rfl rfl rfl rfl rfl rfl rfl rfl rfl rfl rfl rfl (by omega) (by omega) (fun y hy => ?_)
    have hx : a.getD i 0 = x := getD_of hx
    have hy : b.getD i 0 = y := getD_of hy
    have h1 := dotN_in hp ea eb i
    have h2 := mul_small hp.2.1 (elem_at ea hp.1 i) (elem_at eb hp.1 i)
    have e : dotN a b (i + 1) = dotN a b i + a.getD i 0 * b.getD i 0 := rfl
    rw [hx, hy] at h2 e
    have e2 : Value.int .i64 (IntKind.i64.wrap (dotN a b i + IntKind.i64.wrap (x * y))) = .int .i64 (dotN a b (i + 1)) := by
      rw [wr (x := x * y) (by omega) (by omega), wr (by omega) (by omega), e]
    refine KW.nxt rfl rfl (fun H' g => ⟨i + 1, by omega, by first | omega | (simp only; omega), ⟨rfl, rfl, e2, rfl, rfl, congrArg (Value.int .i64) (inc64 (by omega)), trivial⟩, g⟩)
  · obtain rfl : i = a.length := by omega
    have h1 := dotN_in hp ea eb a.length
    refine KW.rem rfl rfl rfl rfl rfl rfl (h1.1) (by have := hp.1; omega) ?_
    exact KW.ret rfl rfl rfl rfl (rfl)
theorem l03Dot (p : Int) (hp : PrimeP p) {a1 c1 a2 c2} {a b : List Int} (hl : a.length = b.length) (h12 : a.length ≤ 1048576) (ea : Elems p a) (eb : Elems p b) (ha : KI.Sl S H0 (.slice a1 a.length c1) a) (hb : KI.Sl S H0 (.slice a2 b.length c2) b) :
    Spec Try.prog S H0 263 [.int .i64 p, .slice a1 a.length c1, .slice a2 b.length c2] (fun v => v = .int .i64 (dotS p a b)) := by
  refine Spec.of1 Try.func263 rfl (by kernel_rfl) rfl (fun H _ => ?_)
  refine KW.lp rfl rfl (fun i : Nat => [(0, .int .i64 p), (1, .slice a1 a.length c1), (2, .slice a2 b.length c2), (7, .int .i64 (dotN a b i)), (8, .int .i64 i)]) (fun i => i ≤ a.length) (fun i => a.length - i) (0) (by omega) ⟨rfl, rfl, rfl, rfl, rfl, trivial⟩ (fun i hi bE n => ?_)
  refine KW.cnd rfl rfl (fun h => ?_) (fun h => ?_)
  · refine KW.getI ha.up rfl rfl rfl rfl rfl rfl rfl rfl rfl rfl rfl rfl rfl rfl rfl rfl (by omega) (h) (fun x hx => ?_)
    refine KW.getI hb.up rfl rfl rfl rfl rfl rfl rfl rfl rfl rfl rfl rfl rfl rfl rfl rfl (by omega) (by omega) (fun y hy => ?_)
    have hx : a.getD i 0 = x := getD_of hx
    have hy : b.getD i 0 = y := getD_of hy
    have h1 := dotN_in hp ea eb i
    have h2 := mul_small hp.2.1 (elem_at ea hp.1 i) (elem_at eb hp.1 i)
    have e : dotN a b (i + 1) = dotN a b i + a.getD i 0 * b.getD i 0 := rfl
    rw [hx, hy] at h2 e
    have e2 : Value.int .i64 (IntKind.i64.wrap (dotN a b i + IntKind.i64.wrap (x * y))) = .int .i64 (dotN a b (i + 1)) := by
      rw [wr (x := x * y) (by omega) (by omega), wr (by omega) (by omega), e]
    refine KW.nxt rfl rfl (fun H' g => ⟨i + 1, by omega, by first | omega | (simp only; omega), ⟨rfl, rfl, rfl, e2, congrArg (Value.int .i64) (inc64 (by omega)), trivial⟩, g⟩)
  · obtain rfl : i = a.length := by omega
    have h1 := dotN_in hp ea eb a.length
    refine KW.rem rfl rfl rfl rfl rfl rfl (h1.1) (by have := hp.1; omega) ?_
    exact KW.ret rfl rfl rfl rfl (rfl)
/-- What a maker of a list of numbers yields. -/
def MkL (xs : List Int) (n : Nat) (v : Value) (H1 : AH) : Prop := ∃ a c, v = .slice a xs.length c ∧ KI.Ml (New n H1.n) H1 (.slice a xs.length c) xs
theorem MkL.of {S0 : Ids} {H0 H1 : AH} {T : List Var} {n j id n0 : Nat} {ty : TypeId} {xs : List Int} (g : Good S0 H0 T n H1) (hj : T[j]? = some (id, ⟨ty, true, xs.map (Value.int .i64)⟩)) (hn : n0 ≤ id) : MkL xs n0 (.slice (some ⟨id, 0, some 1⟩) xs.length xs.length) H1 :=
  ⟨_, _, rfl, int_ml ⟨hn, (g.blk hj).2⟩ (g.blk hj).1 rfl rfl (Nat.le_refl _)⟩
theorem rowsHeld (h p c : Int) (x : Nat) (hx : x < 4611686018427387904) {a1 c1} {v2 : Option Addr} {n2 c2 : Nat} {ow : List Int} (hO : B_Int64S ow) (hown : ∀ x ∈ ow, 0 ≤ x ∧ x ≤ h - 1) (hh : h ≤ 7) (ho : KI.Sl S H0 (.slice a1 ow.length c1) ow) :
    SpecM Try.prog S H0 121 [.agg #[.int .i64 h, .slice a1 ow.length c1, .int .i64 p, .int .i64 c, .slice v2 n2 c2], .int .u64 (x : Int)] (MkL (rowsP (fun i => x.testBit (ow.getD i 0).toNat) ow.length)) := by
  refine SpecM.of1 Try.func121 rfl (by kernel_rfl) rfl (fun H _ => ?_)
  have hO' : ow.length ≤ 1048576 := hO
  refine KW.lit rfl rfl rfl rfl rfl rfl rfl rfl rfl rfl [] rfl rfl (fun v hv => by simp at hv) rfl ?_
  refine KW.lpM rfl rfl (fun s : Nat × Nat => [(1, .int .u64 (x : Int)), (5, .slice (some ⟨s.2, 0, some 1⟩) (rowsP (fun i => x.testBit (ow.getD i 0).toNat) s.1).length (rowsP (fun i => x.testBit (ow.getD i 0).toNat) s.1).length), (10, .slice a1 ow.length c1), (11, .int .i64 ow.length), (12, .int .i64 s.1)]) (fun s => Low H.n) (fun s => H) (fun s => [(H.n, ⟨_, true, _⟩), (s.2, ⟨_, true, (rowsP (fun i => x.testBit (ow.getD i 0).toNat) s.1).map (Value.int .i64)⟩)]) (fun s => s.1 ≤ ow.length) (fun s => ow.length - s.1) ((0, H.n + 1)) (by simp) ⟨rfl, rfl, rfl, rfl, rfl, trivial⟩ rfl rfl (rfl) (fun s hi bE n => ?_)
  obtain ⟨q, o⟩ := s
  simp only at hi
  have hq : (rowsP (fun i => x.testBit (ow.getD i 0).toNat) q).length ≤ q := rowsP_len _ q
  refine KW.cnd rfl rfl (fun k1 => ?_) (fun k1 => ?_)
  · refine KW.getI ho.up rfl rfl rfl rfl rfl rfl rfl rfl rfl rfl rfl rfl rfl rfl rfl rfl (by omega) (k1) (fun y hy => ?_)
    have hy' : ow[q]? = some y := hy
    have hyb := hown y (List.mem_of_getElem? hy')
    obtain ⟨z, rfl⟩ : ∃ z : Nat, y = z := ⟨y.toNat, by omega⟩
    have hyd : ow.getD q 0 = z := getD_of hy'
    have e := rowsP_next (fun i => x.testBit (ow.getD i 0).toNat) q
    simp only [hyd, Int.toNat_natCast] at e
    refine KW.callE rfl rfl rfl rfl rfl (has (x := x) (h := z) hx (by omega)) (fun _ _ => ?_)
    refine KW.cndB rfl rfl (fun k2 => ?_) (fun k2 => ?_)
    · rw [if_pos k2] at e
      refine KW.app1 (xs := (rowsP (fun i => x.testBit (ow.getD i 0).toNat) q).map (Value.int .i64)) (v := .int .i64 q) 1 2 rfl rfl rfl rfl rfl rfl rfl rfl rfl rfl rfl rfl rfl rfl rfl rfl rfl rfl rfl rfl rfl rfl rfl (by simp) (by show (_ + 1) * 8 ≤ _; first | omega | (simp only; omega)) (by first | omega | (simp only; omega)) ?_
      refine KW.nxt rfl rfl (fun H' g => ⟨(q + 1, _), by simp only; omega, by first | omega | (simp only; omega), ⟨rfl, by simp only [e, List.length_append, List.length_singleton]; rfl, rfl, rfl, congrArg (Value.int .i64) (inc64 (by omega)), trivial⟩, g.eqT (by simp only [e, List.map_append]; rfl)⟩)
    · rw [if_neg (by rw [k2]; decide)] at e
      refine KW.nxt rfl rfl (fun H' g => ⟨(q + 1, o), by simp only; omega, by first | omega | (simp only; omega), ⟨rfl, by simp only [e]; rfl, rfl, rfl, congrArg (Value.int .i64) (inc64 (by omega)), trivial⟩, g.eqT (by simp only [e])⟩)
  · obtain rfl : q = ow.length := by simp only at k1; omega
    refine KW.retM1 rfl rfl rfl rfl (fun H1 g => MkL.of g (j := 1) rfl (g.ge (H1 := H) (j := 1) rfl))
theorem l00Has (n0 : Int) {a c} {xs : List Int} (hl : xs.length ≤ 1048576) (hs : KI.Sl S H0 (.slice a xs.length c) xs) : Spec Try.prog S H0 264 [.slice a xs.length c, .int .i64 n0] (fun v => v = .bool (decide (n0 ∈ xs))) := by
  refine Spec.of1 Try.func264 rfl (by kernel_rfl) rfl (fun H _ => ?_)
  refine KW.lp rfl rfl (fun i : Nat => [(0, .slice a xs.length c), (1, .int .i64 n0), (5, .int .i64 i)]) (fun i => i ≤ xs.length ∧ ∀ j, j < i → ∀ x, xs[j]? = some x → x ≠ n0) (fun i => xs.length - i) (0) (⟨by omega, fun j h => absurd h (by omega)⟩) ⟨rfl, rfl, rfl, trivial⟩ (fun i hi bE n => ?_)
  obtain ⟨hi, hj⟩ := hi
  refine KW.cnd rfl rfl (fun k1 => ?_) (fun k1 => ?_)
  · refine KW.getI hs.up rfl rfl rfl rfl rfl rfl rfl rfl rfl rfl rfl rfl rfl rfl rfl rfl (by omega) (k1) (fun y hy => ?_)
    have hy : xs[i]? = some y := hy
    refine KW.cndB rfl rfl (fun k2 => ?_) (fun k2 => ?_)
    · have k2 : y = n0 := by simpa using k2
      exact KW.ret rfl rfl rfl rfl (by rw [← k2, decide_eq_true (List.mem_of_getElem? hy)]; rfl)
    · have k2 : y ≠ n0 := by simpa using k2
      refine KW.nxt rfl rfl (fun H' g => ⟨i + 1, ⟨by omega, upto hj (fun z hz => by rw [hy] at hz; cases hz; exact k2)⟩, by first | omega | (simp only; omega), ⟨rfl, rfl, congrArg (Value.int .i64) (inc64 (by omega)), trivial⟩, g⟩)
  · exact KW.ret rfl rfl rfl rfl (by rw [decide_eq_false (fun hm => all_of (fun j hjl => hj j (by omega)) n0 hm rfl)]; rfl)
theorem l04Held (h p c : Int) {id k : Nat} {a1 c1 a c2} {ow g0 : List Int} {v2 : Value} (hO : B_Int64S ow) (hG : g0.length ≤ 1048576) (hv : Has3 S H0 id k [.int .i64 h, .slice a1 ow.length c1, .int .i64 p, .int .i64 c, v2]) (ho : KI.Sl S H0 (.slice a1 ow.length c1) ow) (hg : KI.Sl S H0 (.slice a g0.length c2) g0) :
    SpecM Try.prog S H0 246 [.pointer (some ⟨id, k, none⟩), .slice a g0.length c2] (MkL (rowsP (fun i => decide (ow.getD i 0 ∈ g0)) ow.length)) := by
  refine SpecM.of1 Try.func246 rfl (by kernel_rfl) rfl (fun H _ => ?_)
  have hO' : ow.length ≤ 1048576 := hO
  have hv := hv.up (S' := Low H.n) (H' := H)
  refine KW.lit rfl rfl rfl rfl rfl rfl rfl rfl rfl rfl [] rfl rfl (fun v hv => by simp at hv) rfl ?_
  refine KW.lpM rfl rfl (fun s : Nat × Nat => [(0, .pointer (some ⟨id, k, none⟩)), (1, .slice a g0.length c2), (5, .slice (some ⟨s.2, 0, some 1⟩) (rowsP (fun i => decide (ow.getD i 0 ∈ g0)) s.1).length (rowsP (fun i => decide (ow.getD i 0 ∈ g0)) s.1).length), (6, .int .i64 s.1)]) (fun s => Low H.n) (fun s => H) (fun s => [(s.2, ⟨_, true, (rowsP (fun i => decide (ow.getD i 0 ∈ g0)) s.1).map (Value.int .i64)⟩)]) (fun s => s.1 ≤ ow.length) (fun s => ow.length - s.1) ((0, H.n)) (by simp) ⟨rfl, rfl, rfl, rfl, trivial⟩ rfl rfl (rfl) (fun s hi bE n => ?_)
  obtain ⟨q, o⟩ := s
  simp only at hi
  have hq : (rowsP (fun i => decide (ow.getD i 0 ∈ g0)) q).length ≤ q := rowsP_len _ q
  refine KW.ldF 1 hv rfl rfl rfl rfl rfl rfl rfl rfl rfl ?_
  refine KW.cnd rfl rfl (fun k1 => ?_) (fun k1 => ?_)
  · refine KW.ldF 1 hv rfl rfl rfl rfl rfl rfl rfl rfl rfl ?_
    refine KW.getI ho.up rfl rfl rfl rfl rfl rfl rfl rfl rfl rfl rfl rfl rfl rfl rfl rfl (by omega) (k1) (fun y hy => ?_)
    have hy' : ow[q]? = some y := hy
    have hyd : ow.getD q 0 = y := getD_of hy'
    have e := rowsP_next (fun i => decide (ow.getD i 0 ∈ g0)) q
    simp only [hyd] at e
    refine KW.callE rfl rfl rfl rfl rfl (l00Has y hG hg.up) (fun _ _ => ?_)
    refine KW.cndB rfl rfl (fun k2 => ?_) (fun k2 => ?_)
    · rw [if_pos k2] at e
      refine KW.app1 (xs := (rowsP (fun i => decide (ow.getD i 0 ∈ g0)) q).map (Value.int .i64)) (v := .int .i64 q) 0 1 rfl rfl rfl rfl rfl rfl rfl rfl rfl rfl rfl rfl rfl rfl rfl rfl rfl rfl rfl rfl rfl rfl rfl (by simp) (by show (_ + 1) * 8 ≤ _; first | omega | (simp only; omega)) (by first | omega | (simp only; omega)) ?_
      refine KW.nxt rfl rfl (fun H' g => ⟨(q + 1, _), by simp only; omega, by first | omega | (simp only; omega), ⟨rfl, rfl, by simp only [e, List.length_append, List.length_singleton]; rfl, congrArg (Value.int .i64) (inc64 (by omega)), trivial⟩, g.eqT (by simp only [e, List.map_append]; rfl)⟩)
    · rw [if_neg (by rw [k2]; decide)] at e
      refine KW.nxt rfl rfl (fun H' g => ⟨(q + 1, o), by simp only; omega, by first | omega | (simp only; omega), ⟨rfl, rfl, by simp only [e]; rfl, congrArg (Value.int .i64) (inc64 (by omega)), trivial⟩, g.eqT (by simp only [e])⟩)
  · obtain rfl : q = ow.length := by simp only at k1; omega
    refine KW.retM1 rfl rfl rfl rfl (fun H1 g => MkL.of g (j := 0) rfl (g.ge (H1 := H) (j := 0) rfl))
end
end Go.Proofs.Ytijmkfnmdhpakaa.Am
/- Contracts: shares, values, tags; copies and equality of rows. Each holds under its own conditions. -/
set_option linter.unusedVariables false
set_option maxRecDepth 20000
namespace Go.Proofs.Ytijmkfnmdhpakaa.Am
open Go Go.RowKit Go.Proofs
theorem elems_cons {p s : Int} {bl : List Int} (hs : 0 ≤ s ∧ s ≤ p - 1) (hb : Elems p bl) : Elems p (s :: bl) := fun x hx => by
  rcases List.mem_cons.1 hx with rfl | h
  · exact hs
  · exact hb x h
section
variable {S : Ids} {H0 : AH}
theorem sharesOf (h p c s : Int) {a1 c1 a2 c2 a3 c3} {ow bl : List Int} {rows : List (List Int)} (hO : B_Int64S ow) (hB : B_Int64SS rows) (hk : OkSch h ow p c rows) (hs : 0 ≤ s ∧ s ≤ p - 1) (hbl : (bl.length : Int) = c - 1) (hbe : Elems p bl)
    (h1 : KI.Sl S H0 (.slice a1 ow.length c1) ow) (h2 : KI.sl.Sl S H0 (.slice a2 rows.length c2) rows) (h3 : KI.Sl S H0 (.slice a3 bl.length c3) bl) :
    SpecM Try.prog S H0 52 [.agg #[.int .i64 h, .slice a1 ow.length c1, .int .i64 p, .int .i64 c, .slice a2 rows.length c2], .int .i64 s, .slice a3 bl.length c3] (fun n v H1 => ∃ v', v = .tuple #[v', .int .i64 0] ∧ MkL (shares p rows (s :: bl)) n v' H1) := by
  refine SpecM.of1 Try.func52 rfl (by kernel_rfl) rfl (fun H _ => ?_)
  have hp : I64 p := by unfold I64; have := hk.mat.pr.1; have := hk.mat.pr.2.1; omega
  have hc12 := hk.mat.c1
  have hc1 := hk.c1
  have hrl := hk.mat.len
  have ec : IntKind.i64.wrap (c - 1) = c - 1 := wr (by omega) (by omega)
  refine KW.callE rfl rfl rfl rfl rfl (validScheme h p c hp hO hB h1.up h2.up) (fun _ _ => ?_)
  rw [tv_true hk]
  refine KW.cF rfl rfl (by first | (simp; done) | decide) ?_
  refine KW.lit rfl rfl rfl rfl rfl rfl rfl rfl rfl rfl [.int .i64 s] rfl rfl (fun v hv => by simp at hv; subst hv; rfl) rfl ?_
  refine KW.callV1 rfl rfl rfl rfl rfl (fun H1 g _ => areElements p hp (xs := [s]) (by simp) (g.ints (j := 1) rfl rfl (by simp))) (fun _ _ => ?_)
  rw [tv_true (p := PrimeP p ∧ Elems p [s]) ⟨hk.mat.pr, fun x hx => by rw [List.mem_singleton.1 hx]; exact hs⟩]
  refine KW.tF rfl rfl (by first | (simp; done) | decide) ?_
  refine KW.callE rfl rfl rfl rfl rfl (areElements p hp (by omega) h3.up) (fun _ _ => ?_)
  rw [tv_true (p := PrimeP p ∧ Elems p bl) ⟨hk.mat.pr, hbe⟩]
  refine KW.tF rfl rfl (by first | (simp; done) | decide) ?_
  refine KW.cndB rfl rfl (fun k1 => ?_) (fun k1 => ?_)
  · rw [ec, hbl] at k1; simp at k1
  refine KW.lit rfl rfl rfl rfl rfl rfl rfl rfl rfl rfl [.int .i64 s] rfl rfl (fun v hv => by simp at hv; subst hv; rfl) rfl ?_
  refine KW.appV 2 rfl rfl rfl rfl rfl rfl rfl rfl rfl rfl (fun H1 g => acells_I h3.up g) (by simp) (by simp) (fun v hv => by obtain ⟨_, _, rfl⟩ := List.mem_map.1 hv; rfl) (by show (_ + _) * 8 ≤ _; simp only [List.length_cons, List.length_nil]; omega) (by simp only [List.length_cons, List.length_nil]; omega) (show 1 + bl.length = (s :: bl).length from by simp; omega) (fun oa _ _ => ?_)
  refine KW.lit rfl rfl rfl rfl rfl rfl rfl rfl rfl rfl [] rfl rfl (fun v hv => by simp at hv) rfl ?_
  refine KW.fact (p := ¬ oa < H.n) (fun _ g => (g.vars 2 _ rfl).2.2) (fun hoa => ?_)
  refine KW.lpM rfl rfl (fun q : Nat × Nat => [(3, .pointer (some ⟨H.n, 0, some 0⟩)), (8, .slice (some ⟨oa, 0, some 1⟩) (s :: bl).length (s :: bl).length), (9, .slice (some ⟨q.2, 0, some 1⟩) (shares p (rows.take q.1) (s :: bl)).length (shares p (rows.take q.1) (s :: bl)).length), (46, .slice a2 rows.length c2), (47, .int .i64 rows.length), (48, .int .i64 q.1)]) (fun q => Low H.n) (fun q => H) (fun q => [_, _, (oa, ⟨_, true, (s :: bl).map (Value.int .i64)⟩), (q.2, ⟨_, true, (shares p (rows.take q.1) (s :: bl)).map (Value.int .i64)⟩)]) (fun q => q.1 ≤ rows.length) (fun q => rows.length - q.1) ((0, _)) (by simp) ⟨rfl, rfl, rfl, rfl, rfl, rfl, trivial⟩ rfl rfl (rfl) (fun q hi bE n => ?_)
  obtain ⟨q, o⟩ := q
  simp only at hi
  have hq : (shares p (rows.take q) (s :: bl)).length ≤ q := by unfold shares; rw [List.length_map, List.length_take]; omega
  refine KW.cnd rfl rfl (fun k2 => ?_) (fun k2 => ?_)
  · refine KW.getL h2.up rfl rfl rfl rfl rfl rfl rfl rfl rfl rfl rfl rfl rfl rfl rfl rfl (by omega) (k2) (fun y a' m' hy hsy => ?_)
    have hy : rows[q]? = some y := hy
    have hym := hk.mat.row y (List.mem_of_getElem? hy)
    refine KW.callV1 rfl rfl rfl rfl rfl (fun H1 g _ => dot p hk.mat.pr (by simp; omega) (by omega) hym.2 (elems_cons hs hbe) hsy.up (g.ints (j := 2) rfl rfl (Nat.le_refl _))) (fun _ _ => ?_)
    have e : shares p (rows.take (q + 1)) (s :: bl) = shares p (rows.take q) (s :: bl) ++ [dotS p y (s :: bl)] := map_take_succ _ hy
    refine KW.app1 (xs := (shares p (rows.take q) (s :: bl)).map (Value.int .i64)) (v := .int .i64 (dotS p y (s :: bl))) 3 4 rfl rfl rfl rfl rfl rfl rfl rfl rfl rfl rfl rfl rfl rfl rfl rfl rfl rfl rfl rfl rfl rfl rfl (by simp) (by show (_ + 1) * 8 ≤ _; first | omega | (simp only; omega)) (by first | omega | (simp only; omega)) ?_
    refine KW.nxt rfl rfl (fun H' g => ⟨(q + 1, _), by simp only; omega, by first | omega | (simp only; omega), ⟨rfl, rfl, by simp only [e, List.length_append, List.length_singleton]; rfl, rfl, rfl, congrArg (Value.int .i64) (inc64 (by omega)), trivial⟩, g.eqT (by simp only [e, List.map_append]; rfl)⟩)
  · obtain rfl : q = rows.length := by simp only at k2; omega
    rw [List.take_of_length_le (Nat.le_refl _)]
    refine KW.retM1 rfl rfl rfl rfl (fun H1 g => ⟨_, rfl, MkL.of g (j := 3) rfl (g.ge (H1 := H) (j := 3) rfl)⟩)
theorem l04Shares (h p c s : Int) {id k : Nat} {a1 c1 a2 c2 a3 c3} {ow bl : List Int} {rows : List (List Int)} (hB : B_Int64SS rows) (hk : OkSch h ow p c rows) (hs : 0 ≤ s ∧ s ≤ p - 1) (hbl : (bl.length : Int) = c - 1) (hbe : Elems p bl)
    (hv : Has3 S H0 id k [.int .i64 h, .slice a1 ow.length c1, .int .i64 p, .int .i64 c, .slice a2 rows.length c2]) (h2 : KI.sl.Sl S H0 (.slice a2 rows.length c2) rows) (h3 : KI.Sl S H0 (.slice a3 bl.length c3) bl) :
    SpecM Try.prog S H0 245 [.pointer (some ⟨id, k, none⟩), .int .i64 s, .slice a3 bl.length c3] (MkL (shares p rows (s :: bl))) := by
  refine SpecM.of1 Try.func245 rfl (by kernel_rfl) rfl (fun H _ => ?_)
  have hv := hv.up (S' := Low H.n) (H' := H)
  have hc12 := hk.mat.c1
  have hc1 := hk.c1
  have hrl := hk.mat.len
  refine KW.lit rfl rfl rfl rfl rfl rfl rfl rfl rfl rfl [.int .i64 s] rfl rfl (fun v hv => by simp at hv; subst hv; rfl) rfl ?_
  refine KW.appV 0 rfl rfl rfl rfl rfl rfl rfl rfl rfl rfl (fun H1 g => acells_I h3.up g) (by simp) (by simp) (fun v hv => by obtain ⟨_, _, rfl⟩ := List.mem_map.1 hv; rfl) (by show (_ + _) * 8 ≤ _; simp only [List.length_cons, List.length_nil]; omega) (by simp only [List.length_cons, List.length_nil]; omega) (show 1 + bl.length = (s :: bl).length from by simp; omega) (fun oa _ _ => ?_)
  refine KW.lit rfl rfl rfl rfl rfl rfl rfl rfl rfl rfl [] rfl rfl (fun v hv => by simp at hv) rfl ?_
  refine KW.lpM rfl rfl (fun q : Nat × Nat => [(0, .pointer (some ⟨id, k, none⟩)), (7, .slice (some ⟨oa, 0, some 1⟩) (s :: bl).length (s :: bl).length), (8, .slice (some ⟨q.2, 0, some 1⟩) (shares p (rows.take q.1) (s :: bl)).length (shares p (rows.take q.1) (s :: bl)).length), (9, .int .i64 q.1)]) (fun q => Low H.n) (fun q => H) (fun q => [(oa, ⟨_, true, (s :: bl).map (Value.int .i64)⟩), (q.2, ⟨_, true, (shares p (rows.take q.1) (s :: bl)).map (Value.int .i64)⟩)]) (fun q => q.1 ≤ rows.length) (fun q => rows.length - q.1) ((0, _)) (by simp) ⟨rfl, rfl, rfl, rfl, trivial⟩ rfl rfl (rfl) (fun q hi bE n => ?_)
  obtain ⟨q, o⟩ := q
  simp only at hi
  have hq : (shares p (rows.take q) (s :: bl)).length ≤ q := by unfold shares; rw [List.length_map, List.length_take]; omega
  refine KW.ldF 4 hv rfl rfl rfl rfl rfl rfl rfl rfl rfl ?_
  refine KW.cnd rfl rfl (fun k2 => ?_) (fun k2 => ?_)
  · refine KW.ldF 2 hv rfl rfl rfl rfl rfl rfl rfl rfl rfl ?_
    refine KW.ldF 4 hv rfl rfl rfl rfl rfl rfl rfl rfl rfl ?_
    refine KW.getL h2.up rfl rfl rfl rfl rfl rfl rfl rfl rfl rfl rfl rfl rfl rfl rfl rfl (by omega) (k2) (fun y a' m' hy hsy => ?_)
    have hy : rows[q]? = some y := hy
    have hym := hk.mat.row y (List.mem_of_getElem? hy)
    refine KW.callV1 rfl rfl rfl rfl rfl (fun H1 g _ => l03Dot p hk.mat.pr (by simp; omega) (by omega) hym.2 (elems_cons hs hbe) hsy.up (g.ints (j := 0) rfl rfl (Nat.le_refl _))) (fun _ _ => ?_)
    have e : shares p (rows.take (q + 1)) (s :: bl) = shares p (rows.take q) (s :: bl) ++ [dotS p y (s :: bl)] := map_take_succ _ hy
    refine KW.app1 (xs := (shares p (rows.take q) (s :: bl)).map (Value.int .i64)) (v := .int .i64 (dotS p y (s :: bl))) 1 2 rfl rfl rfl rfl rfl rfl rfl rfl rfl rfl rfl rfl rfl rfl rfl rfl rfl rfl rfl rfl rfl rfl rfl (by simp) (by show (_ + 1) * 8 ≤ _; first | omega | (simp only; omega)) (by first | omega | (simp only; omega)) ?_
    refine KW.nxt rfl rfl (fun H' g => ⟨(q + 1, _), by simp only; omega, by first | omega | (simp only; omega), ⟨rfl, rfl, by simp only [e, List.length_append, List.length_singleton]; rfl, congrArg (Value.int .i64) (inc64 (by omega)), trivial⟩, g.eqT (by simp only [e, List.map_append]; rfl)⟩)
  · obtain rfl : q = rows.length := by simp only at k2; omega
    rw [List.take_of_length_le (Nat.le_refl _)]
    refine KW.retM1 rfl rfl rfl rfl (fun H1 g => MkL.of g (j := 1) rfl (g.ge (H1 := H) (j := 1) rfl))
end
/-- The shares of the rows of a holder. -/
def valsOf (p : Int) (rows : List (List Int)) (ow : List Int) (s : Int) (bl : List Int) (j : Int) : List Int := (rowsOf ow j).map fun i => (shares p rows (s :: bl)).getD i.toNat 0
theorem rows_bit {ow : List Int} (h : ∀ x ∈ ow, 0 ≤ x) (j : Nat) : rowsP (fun i => (2 ^ j : Nat).testBit (ow.getD i 0).toNat) ow.length = rowsOf ow j := rowsP_congr fun i hi => by
  have h1 : 0 ≤ ow.getD i 0 := by rw [List.getD_eq_getElem?_getD, List.getElem?_eq_getElem hi]; exact h _ (List.getElem_mem hi)
  rw [Nat.testBit_two_pow]
  exact decide_eq_decide.2 ⟨fun h => by omega, fun h => by omega⟩
theorem rows_one (ow : List Int) (j : Int) : rowsP (fun i => decide (ow.getD i 0 ∈ [j])) ow.length = rowsOf ow j := rowsP_congr fun i hi => by simp
theorem dotS_in {p : Int} {a b : List Int} (hp : PrimeP p) : 0 ≤ dotS p a b ∧ dotS p a b ≤ p - 1 := by
  unfold dotS
  have h1 := hp.1
  have := Int.emod_nonneg (dotN a b a.length) (show p ≠ 0 by omega)
  have := Int.emod_lt_of_pos (dotN a b a.length) (show 0 < p by omega)
  omega
theorem shares_in {p : Int} {rows : List (List Int)} {all : List Int} (hp : PrimeP p) : Elems p (shares p rows all) := fun x hx => by
  obtain ⟨r, _, rfl⟩ := List.mem_map.1 hx
  exact dotS_in hp
theorem vals_in {p s j : Int} {rows : List (List Int)} {ow bl : List Int} (hp : PrimeP p) : Elems p (valsOf p rows ow s bl j) := fun x hx => by
  obtain ⟨i, _, rfl⟩ := List.mem_map.1 hx
  exact elem_at (shares_in hp) hp.1 _
theorem vals_len {p s j : Int} {rows : List (List Int)} {ow bl : List Int} : (valsOf p rows ow s bl j).length = (rowsOf ow j).length := by simp [valsOf]
/-- The tags of values for the rows R, by the keys kk. -/
def tagAt (p : Int) (kk : List (List Int)) (R vals : List Int) (k : Nat) : Int := ((kk.getD (R.getD k 0).toNat []).getD 0 0 * vals.getD k 0 + (kk.getD (R.getD k 0).toNat []).getD 1 0) % p
def tagsOf (p : Int) (kk : List (List Int)) (R vals : List Int) : List Int := (List.range R.length).map (tagAt p kk R vals)
theorem range_map_succ {α : Type} (f : Nat → α) (n : Nat) : (List.range (n + 1)).map f = (List.range n).map f ++ [f n] := by rw [List.range_succ, List.map_append]; rfl
section
variable {S : Ids} {H0 : AH}
theorem values (h p c s : Int) (e j : Nat) {a1 c1 a2 c2 a3 c3} {a4 : Option Addr} {n4 c4 : Nat} {ow bl : List Int} {rows bs : List (List Int)} (hO : B_Int64S ow) (hB : B_Int64SS rows) (hk : OkSch h ow p c rows) (hs : 0 ≤ s ∧ s ≤ p - 1) (he : bs[e]? = some bl) (hbl : (bl.length : Int) = c - 1) (hbe : Elems p bl) (hj : j ≤ 6)
    (h1 : KI.Sl S H0 (.slice a1 ow.length c1) ow) (h2 : KI.sl.Sl S H0 (.slice a2 rows.length c2) rows) (h3 : KI.sl.Sl S H0 (.slice a3 bs.length c3) bs) :
    SpecM Try.prog S H0 117 [.agg #[.int .i64 h, .slice a1 ow.length c1, .int .i64 p, .int .i64 c, .slice a2 rows.length c2, .int .i64 s, .slice a3 bs.length c3, .slice a4 n4 c4], .int .i64 e, .int .i64 j] (MkL (valsOf p rows ow s bl j)) := by
  refine SpecM.of1 Try.func117 rfl (by kernel_rfl) rfl (fun H _ => ?_)
  have hrl := hk.mat.len
  have hol := hk.len
  have hel := (List.getElem?_eq_some_iff.1 he).1
  refine KW.getL h3.up rfl rfl rfl rfl rfl rfl rfl rfl rfl rfl rfl rfl rfl rfl rfl rfl (by omega) (by omega) (fun y a' m' hy hsy => ?_)
  have hy : bs[e]? = some y := hy
  rw [he] at hy
  cases hy
  refine KW.callN1 rfl rfl rfl rfl rfl (sharesOf h p c s hO hB hk hs hbl hbe h1.up h2.up hsy) (fun v HA SA mA _ _ hv => ?_)
  obtain ⟨v', rfl, a5, c5, rfl, hA⟩ := hv
  refine KW.lit rfl rfl rfl rfl rfl rfl rfl rfl rfl rfl [] rfl rfl (fun v hv => by simp at hv) rfl ?_
  refine KW.shlU rfl rfl rfl rfl rfl rfl j rfl (by omega) ?_
  have hp := small_pow (m := j) (by omega)
  refine KW.callN1 rfl rfl rfl rfl rfl (rowsHeld h p c (2 ^ j) (by omega) hO hk.own hk.h7 h1.up) (fun v HR SR mR _ _ hv => ?_)
  obtain ⟨a6, c6, rfl, hR⟩ := hv
  rw [rows_bit (fun x hx => (hk.own x hx).1)] at hR ⊢
  have hRl : (rowsOf ow j).length ≤ ow.length := rowsP_len _ _
  have hRm : ∀ x ∈ rowsOf ow j, 0 ≤ x ∧ x < ow.length := fun x hx => rowsP_mem hx
  have hval : valsOf p rows ow s bl j = (rowsOf ow j).map fun i => (shares p rows (s :: bl)).getD i.toNat 0 := rfl
  rw [hval]
  have hsl : (shares p rows (s :: bl)).length = rows.length := by simp [shares]
  obtain ⟨R, hRe⟩ : ∃ R, rowsOf ow j = R := ⟨_, rfl⟩
  rw [hRe] at hR hRl hRm ⊢
  obtain ⟨A, hAe⟩ : ∃ A, shares p rows (s :: bl) = A := ⟨_, rfl⟩
  rw [hAe] at hA hsl ⊢
  refine KW.lpM rfl rfl (fun q : Nat × Nat => [(7, .slice a5 A.length c5), (9, .slice (some ⟨q.2, 0, some 1⟩) ((R.take q.1).map fun i => A.getD i.toNat 0).length ((R.take q.1).map fun i => A.getD i.toNat 0).length), (30, .slice a6 R.length c6), (31, .int .i64 R.length), (32, .int .i64 q.1)]) (fun q => SR) (fun q => HR) (fun q => [_, (q.2, ⟨_, true, ((R.take q.1).map fun i => A.getD i.toNat 0).map (Value.int .i64)⟩)]) (fun q => q.1 ≤ R.length) (fun q => R.length - q.1) ((0, _)) (by simp) ⟨rfl, rfl, rfl, rfl, rfl, trivial⟩ rfl rfl (rfl) (fun q hi bE n => ?_)
  obtain ⟨q, o⟩ := q
  simp only at hi
  have hq : ((R.take q).map fun i => A.getD i.toNat 0).length ≤ q := by rw [List.length_map, List.length_take]; omega
  refine KW.cnd rfl rfl (fun k2 => ?_) (fun k2 => ?_)
  · refine KW.getI hR.ups rfl rfl rfl rfl rfl rfl rfl rfl rfl rfl rfl rfl rfl rfl rfl rfl (by omega) (k2) (fun x hx => ?_)
    have hx : R[q]? = some x := hx
    have hxm := hRm x (List.mem_of_getElem? hx)
    refine KW.getI hA.ups rfl rfl rfl rfl rfl rfl rfl rfl rfl rfl rfl rfl rfl rfl rfl rfl (by omega) (by omega) (fun y hy => ?_)
    have hy : A.getD x.toNat 0 = y := getD_of hy
    have e1 := map_take_succ (fun i : Int => A.getD i.toNat 0) hx
    rw [hy] at e1
    refine KW.app1 (xs := ((R.take q).map fun i => A.getD i.toNat 0).map (Value.int .i64)) (v := .int .i64 y) 1 2 rfl rfl rfl rfl rfl rfl rfl rfl rfl rfl rfl rfl rfl rfl rfl rfl rfl rfl rfl rfl rfl rfl rfl (by simp) (by show (_ + 1) * 8 ≤ _; first | omega | (simp only; omega)) (by first | omega | (simp only; omega)) ?_
    refine KW.nxt rfl rfl (fun H' g => ⟨(q + 1, _), by simp only; omega, by first | omega | (simp only; omega), ⟨rfl, by simp only [e1, List.length_append, List.length_singleton]; rfl, rfl, rfl, congrArg (Value.int .i64) (inc64 (by omega)), trivial⟩, g.eqT (by simp only [e1, List.map_append]; rfl)⟩)
  · obtain rfl : q = R.length := by simp only at k2; omega
    rw [List.take_of_length_le (Nat.le_refl _)]
    refine KW.retM1 rfl rfl rfl rfl (fun H1 g => MkL.of g (j := 1) rfl (g.ge (H1 := H) (j := 1) rfl))
theorem l08Values (h p c s : Int) (e j : Nat) {id k : Nat} {a1 c1 a2 c2 a3 c3} {v4 : Value} {ow bl : List Int} {rows bs : List (List Int)} (hO : B_Int64S ow) (hB : B_Int64SS rows) (hk : OkSch h ow p c rows) (hs : 0 ≤ s ∧ s ≤ p - 1) (he : bs[e]? = some bl) (hbl : (bl.length : Int) = c - 1) (hbe : Elems p bl)
    (hv : Has3 S H0 id k [.int .i64 h, .slice a1 ow.length c1, .int .i64 p, .int .i64 c, .slice a2 rows.length c2, .int .i64 s, .slice a3 bs.length c3, v4])
    (h1 : KI.Sl S H0 (.slice a1 ow.length c1) ow) (h2 : KI.sl.Sl S H0 (.slice a2 rows.length c2) rows) (h3 : KI.sl.Sl S H0 (.slice a3 bs.length c3) bs) :
    SpecM Try.prog S H0 210 [.pointer (some ⟨id, k, none⟩), .int .i64 e, .int .i64 j] (MkL (valsOf p rows ow s bl j)) := by
  refine SpecM.of1 Try.func210 rfl (by kernel_rfl) rfl (fun H _ => ?_)
  have hv := hv.up (S' := Low H.n) (H' := H)
  have hrl := hk.mat.len
  have hol := hk.len
  have hel := (List.getElem?_eq_some_iff.1 he).1
  refine KW.ldF 5 hv rfl rfl rfl rfl rfl rfl rfl rfl rfl ?_
  refine KW.ldF 6 hv rfl rfl rfl rfl rfl rfl rfl rfl rfl ?_
  refine KW.getL h3.up rfl rfl rfl rfl rfl rfl rfl rfl rfl rfl rfl rfl rfl rfl rfl rfl (by omega) (by omega) (fun y a' m' hy hsy => ?_)
  have hy : bs[e]? = some y := hy
  rw [he] at hy
  cases hy
  refine KW.callN1 rfl rfl rfl rfl rfl (l04Shares h p c s hB hk hs hbl hbe (hv.take (vs := [_, _, _, _, _])) h2.up hsy) (fun v HA SA mA _ _ hv => ?_)
  obtain ⟨a5, c5, rfl, hA⟩ := hv
  refine KW.lit rfl rfl rfl rfl rfl rfl rfl rfl rfl rfl [.int .i64 j] rfl rfl (fun v hv => by simp at hv; subst hv; rfl) rfl ?_
  refine KW.callNV1 rfl rfl rfl rfl rfl (fun H1 g _ => l04Held h p c (g0 := [(j : Int)]) hO (by simp) ((hv.take (vs := [_, _, _, _, _])).up) h1.up (g.ints (j := 0) rfl rfl (by simp))) (fun v HR SR mR _ _ hv => ?_)
  obtain ⟨a6, c6, rfl, hR⟩ := hv
  rw [rows_one] at hR ⊢
  refine KW.lit rfl rfl rfl rfl rfl rfl rfl rfl rfl rfl [] rfl rfl (fun v hv => by simp at hv) rfl ?_
  have hRl : (rowsOf ow j).length ≤ ow.length := rowsP_len _ _
  have hRm : ∀ x ∈ rowsOf ow j, 0 ≤ x ∧ x < ow.length := fun x hx => rowsP_mem hx
  have hval : valsOf p rows ow s bl j = (rowsOf ow j).map fun i => (shares p rows (s :: bl)).getD i.toNat 0 := rfl
  rw [hval]
  have hsl : (shares p rows (s :: bl)).length = rows.length := by simp [shares]
  obtain ⟨R, hRe⟩ : ∃ R, rowsOf ow j = R := ⟨_, rfl⟩
  rw [hRe] at hR hRl hRm ⊢
  obtain ⟨A, hAe⟩ : ∃ A, shares p rows (s :: bl) = A := ⟨_, rfl⟩
  rw [hAe] at hA hsl ⊢
  refine KW.lpM rfl rfl (fun q : Nat × Nat => [(7, .slice a5 A.length c5), (8, .slice a6 R.length c6), (9, .slice (some ⟨q.2, 0, some 1⟩) ((R.take q.1).map fun i => A.getD i.toNat 0).length ((R.take q.1).map fun i => A.getD i.toNat 0).length), (10, .int .i64 q.1)]) (fun q => SR) (fun q => HR) (fun q => [_, (q.2, ⟨_, true, ((R.take q.1).map fun i => A.getD i.toNat 0).map (Value.int .i64)⟩)]) (fun q => q.1 ≤ R.length) (fun q => R.length - q.1) ((0, _)) (by simp) ⟨rfl, rfl, rfl, rfl, trivial⟩ rfl rfl (rfl) (fun q hi bE n => ?_)
  obtain ⟨q, o⟩ := q
  simp only at hi
  have hq : ((R.take q).map fun i => A.getD i.toNat 0).length ≤ q := by rw [List.length_map, List.length_take]; omega
  refine KW.cnd rfl rfl (fun k2 => ?_) (fun k2 => ?_)
  · refine KW.getI hR.ups rfl rfl rfl rfl rfl rfl rfl rfl rfl rfl rfl rfl rfl rfl rfl rfl (by omega) (k2) (fun x hx => ?_)
    have hx : R[q]? = some x := hx
    have hxm := hRm x (List.mem_of_getElem? hx)
    refine KW.getI hA.ups rfl rfl rfl rfl rfl rfl rfl rfl rfl rfl rfl rfl rfl rfl rfl rfl (by omega) (by omega) (fun y hy => ?_)
    have hy : A.getD x.toNat 0 = y := getD_of hy
    have e1 := map_take_succ (fun i : Int => A.getD i.toNat 0) hx
    rw [hy] at e1
    refine KW.app1 (xs := ((R.take q).map fun i => A.getD i.toNat 0).map (Value.int .i64)) (v := .int .i64 y) 1 2 rfl rfl rfl rfl rfl rfl rfl rfl rfl rfl rfl rfl rfl rfl rfl rfl rfl rfl rfl rfl rfl rfl rfl (by simp) (by show (_ + 1) * 8 ≤ _; first | omega | (simp only; omega)) (by first | omega | (simp only; omega)) ?_
    refine KW.nxt rfl rfl (fun H' g => ⟨(q + 1, _), by simp only; omega, by first | omega | (simp only; omega), ⟨rfl, rfl, by simp only [e1, List.length_append, List.length_singleton]; rfl, congrArg (Value.int .i64) (inc64 (by omega)), trivial⟩, g.eqT (by simp only [e1, List.map_append]; rfl)⟩)
  · obtain rfl : q = R.length := by simp only at k2; omega
    rw [List.take_of_length_le (Nat.le_refl _)]
    refine KW.retM1 rfl rfl rfl rfl (fun H1 g => MkL.of g (j := 1) rfl (g.ge (H1 := H) (j := 1) rfl))
theorem tag_val {p k0 k1 v : Int} (hp : PrimeP p) (h0 : 0 ≤ k0 ∧ k0 ≤ p - 1) (h1 : 0 ≤ k1 ∧ k1 ≤ p - 1) (hv : 0 ≤ v ∧ v ≤ p - 1) : IntKind.i64.wrap (IntKind.i64.wrap (k0 * v) + k1) = k0 * v + k1 ∧ 0 ≤ k0 * v + k1 := by
  have h2 := mul_small hp.2.1 h0 hv
  have h3 := hp.2.1
  rw [wr (x := k0 * v) (by omega) (by omega), wr (by omega) (by omega)]
  exact ⟨rfl, by omega⟩
theorem tags (h p c s : Int) (e j : Nat) {a1 c1 a2 c2 a4 c4 a5 c5} {a3 : Option Addr} {n3 c3 : Nat} {ow vals : List Int} {rows kk : List (List Int)} {ks : List (List (List Int))} (hO : B_Int64S ow) (hBk : B_Int64SSS ks) (hk : OkSch h ow p c rows) (he : ks[e]? = some kk) (hkk : KeysOk p rows.length kk) (hj : j ≤ 6) (hvl : vals.length = (rowsOf ow j).length) (hve : Elems p vals)
    (h1 : KI.Sl S H0 (.slice a1 ow.length c1) ow) (h4 : KI.sl.sl.Sl S H0 (.slice a4 ks.length c4) ks) (h5 : KI.Sl S H0 (.slice a5 vals.length c5) vals) :
    SpecM Try.prog S H0 118 [.agg #[.int .i64 h, .slice a1 ow.length c1, .int .i64 p, .int .i64 c, .slice a2 rows.length c2, .int .i64 s, .slice a3 n3 c3, .slice a4 ks.length c4], .int .i64 e, .int .i64 j, .slice a5 vals.length c5] (MkL (tagsOf p kk (rowsOf ow j) vals)) := by
  refine SpecM.of1 Try.func118 rfl (by kernel_rfl) rfl (fun H _ => ?_)
  have hrl := hk.mat.len
  have hol := hk.len
  have hel := (List.getElem?_eq_some_iff.1 he).1
  have hpr := hk.mat.pr
  refine KW.lit rfl rfl rfl rfl rfl rfl rfl rfl rfl rfl [] rfl rfl (fun v hv => by simp at hv) rfl ?_
  refine KW.shlU rfl rfl rfl rfl rfl rfl j rfl (by omega) ?_
  have hp := small_pow (m := j) (by omega)
  refine KW.callN1 rfl rfl rfl rfl rfl (rowsHeld h p c (2 ^ j) (by omega) hO hk.own hk.h7 h1.up) (fun v HR SR mR _ _ hv => ?_)
  obtain ⟨a6, c6, rfl, hR⟩ := hv
  rw [rows_bit (fun x hx => (hk.own x hx).1)] at hR ⊢
  have hRl : (rowsOf ow j).length ≤ ow.length := rowsP_len _ _
  have hRm : ∀ x ∈ rowsOf ow j, 0 ≤ x ∧ x < ow.length := fun x hx => rowsP_mem hx
  obtain ⟨R, hRe⟩ : ∃ R, rowsOf ow j = R := ⟨_, rfl⟩
  rw [hRe] at hR hRl hRm hvl ⊢
  refine KW.lpM rfl rfl (fun q : Nat × Nat => [(1, .int .i64 e), (3, .slice a5 vals.length c5), (4, .pointer (some ⟨H.n, 0, some 0⟩)), (9, .slice (some ⟨q.2, 0, some 1⟩) ((List.range q.1).map (tagAt p kk R vals)).length ((List.range q.1).map (tagAt p kk R vals)).length), (18, .slice a6 R.length c6), (19, .int .i64 R.length), (20, .int .i64 q.1)]) (fun q => SR) (fun q => HR) (fun q => [(H.n, ⟨71, true, [.int .i64 h, .slice a1 ow.length c1, .int .i64 p, .int .i64 c, .slice a2 rows.length c2, .int .i64 s, .slice a3 n3 c3, .slice a4 ks.length c4]⟩), (q.2, ⟨_, true, ((List.range q.1).map (tagAt p kk R vals)).map (Value.int .i64)⟩)]) (fun q => q.1 ≤ R.length) (fun q => R.length - q.1) ((0, _)) (by simp) ⟨rfl, rfl, rfl, rfl, rfl, rfl, rfl, trivial⟩ rfl rfl (rfl) (fun q hi bE n => ?_)
  obtain ⟨q, o⟩ := q
  simp only at hi
  have hq : ((List.range q).map (tagAt p kk R vals)).length ≤ q := by simp
  refine KW.cnd rfl rfl (fun k2 => ?_) (fun k2 => ?_)
  · refine KW.getI hR.ups rfl rfl rfl rfl rfl rfl rfl rfl rfl rfl rfl rfl rfl rfl rfl rfl (by omega) (k2) (fun x hx => ?_)
    have hx : R[q]? = some x := hx
    have hxm := hRm x (List.mem_of_getElem? hx)
    refine KW.getL h4.up rfl rfl rfl rfl rfl rfl rfl rfl rfl rfl rfl rfl rfl rfl rfl rfl (by omega) (by omega) (fun kk' b1 d1 hk1 hs1 => ?_)
    have hk1 : ks[e]? = some kk' := hk1
    rw [he] at hk1
    cases hk1
    have hkl := hkk.1
    refine KW.getL hs1 rfl rfl rfl rfl rfl rfl rfl rfl rfl rfl rfl rfl rfl rfl rfl rfl (by omega) (by omega) (fun ky b2 d2 hk2 hs2 => ?_)
    have hk2 : kk[x.toNat]? = some ky := hk2
    have hky := hkk.2 ky (List.mem_of_getElem? hk2)
    have hkyl := hky.1
    refine KW.getI hs2 rfl rfl rfl rfl rfl rfl rfl rfl rfl rfl rfl rfl rfl rfl rfl rfl (by omega) (by omega) (fun k0 hk0 => ?_)
    refine KW.getI h5.up rfl rfl rfl rfl rfl rfl rfl rfl rfl rfl rfl rfl rfl rfl rfl rfl (by omega) (by omega) (fun v hv => ?_)
    refine KW.getI hs2 rfl rfl rfl rfl rfl rfl rfl rfl rfl rfl rfl rfl rfl rfl rfl rfl (by omega) (by omega) (fun k1 hk1' => ?_)
    have ek0 : ky.getD 0 0 = k0 := getD_of hk0
    have ek1 : ky.getD 1 0 = k1 := getD_of hk1'
    have ev : vals.getD q 0 = v := getD_of hv
    have eR : R.getD q 0 = x := getD_of hx
    have ekk : kk.getD x.toNat [] = ky := by rw [List.getD_eq_getElem?_getD, hk2]; rfl
    have et : tagAt p kk R vals q = (k0 * v + k1) % p := by unfold tagAt; rw [eR, ekk, ek0, ek1, ev]
    obtain ⟨ew, e0⟩ := tag_val hpr (ek0 ▸ elem_at hky.2 hpr.1 0) (ek1 ▸ elem_at hky.2 hpr.1 1) (ev ▸ elem_at hve hpr.1 q)
    refine KW.rem rfl rfl rfl rfl rfl rfl (by rw [ew]; exact e0) (by have := hpr.1; omega) ?_
    rw [ew, ← et]
    have e1 := range_map_succ (tagAt p kk R vals) q
    refine KW.app1 (xs := ((List.range q).map (tagAt p kk R vals)).map (Value.int .i64)) (v := .int .i64 (tagAt p kk R vals q)) 1 2 rfl rfl rfl rfl rfl rfl rfl rfl rfl rfl rfl rfl rfl rfl rfl rfl rfl rfl rfl rfl rfl rfl rfl (by simp) (by show (_ + 1) * 8 ≤ _; first | omega | (simp only; omega)) (by first | omega | (simp only; omega)) ?_
    refine KW.nxt rfl rfl (fun H' g => ⟨(q + 1, _), by simp only; omega, by first | omega | (simp only; omega), ⟨rfl, rfl, rfl, by simp only [e1, List.length_append, List.length_singleton]; rfl, rfl, rfl, congrArg (Value.int .i64) (inc64 (by omega)), trivial⟩, g.eqT (by simp only [e1, List.map_append]; rfl)⟩)
  · obtain rfl : q = R.length := by simp only at k2; omega
    refine KW.retM1 rfl rfl rfl rfl (fun H1 g => MkL.of g (j := 1) rfl (g.ge (H1 := H) (j := 1) rfl))
theorem l08Tags (h p c s : Int) (e j : Nat) {id k : Nat} {a1 c1 a4 c4 a5 c5} {v2 v3 : Value} {ow vals : List Int} {rows kk : List (List Int)} {ks : List (List (List Int))} (hO : B_Int64S ow) (hBk : B_Int64SSS ks) (hk : OkSch h ow p c rows) (he : ks[e]? = some kk) (hkk : KeysOk p rows.length kk) (hvl : vals.length = (rowsOf ow j).length) (hve : Elems p vals)
    (hv : Has3 S H0 id k [.int .i64 h, .slice a1 ow.length c1, .int .i64 p, .int .i64 c, v2, .int .i64 s, v3, .slice a4 ks.length c4])
    (h1 : KI.Sl S H0 (.slice a1 ow.length c1) ow) (h4 : KI.sl.sl.Sl S H0 (.slice a4 ks.length c4) ks) (h5 : KI.Sl S H0 (.slice a5 vals.length c5) vals) :
    SpecM Try.prog S H0 212 [.pointer (some ⟨id, k, none⟩), .int .i64 e, .int .i64 j, .slice a5 vals.length c5] (MkL (tagsOf p kk (rowsOf ow j) vals)) := by
  refine SpecM.of1 Try.func212 rfl (by kernel_rfl) rfl (fun H _ => ?_)
  have hv := hv.up (S' := Low H.n) (H' := H)
  have hrl := hk.mat.len
  have hol := hk.len
  have hel := (List.getElem?_eq_some_iff.1 he).1
  have hpr := hk.mat.pr
  refine KW.lit rfl rfl rfl rfl rfl rfl rfl rfl rfl rfl [.int .i64 j] rfl rfl (fun v hv => by simp at hv; subst hv; rfl) rfl ?_
  refine KW.callNV1 rfl rfl rfl rfl rfl (fun H1 g _ => l04Held h p c (g0 := [(j : Int)]) hO (by simp) ((hv.take (vs := [_, _, _, _, _])).up) h1.up (g.ints (j := 0) rfl rfl (by simp))) (fun v HR SR mR _ _ hv => ?_)
  obtain ⟨a6, c6, rfl, hR⟩ := hv
  rw [rows_one] at hR ⊢
  refine KW.lit rfl rfl rfl rfl rfl rfl rfl rfl rfl rfl [] rfl rfl (fun v hv => by simp at hv) rfl ?_
  have hRl : (rowsOf ow j).length ≤ ow.length := rowsP_len _ _
  have hRm : ∀ x ∈ rowsOf ow j, 0 ≤ x ∧ x < ow.length := fun x hx => rowsP_mem hx
  obtain ⟨R, hRe⟩ : ∃ R, rowsOf ow j = R := ⟨_, rfl⟩
  rw [hRe] at hR hRl hRm hvl ⊢
  have hv := hv.up (S' := SR) (H' := HR)
  refine KW.lpM rfl rfl (fun q : Nat × Nat => [(0, .pointer (some ⟨id, k, none⟩)), (1, .int .i64 e), (3, .slice a5 vals.length c5), (9, .slice a6 R.length c6), (10, .slice (some ⟨q.2, 0, some 1⟩) ((List.range q.1).map (tagAt p kk R vals)).length ((List.range q.1).map (tagAt p kk R vals)).length), (11, .int .i64 q.1)]) (fun q => SR) (fun q => HR) (fun q => [_, (q.2, ⟨_, true, ((List.range q.1).map (tagAt p kk R vals)).map (Value.int .i64)⟩)]) (fun q => q.1 ≤ R.length) (fun q => R.length - q.1) ((0, _)) (by simp) ⟨rfl, rfl, rfl, rfl, rfl, rfl, trivial⟩ rfl rfl (rfl) (fun q hi bE n => ?_)
  obtain ⟨q, o⟩ := q
  simp only at hi
  have hq : ((List.range q).map (tagAt p kk R vals)).length ≤ q := by simp
  refine KW.cnd rfl rfl (fun k2 => ?_) (fun k2 => ?_)
  · refine KW.ldF 7 hv rfl rfl rfl rfl rfl rfl rfl rfl rfl ?_
    refine KW.getL h4.up rfl rfl rfl rfl rfl rfl rfl rfl rfl rfl rfl rfl rfl rfl rfl rfl (by omega) (by omega) (fun kk' b1 d1 hk1 hs1 => ?_)
    have hk1 : ks[e]? = some kk' := hk1
    rw [he] at hk1
    cases hk1
    have hkl := hkk.1
    refine KW.getI hR.ups rfl rfl rfl rfl rfl rfl rfl rfl rfl rfl rfl rfl rfl rfl rfl rfl (by omega) (k2) (fun x hx => ?_)
    have hx : R[q]? = some x := hx
    have hxm := hRm x (List.mem_of_getElem? hx)
    refine KW.getL hs1 rfl rfl rfl rfl rfl rfl rfl rfl rfl rfl rfl rfl rfl rfl rfl rfl (by omega) (by omega) (fun ky b2 d2 hk2 hs2 => ?_)
    have hk2 : kk[x.toNat]? = some ky := hk2
    have hky := hkk.2 ky (List.mem_of_getElem? hk2)
    have hkyl := hky.1
    refine KW.getI hs2 rfl rfl rfl rfl rfl rfl rfl rfl rfl rfl rfl rfl rfl rfl rfl rfl (by omega) (by omega) (fun k0 hk0 => ?_)
    refine KW.getI h5.up rfl rfl rfl rfl rfl rfl rfl rfl rfl rfl rfl rfl rfl rfl rfl rfl (by omega) (by omega) (fun v hv' => ?_)
    refine KW.getI hs2 rfl rfl rfl rfl rfl rfl rfl rfl rfl rfl rfl rfl rfl rfl rfl rfl (by omega) (by omega) (fun k1 hk1' => ?_)
    refine KW.ldF 2 hv rfl rfl rfl rfl rfl rfl rfl rfl rfl ?_
    have ek0 : ky.getD 0 0 = k0 := getD_of hk0
    have ek1 : ky.getD 1 0 = k1 := getD_of hk1'
    have ev : vals.getD q 0 = v := getD_of hv'
    have eR : R.getD q 0 = x := getD_of hx
    have ekk : kk.getD x.toNat [] = ky := by rw [List.getD_eq_getElem?_getD, hk2]; rfl
    have et : tagAt p kk R vals q = (k0 * v + k1) % p := by unfold tagAt; rw [eR, ekk, ek0, ek1, ev]
    obtain ⟨ew, e0⟩ := tag_val hpr (ek0 ▸ elem_at hky.2 hpr.1 0) (ek1 ▸ elem_at hky.2 hpr.1 1) (ev ▸ elem_at hve hpr.1 q)
    refine KW.rem rfl rfl rfl rfl rfl rfl (by rw [ew]; exact e0) (by have := hpr.1; omega) ?_
    rw [ew, ← et]
    have e1 := range_map_succ (tagAt p kk R vals) q
    refine KW.app1 (xs := ((List.range q).map (tagAt p kk R vals)).map (Value.int .i64)) (v := .int .i64 (tagAt p kk R vals q)) 1 2 rfl rfl rfl rfl rfl rfl rfl rfl rfl rfl rfl rfl rfl rfl rfl rfl rfl rfl rfl rfl rfl rfl rfl (by simp) (by show (_ + 1) * 8 ≤ _; first | omega | (simp only; omega)) (by first | omega | (simp only; omega)) ?_
    refine KW.nxt rfl rfl (fun H' g => ⟨(q + 1, _), by simp only; omega, by first | omega | (simp only; omega), ⟨rfl, rfl, rfl, rfl, by simp only [e1, List.length_append, List.length_singleton]; rfl, congrArg (Value.int .i64) (inc64 (by omega)), trivial⟩, g.eqT (by simp only [e1, List.map_append]; rfl)⟩)
  · obtain rfl : q = R.length := by simp only at k2; omega
    refine KW.retM1 rfl rfl rfl rfl (fun H1 g => MkL.of g (j := 1) rfl (g.ge (H1 := H) (j := 1) rfl))
end
end Go.Proofs.Ytijmkfnmdhpakaa.Am
