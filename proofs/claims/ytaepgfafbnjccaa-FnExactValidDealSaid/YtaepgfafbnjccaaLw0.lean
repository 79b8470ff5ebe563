/- What the laws' own functions do, type by type: rows of numbers; how structs stand in memory. Each holds under its own conditions. -/
import Derived.Test.YtaepgfafbnjccaaSp12
import Derived.Test.YtaepgfafbnjccaaPm2
import Derived.Test.YtaepgfafbnjccaaAm28
set_option linter.unusedVariables false
set_option maxRecDepth 20000
namespace Go.Proofs.Ytaepgfafbnjccaa.Am
open Go Go.RowKit Go.Proofs
def None_ : Ids := fun _ => False
section
variable {α β : Type} {d : Kn α} {S S' X Y Z : Ids} {H H' : AH} {v : Value} {xs : List α} {x : α} {y : β} {cs ds : List Value}
theorem sl1 (h : d.sl.R S H xs [v]) : d.Sl S H v xs := by
  obtain ⟨s, h1, h2⟩ := h
  obtain rfl : v = s := by simpa using h1
  exact h2
theorem sl1' (h : d.Sl S H v xs) : d.sl.R S H xs [v] := ⟨v, rfl, h⟩
theorem ml1 (h : d.ml.R S H xs [v]) : d.Ml S H v xs := by
  obtain ⟨s, h1, h2⟩ := h
  obtain rfl : v = s := by simpa using h1
  exact h2
theorem ml1' (h : d.Ml S H v xs) : d.ml.R S H xs [v] := ⟨v, rfl, h⟩
theorem mlform (h : d.ml.R S H xs cs) : ∃ a c, cs = [.slice a xs.length c] := by
  obtain ⟨s, rfl, h2⟩ := h
  obtain ⟨a, c, rfl⟩ := h2.form
  exact ⟨a, c, rfl⟩
theorem slform (h : d.sl.R S H xs cs) : ∃ a c, cs = [.slice a xs.length c] := by
  obtain ⟨s, rfl, h2⟩ := h
  obtain ⟨a, c, rfl⟩ := h2.form
  exact ⟨a, c, rfl⟩
theorem prR {a : Kn α} {b : Kn β} (h : a.R S H x cs) (k : b.R S H y ds) : (Kn.pair a b).R S H (x, y) (cs ++ ds) := ⟨cs, ds, rfl, h, k⟩
theorem mpR {a : Kn α} {b : Kn β} (h : a.R X H x cs) (k : b.R Y H y ds) (hX : ∀ id, X id → Z id) (hY : ∀ id, Y id → Z id) (hd : ∀ id, X id → Y id → False) : (Kn.mp a b).R Z H (x, y) (cs ++ ds) := ⟨cs, ds, X, Y, rfl, hX, hY, hd, h, k⟩
theorem Good.keep {S0 : Ids} {H0 H2 : AH} {T : List Var} {n : Nat} (g : Good S0 H0 T n H2) [o : On X H S0 H0] (h : d.R X H x cs) : d.R X H2 x cs :=
  d.same (fun id hid => ((g.froz id (o.st id hid).1).2).trans (o.st id hid).2) h
theorem Good.inn {S0 : Ids} {H0 H2 : AH} {T : List Var} {n lo : Nat} (g : Good S0 H0 T n H2) [o : On X H S0 H0] (hX : ∀ id, X id → lo ≤ id) : ∀ id, X id → New lo H2.n id := fun id hid => ⟨hX id hid, by have := (g.froz id (o.st id hid).1).1; have := g.n_; omega⟩
end
/-- A fact on memory with what it rests on. -/
structure Fk {α : Type} (d : Kn α) (X S : Ids) (H : AH) (x : α) (cs : List Value) : Prop where
  r : d.R X H x cs
  i : ∀ id, X id → S id
section
variable {α : Type} {d : Kn α} {X X' S S' W : Ids} {H H1 : AH} {x : α} {cs : List Value}
theorem Fk.up [o : On S H S' H1] (h : Fk d X S H x cs) : Fk d X S' H1 x cs := ⟨d.same (fun id hid => (o.st id (h.i id hid)).2) h.r, fun id hid => (o.st id (h.i id hid)).1⟩
theorem Fk.all [o : On S H S' H1] (h : Fk d X S H x cs) : d.R S' H1 x cs := d.more (fun id hid => (o.st id (h.i id hid)).1) (d.same (fun id hid => (o.st id (h.i id hid)).2) h.r)
theorem Fk.w (h : Fk d X S H x cs) (t : StW W S H S' H1) (hd : ∀ id, X id → W id → False) : Fk d X S' H1 x cs := ⟨d.same (fun id hid => (t id (h.i id hid)).2 (hd id hid)) h.r, fun id hid => (t id (h.i id hid)).1⟩
theorem Fk.mk' (h : d.R X H x cs) (k : d.R X H x cs → d.R X' H x cs) (hi : ∀ id, X' id → S id) : Fk d X' S H x cs := ⟨k h, hi⟩
theorem Fk.on [o : On X H S H1] (h : d.R X H x cs) : Fk d X S H1 x cs := ⟨d.same (fun id hid => (o.st id hid).2) h, fun id hid => (o.st id hid).1⟩
theorem Fk.st (h : Fk d X S H x cs) : d.R S H x cs := d.more h.i h.r
theorem Fk.le {d' : Kn α} (k : KLe d d') (h : Fk d X S H x cs) : Fk d' X S H x cs := ⟨k.2 _ _ _ _ h.r, h.i⟩
end
/-- Marks, row by row. -/
def mks {α : Type} (mk : Int → α → α) (sz : α → Nat) (k : Int) : List α → List α
  | [] => []
  | x :: l => mk k x :: mks mk sz (k + sz x) l
theorem mks_len {α : Type} (mk : Int → α → α) (sz : α → Nat) (k : Int) (l : List α) : (mks mk sz k l).length = l.length := by
  induction l generalizing k with
  | nil => rfl
  | cons n l ih => simp [mks, ih]
theorem mks_at {α : Type} {mk : Int → α → α} {sz : α → Nat} {l : List α} {i : Nat} {x : α} (k : Int) (h : l[i]? = some x) : (mks mk sz k l)[i]? = some (mk (k + sum ((l.map sz).take i)) x) := by
  induction l generalizing i k with
  | nil => simp at h
  | cons m l ih =>
    cases i with
    | zero => cases h; simp [mks, sum]
    | succ i =>
      have h : l[i]? = some x := by simpa using h
      simp only [mks, List.getElem?_cons_succ, List.map_cons, List.take_succ_cons, sum]
      rw [ih (k + sz m) h]
      congr 2
      omega
abbrev K_Int64S : Kn (List Int) := KI.sl
abbrev M_Int64S : Kn (List Int) := KI.ml
abbrev B_Int64S (x : List Int) : Prop := x.length ≤ 1048576
abbrev W_Int64S (x : List Int) : Prop := x.length ≤ 9223372036854775807
abbrev sz_Int64S (x : List Int) : Nat := x.length
abbrev mk_Int64S (k : Int) (x : List Int) : List Int := cnt k x.length
abbrev K_Int64SS : Kn (List (List Int)) := KI.sl.sl
abbrev M_Int64SS : Kn (List (List Int)) := KI.ml.ml
abbrev B_Int64SS (x : List (List Int)) : Prop := Sml x
abbrev W_Int64SS (x : List (List Int)) : Prop := x.length ≤ 9223372036854775807 ∧ ∀ y ∈ x, y.length ≤ 9223372036854775807
abbrev sz_Int64SS (x : List (List Int)) : Nat := sum (lens x)
abbrev mk_Int64SS (k : Int) (x : List (List Int)) : List (List Int) := mks mk_Int64S sz_Int64S k x
theorem cnts_mks (k : Int) (l : List (List Int)) : cnts k (lens l) = mks mk_Int64S sz_Int64S k l := by
  induction l generalizing k with
  | nil => rfl
  | cons x l ih => simp only [lens, List.map_cons, cnts, mks] at ih ⊢; rw [ih]
theorem size_Int64S {x : List Int} (hB : B_Int64S x) : sz_Int64S x ≤ 1048576 := hB
theorem size_Int64SS {x : List (List Int)} (hB : B_Int64SS x) : sz_Int64SS x ≤ 1048576 := hB.tot
theorem le_Int64S : KLe M_Int64S K_Int64S := KLe.row (KLe.refl KI)
theorem le_Int64SS : KLe M_Int64SS K_Int64SS := KLe.row le_Int64S
section
variable {S : Ids} {H0 : AH} {W : Ids} {a a' : Option Addr} {c c' : Nat} {left k : Int}
theorem to_Int64S {x : List Int} (hB : B_Int64S x) (hs : K_Int64S.R S H0 x [.slice a x.length c]) : SpecM Try.prog S H0 27 [.slice a x.length c] (fun n v H1 => ∃ a c, v = .slice a x.length c ∧ M_Int64S.R (New n H1.n) H1 x [.slice a x.length c]) := fun H h1 h2 => by
  obtain ⟨m, v, H1, h3, h4, h5, a, c, h6, h7⟩ := toInt64S hB (sl1 hs) H h1 h2
  exact ⟨m, v, H1, h3, h4, h5, a, c, h6, ml1' h7⟩
theorem to_Int64SS {x : List (List Int)} (hB : B_Int64SS x) (hs : K_Int64SS.R S H0 x [.slice a x.length c]) : SpecM Try.prog S H0 43 [.slice a x.length c] (fun n v H1 => ∃ a c, v = .slice a x.length c ∧ M_Int64SS.R (New n H1.n) H1 x [.slice a x.length c]) := fun H h1 h2 => by
  obtain ⟨m, v, H1, h3, h4, h5, a, c, h6, h7⟩ := toInt64SS hB.len hB.each (sl1 hs) H h1 h2
  exact ⟨m, v, H1, h3, h4, h5, a, c, h6, ml1' h7⟩
theorem eq_Int64S {x : List Int} (hB : B_Int64S x) (hs : K_Int64S.R S H0 x [.slice a x.length c]) (hs' : K_Int64S.R S H0 x [.slice a' x.length c']) : Spec Try.prog S H0 29 [.slice a x.length c, .slice a' x.length c'] (fun v => v = .bool true) := eqInt64S1 hB (sl1 hs) (sl1 hs')
theorem eq_Int64SS {x : List (List Int)} (hB : B_Int64SS x) (hs : K_Int64SS.R S H0 x [.slice a x.length c]) (hs' : K_Int64SS.R S H0 x [.slice a' x.length c']) : Spec Try.prog S H0 46 [.slice a x.length c, .slice a' x.length c'] (fun v => v = .bool true) := eqInt64SS1 hB.len hB.each (sl1 hs) (sl1 hs')
theorem sz_Int64S' {x : List Int} (h0 : 0 ≤ left) (h1 : left ≤ 1048576) (hW : W_Int64S x) (hs : K_Int64S.R S H0 x [.slice a x.length c]) : Spec Try.prog S H0 71 [.slice a x.length c, .int .i64 left] (SzPost left (B_Int64S x)) := szInt64S h0 h1 hW
theorem sz_Int64SS' {x : List (List Int)} (h0 : 0 ≤ left) (h1 : left ≤ 1048576) (hW : W_Int64SS x) (hs : K_Int64SS.R S H0 x [.slice a x.length c]) : Spec Try.prog S H0 41 [.slice a x.length c, .int .i64 left] (SzPost left (B_Int64SS x)) := fun H h2 h3 => by
  obtain ⟨m, v, H1, h4, h5, h6, r, h7, h8⟩ := szInt64SS h0 h1 hW.1 hW.2 (sl1 hs) H h2 h3
  exact ⟨m, v, H1, h4, h5, h6, r, h7, h8.imp id (fun h => ⟨h.1, h.2.1, ⟨h.2.2.1, h.2.2.2⟩⟩)⟩
/-- Where marks may begin. -/
abbrev Mk (k : Int) (z : Nat) : Prop := 0 ≤ k ∧ k + z ≤ 274877906944
theorem mark_Int64S {x : List Int} (hB : B_Int64S x) (hk : Mk k (sz_Int64S x)) (hW : ∀ id, W id → S id) (hs : M_Int64S.R W H0 x [.slice a x.length c]) : SpecW Try.prog S H0 W 33 [.slice a x.length c, .int .i64 k] (fun n v H1 => v = .int .i64 (k + sz_Int64S x) ∧ M_Int64S.R W H1 (mk_Int64S k x) [.slice a x.length c]) := fun H h1 h2 => by
  obtain ⟨m, v, H1, h3, h4, h5, h6, h7, h8⟩ := markInt64S (by show x.length ≤ _; have : x.length ≤ 1048576 := hB; omega) ⟨hk.1, by have := hk.2; omega⟩ hW (ml1 hs) H h1 h2
  exact ⟨m, v, H1, h3, h4, h5, h6, h7, ml1' h8⟩
theorem mark_Int64SS {x : List (List Int)} (hB : B_Int64SS x) (hk : Mk k (sz_Int64SS x)) (hW : ∀ id, W id → S id) (hs : M_Int64SS.R W H0 x [.slice a x.length c]) : SpecW Try.prog S H0 W 47 [.slice a x.length c, .int .i64 k] (fun n v H1 => v = .int .i64 (k + sz_Int64SS x) ∧ M_Int64SS.R W H1 (mk_Int64SS k x) [.slice a x.length c]) := fun H h1 h2 => by
  obtain ⟨m, v, H1, h3, h4, h5, h6, h7, h8⟩ := markInt64SS (by have := hB.len; omega) (by have := hB.tot; omega) ⟨hk.1, by have := hk.2; omega⟩ hW (ml1 hs) H h1 h2
  exact ⟨m, v, H1, h3, h4, h5, h6, h7, ml1' (by rw [cnts_mks] at h8; exact h8)⟩
end
end Go.Proofs.Ytaepgfafbnjccaa.Am
