/- Contracts and laws on abstract memory, merged. Each holds under its own conditions. -/
import Derived.Test.YtijmkfnmdhpakaaGreatPCeremonyAfter01
/- Rows in a list of one's own: one row is written, two change places. For every program. No condition beyond each theorem's own. -/
set_option linter.unusedSimpArgs false
set_option linter.unusedVariables false
namespace Go.Proofs.YtijmkfnmdhpakaaGreat.Am
open Go Go.RowKit Go.Proofs Go.Proofs.YtijmkfnmdhpakaaGreat.Pl
section
variable {S S' V : Ids} {A A' : AH} {rows : List (List Int)} {cs : List Value}
/-- One row: where it lies, that it may be written, and that the others lie elsewhere. -/
theorem RowsB.row1 (h : RowsB KI.ml S A V rows cs) {j : Nat} {x : List Int} (hx : rows[j]? = some x) :
    ∃ v W, cs[j]? = some v ∧ KI.Ml W A v x ∧ (∀ id, W id → V id) ∧ (∀ (k : Nat) y, k ≠ j → rows[k]? = some y → ∃ u X, cs[k]? = some u ∧ KI.Ml X A u y ∧ (∀ id, X id → V id ∧ ¬ W id)) ∧
      ∀ (S' : Ids) (A' : AH) x', StW W S A S' A' → KI.Ml W A' v x' → RowsB KI.ml S' A' V (rows.set j x') cs := by
  obtain ⟨W, h1, h2, h3⟩ := h.rows
  obtain ⟨v, h4, w, h5, h6⟩ := h3 j x hx
  obtain rfl : v = w := by simpa using h5
  refine ⟨v, W j, h4, h6, h1 j, fun k y hk hy => ?_, fun S' A' x' st hm => ⟨by rw [List.length_set]; exact h.len, fun id hid => (st id (h.sub id hid)).1, W, h1, h2, fun k y hy => ?_⟩⟩
  · obtain ⟨u, h7, w, h8, h9⟩ := h3 k y hy
    obtain rfl : u = w := by simpa using h8
    exact ⟨u, W k, h7, h9, fun id hid => ⟨h1 k id hid, fun hc => hk (h2 k j id hid hc)⟩⟩
  · rw [List.getElem?_set] at hy
    split at hy
    · rename_i e
      subst e
      split at hy
      · cases hy
        exact ⟨v, h4, v, rfl, hm⟩
      · cases hy
    · rename_i e
      obtain ⟨u, h7, h8⟩ := h3 k y hy
      exact ⟨u, h7, KI.ml.same (fun id hid => (st id (h.sub id (h1 k id hid))).2 (fun hc => e (h2 j k id hc hid))) h8⟩
/-- Two rows change places. -/
theorem RowsB.swap (h : RowsB KI.ml S A V rows cs) {n a : Nat} (hn : n < rows.length) (ha : a < rows.length) {v w : Value} (hv : cs[n]? = some v) (hw : cs[a]? = some w) : RowsB KI.ml S A V (sw rows n a) ((cs.set n w).set a v) := by
  obtain ⟨W, h1, h2, h3⟩ := h.rows
  have hl := h.len
  refine ⟨by simp [sw, hl], h.sub, fun j => if j = a then W n else if j = n then W a else W j, fun j id hid => ?_, fun i j id hi hj => ?_, fun j x hx => ?_⟩
  · simp only at hid
    split at hid
    · exact h1 _ _ hid
    · split at hid <;> exact h1 _ _ hid
  · simp only at hi hj
    split at hi <;> split at hj
    · omega
    · split at hj
      · have := h2 _ _ _ hi hj; omega
      · have := h2 _ _ _ hi hj; omega
    · split at hi
      · have := h2 _ _ _ hi hj; omega
      · have := h2 _ _ _ hi hj; omega
    · split at hi <;> split at hj
      · omega
      · have := h2 _ _ _ hi hj; omega
      · have := h2 _ _ _ hi hj; omega
      · exact h2 _ _ _ hi hj
  · have gn : rows[n]? = some (rows.getD n []) := by rw [List.getD_eq_getElem?_getD, List.getElem?_eq_getElem hn]; rfl
    have ga : rows[a]? = some (rows.getD a []) := by rw [List.getD_eq_getElem?_getD, List.getElem?_eq_getElem ha]; rfl
    obtain ⟨vn, n1, n2⟩ := h3 n _ gn
    obtain ⟨va, a1, a2⟩ := h3 a _ ga
    rw [hv] at n1; cases n1
    rw [hw] at a1; cases a1
    unfold sw at hx
    simp only
    rw [List.getElem?_set] at hx ⊢
    by_cases e : a = j
    · subst e
      rw [if_pos rfl, if_pos (by simp; exact ha)] at hx
      cases hx
      rw [if_pos rfl, if_pos (by simp; omega)]
      exact ⟨_, rfl, by simpa using n2⟩
    · rw [if_neg e] at hx ⊢
      rw [List.getElem?_set] at hx ⊢
      by_cases e2 : n = j
      · subst e2
        rw [if_pos rfl, if_pos hn] at hx
        cases hx
        rw [if_pos rfl, if_pos (by omega)]
        refine ⟨_, rfl, ?_⟩
        rw [if_neg (Ne.symm e), if_pos rfl]
        exact a2
      · rw [if_neg e2] at hx ⊢
        obtain ⟨u, h7, h8⟩ := h3 j x hx
        refine ⟨u, h7, ?_⟩
        rw [if_neg (Ne.symm e), if_neg (Ne.symm e2)]
        exact h8
end
section
variable {P : Program} {S : Ids} {H0 : AH} {k k1 : List It} {e e1 : Env} {T T1 : List Var} {n n1 : Nat} {l1 r1 : List Nat}
/-- The end of a writer that returns nothing. -/
theorem KW.endW {fn : Func} {H : AH} {W : Ids} {post : Value → AH → Prop} {vs : List Value} {a b : List Nat} (h : Go1 P k e T n (.done .normal) k1 e1 T1 n1 l1 r1) (hlr : l1 = r1) (hr : aresT P e1 T1 fn.results.toList = some (vs, a, b)) (hab : a = b)
    (hn : ∀ H1, Good S H0 T1 n1 H1 → H.n ≤ H1.n) (hS : ∀ id, id < H.n → ¬ W id → S id ∧ H0.m id = H.m id) (hp : ∀ H1, Good S H0 T1 n1 H1 → post (aout vs) H1) :
    KW P S H0 (Fin1 P fn (fun v H1 => H.n ≤ H1.n ∧ (∀ id, id < H.n → ¬ W id → H1.m id = H.m id) ∧ Fin' H1 ∧ post v H1)) n T k e := by
  refine KW.go h hlr (fun H1 g => ?_)
  have hv := aresT_ok (P := P) g _ hr hab
  simp only [Fin1, hv]
  exact ⟨hn H1 g, fun id hid hw => by rw [(g.froz id (hS id hid hw).1).2, (hS id hid hw).2], g.fin, hp H1 g⟩
/-- .. of a function that returns nothing. -/
theorem KW.endM {fn : Func} {H : AH} {post : Value → AH → Prop} {vs : List Value} {a b : List Nat} (h : Go1 P k e T n (.done .normal) k1 e1 T1 n1 l1 r1) (hlr : l1 = r1) (hr : aresT P e1 T1 fn.results.toList = some (vs, a, b)) (hab : a = b) (hS : ∀ id, id < H.n → S id ∧ H0.m id = H.m id)
    (hp : ∀ H1, Good S H0 T1 n1 H1 → post (aout vs) H1) :
    KW P S H0 (Fin1 P fn (fun v H1 => Ext H H1 ∧ Fin' H1 ∧ post v H1)) n T k e := by
  refine KW.go h hlr (fun H1 g => ?_)
  have hv := aresT_ok (P := P) g _ hr hab
  have hn := g.n_
  have hx : Ext H H1 := by
    refine ⟨?_, fun id hid => by rw [(g.froz id (hS id hid).1).2, (hS id hid).2]⟩
    rcases Nat.eq_zero_or_pos H.n with h | h
    · omega
    · have := (g.froz (H.n - 1) (hS _ (by omega)).1).1
      omega
  simp only [Fin1, hv]
  exact ⟨hx, g.fin, hp H1 g⟩
end
/-- The state of a loop that makes rows. -/
structure RwS where
  i : Nat
  S : Ids
  A : AH
  V : Ids
  cs : List Value
  o : Nat
structure RwI {α : Type} (f : α → List Int) (xs : List α) (H : AH) (SB : Ids) (HB : AH) (s : RwS) : Prop where
  le : s.i ≤ xs.length
  old : St SB HB s.S s.A
  b : RowsB KI.ml s.S s.A s.V ((xs.take s.i).map f) s.cs
  v : ∀ id, s.V id → H.n ≤ id
theorem RwI.start {α : Type} {f : α → List Int} {xs : List α} {H HB : AH} {SB : Ids} {o : Nat} : RwI f xs H SB HB ⟨0, SB, HB, fun _ => False, [], o⟩ := ⟨Nat.zero_le _, fun id hid => ⟨hid, rfl⟩, RowsB.nil _ _, fun _ h => h.elim⟩
theorem RwI.next {α : Type} {f : α → List Int} {xs : List α} {H HB HC : AH} {SB SC : Ids} {s : RwS} {n1 o' : Nat} {y : α} {v : Value} (h : RwI f xs H SB HB s) (t : St s.S s.A SC HC) (w : On (New n1 HC.n) HC SC HC) (low : ∀ id, s.S id → id < n1) (hn : H.n ≤ n1) (hy : xs[s.i]? = some y) (hc : KI.Ml (New n1 HC.n) HC v (f y)) : RwI f xs H SB HB ⟨s.i + 1, SC, HC, fun id => s.V id ∨ New n1 HC.n id, s.cs ++ [v], o'⟩ := by
  obtain ⟨hil, rfl⟩ := List.getElem?_eq_some_iff.1 hy
  haveI o1 : On s.S s.A SC HC := ⟨t⟩
  refine ⟨by simp only; omega, h.old.trans t, ?_, fun id hid => hid.elim (h.v id) (fun p => by have := p.1; omega)⟩
  simp only
  rw [List.take_succ_eq_append_getElem hil, List.map_append]
  exact (h.b.up (S' := SC) (A' := HC)).snoc (ml1' hc) (fun id hid => (w.st id hid).1) (fun id p q => by have := low id (h.b.sub id p); have := q.1; omega)
theorem RwI.ml {α : Type} {f : α → List Int} {xs : List α} {H HB H1 : AH} {SB : Ids} {s : RwS} {T : List Var} {n j : Nat} {ty : TypeId} (h : RwI f xs H SB HB s) (he : s.i = xs.length) (g : Good s.S s.A T n H1) (hT : T[j]? = some (s.o, ⟨ty, true, s.cs⟩)) (ho : H.n ≤ s.o) : KI.ml.Ml (New H.n H1.n) H1 (.slice (some ⟨s.o, 0, some 1⟩) xs.length xs.length) (xs.map f) := by
  have hb := h.b
  rw [he, List.take_of_length_le (Nat.le_refl _)] at hb
  have := hb.ml rfl g hT (X := New H.n H1.n) ⟨ho, (g.blk hT).2⟩ (fun id hid => ⟨h.v id hid, by have := (g.froz id (hb.sub id hid)).1; have := g.n_; omega⟩)
  simpa using this
section
variable {P : Program} {S : Ids} {H0 : AH} {Q : PostC} {k k1 : List It} {e e1 : Env} {T T1 : List Var} {n n1 : Nat} {l1 r1 : List Nat} {d1 : Tmp}
/-- x[:m]. -/
theorem KW.slTo {o : Oper} {dr : Bool} {t el : TypeId} {x y : Operand} {inf : TypeInfo} {id es len c m : Nat} (h : Go1 P k e T n (.op o dr) k1 e1 T1 n1 l1 r1) (hlr : l1 = r1) (ho : o.op = .slice t x none (some y) none) (hd : o.dst = some d1) (hx : ev e1 x = .slice (some ⟨id, 0, some es⟩) len c) (hy : ev e1 y = .int .i64 (m : Nat))
    (hu : P.underlying t = some (.slice el)) (hi : P.info? el = some inf) (he : inf.size = es) (hm : m ≤ c) (hk : KW P S H0 Q n1 T1 k1 (put1 e1 d1 (.slice (some ⟨id, 0, some es⟩) m c))) : KW P S H0 Q n T k e := by
  refine KW.pure h hlr ho hd rfl _ ?_ hk
  simp only [pop, acut, hu, hx, hi, Option.map, hy, bHi, bLo, abound]
  rw [if_pos ⟨by omega, by omega⟩]
  simp [he]
end
theorem RowsB.mlTo {S V X : Ids} {A H2 : AH} {rows : List (List Int)} {cs : List Value} {T : List Var} {n j o : Nat} {ty : TypeId} {m c : Nat} (h : RowsB KI.ml S A V rows cs) (g : Good S A T n H2) (hT : T[j]? = some (o, ⟨ty, true, cs⟩)) (hX : X o) (hV : ∀ id, V id → X id) (hm : m ≤ rows.length) (hc : m ≤ c) : KI.ml.Ml X H2 (.slice (some ⟨o, 0, some 1⟩) m c) (rows.take m) := by
  obtain ⟨W, h1, h2, h3⟩ := h.rows
  have hb := g.blk hT
  have hno := (g.vars j _ hT).2.2
  have hl := h.len
  have el : (rows.take m).length = m := by rw [List.length_take]; omega
  refine .inr ⟨o, c, _, W, by rw [el]; rfl, by rw [el]; exact hc, hX, hb.1, rfl, by rw [el]; show m * 1 ≤ cs.length; omega, fun i id hid => ⟨hV id (h1 i id hid), fun e => hno (e ▸ h.sub id (h1 i id hid))⟩, h2, fun i x hx => ?_⟩
  have hx' : rows[i]? = some x := by
    rw [List.getElem?_take] at hx
    split at hx
    · exact hx
    · cases hx
  obtain ⟨v, h4, h5⟩ := h3 i x hx'
  have e : ((cs.drop (0 + i * 1)).take 1) = [v] := by
    rw [Nat.zero_add, Nat.mul_one, List.take_one, List.head?_drop, h4]; rfl
  show KI.ml.R (W i) H2 x ((cs.drop (0 + i * 1)).take 1)
  rw [e]
  exact KI.ml.same (fun id hid => (g.froz id (h.sub id (h1 i id hid))).2) h5
end Go.Proofs.YtijmkfnmdhpakaaGreat.Am
/- A variable of one's own becomes frozen; rows that are made in place join a list of rows. For every program. No condition beyond each theorem's own. -/
set_option linter.unusedSimpArgs false
set_option linter.unusedVariables false
namespace Go.Proofs.YtijmkfnmdhpakaaGreat.Am
open Go Go.RowKit
/-- The variable j and those behind it are given up; what stands in j is frozen. -/
theorem KW.freeze {P : Program} {S : Ids} {H0 : AH} {Q : PostC} {k : List It} {e : Env} {T : List Var} {n : Nat} (j : Nat) {o : Nat} {b : Blk} (hj : T[j]? = some (o, b))
    (hk : ∀ (A' : AH) (S' : Ids), A'.n = n → (∀ id, S' id ↔ S id ∨ id = o) → Stp S H0 S' A' → A'.m o = some b → o < n → ¬ S o → (∀ id, S id → id < n) → KW P S' A' Q n (T.take j) k e) : KW P S H0 Q n T k e := fun H g => by
  have hv := g.vars j _ hj
  have get : ∀ {i : Nat} {u : Var}, (T.take j)[i]? = some u → i < j ∧ T[i]? = some u := fun {i u} hi => by
    rw [List.getElem?_take] at hi
    split at hi
    · exact ⟨by assumption, hi⟩
    · cases hi
  refine hk H (fun id => S id ∨ id = o) g.n_ (fun id => Iff.rfl) ⟨fun id hid => ⟨.inl hid, (g.froz id hid).2⟩⟩ hv.1 hv.2.1 hv.2.2 (fun id hid => (g.froz id hid).1) H ?_
  refine ⟨g.n_, g.fin, fun id hid => ⟨?_, rfl⟩, fun i u hi => ?_, fun i1 i2 u w h1 h2 he => g.dist i1 i2 u w (get h1).2 (get h2).2 he⟩
  · rcases hid with hid | rfl
    · exact (g.froz id hid).1
    · exact hv.2.1
  · obtain ⟨h1, h2⟩ := get hi
    have h3 := g.vars i u h2
    refine ⟨h3.1, h3.2.1, fun h => ?_⟩
    rcases h with h | h
    · exact h3.2.2 h
    · have := g.dist i j u _ h2 hj h; omega
theorem RwI.nextX {α : Type} {f : α → List Int} {xs : List α} {H HB HC : AH} {SB SC X : Ids} {s : RwS} {o' : Nat} {y : α} {v : Value} (h : RwI f xs H SB HB s) (t : St s.S s.A SC HC) (hX : ∀ id, X id → SC id ∧ H.n ≤ id ∧ ¬ s.S id) (hy : xs[s.i]? = some y) (hc : KI.Ml X HC v (f y)) : RwI f xs H SB HB ⟨s.i + 1, SC, HC, fun id => s.V id ∨ X id, s.cs ++ [v], o'⟩ := by
  obtain ⟨hil, rfl⟩ := List.getElem?_eq_some_iff.1 hy
  haveI o1 : On s.S s.A SC HC := ⟨t⟩
  refine ⟨by simp only; omega, h.old.trans t, ?_, fun id hid => hid.elim (h.v id) (fun p => (hX id p).2.1)⟩
  simp only
  rw [List.take_succ_eq_append_getElem hil, List.map_append]
  exact (h.b.up (S' := SC) (A' := HC)).snoc (ml1' hc) (fun id hid => (hX id hid).1) (fun id p q => (hX id q).2.2 (h.b.sub id p))
/-- A row that has been frozen. -/
theorem row_ml {A : AH} {o : Nat} {ty : TypeId} {xs : List Int} (h : A.m o = some ⟨ty, true, xs.map (Value.int .i64)⟩) : KI.Ml (fun id => id = o) A (.slice (some ⟨o, 0, some 1⟩) xs.length xs.length) xs := int_ml rfl h rfl rfl (Nat.le_refl _)
end Go.Proofs.YtijmkfnmdhpakaaGreat.Am
/- Slices of elements of several cells: making, storing, and what stands in them. For every program. No condition beyond each theorem's own. -/
set_option linter.unusedSimpArgs false
set_option linter.unusedVariables false
namespace Go.Proofs.YtijmkfnmdhpakaaGreat.Am
open Go Go.RowKit
section
variable {P : Program} {S : Ids} {H0 : AH} {Q : PostC} {k k1 : List It} {e e1 : Env} {T T1 : List Var} {n n1 : Nat} {l1 r1 : List Nat} {d1 : Tmp}
/-- A slice is made, of elements of any size. -/
theorem KW.mkS {o : Oper} {dr : Bool} {t el : TypeId} {l c : Operand} {inf : TypeInfo} {z : Value} {kk kk' : IntKind} {i i' : Int} (h : Go1 P k e T n (.op o dr) k1 e1 T1 n1 l1 r1) (hlr : l1 = r1) (ho : o.op = .makeSlice t l c) (hd : o.dst = some d1)
    (hu : P.underlying t = some (.slice el)) (hi : P.info? el = some inf) (hz : inf.zero = some z) (hzo : zeroOkL P el = true) (hl : ev e1 l = .int kk i) (hc : ev e1 c = .int kk' i') (m : Nat) (hi1 : i = m) (hi2 : i' = m) (hm : m ≤ 9223372036854775807) (hb : inf.bytes * m ≤ 281474976710656)
    (hk : KW P S H0 Q (n1 + 1) (T1 ++ [(n1, ⟨el, true, (zarr z (m * inf.size)).toList⟩)]) k1 (put1 e1 d1 (.slice (some ⟨n1, 0, some inf.size⟩) m m))) : KW P S H0 Q n T k e := by
  refine KW.go h hlr (KEvt.heap (c := ⟨_, _, _, _, _, _⟩) _ _ _ (by rw [ho]; exact .inl rfl) (fun H g => ⟨none, _, ?_, g.push _⟩) (by rw [hd, put1_eq]; exact hk))
  subst hi1 hi2
  rw [ho]
  simp only [hop, hl, hc, amake, hu, hi, hz]
  rw [if_pos ⟨zeroOkL_ok hzo, trivial, by omega, by omega, by rw [← Int.natCast_mul]; omega⟩]
  simp only [Int.toNat_natCast, g.n_]
/-- A value is stored to a variable's block, be it of several cells. -/
theorem KW.stB {o : Oper} {dr : Bool} {t : TypeId} {x y : Operand} {id kk : Nat} {sp : Option Nat} {b b' : Blk} (j : Nat) (h : Go1 P k e T n (.op o dr) k1 e1 T1 n1 l1 r1) (hlr : l1 = r1) (ho : o.op = .store t x y) (hd : o.dst = none) (hx : ev e1 x = .pointer (some ⟨id, kk, sp⟩)) (hT : T1[j]? = some (id, b)) (hs : bstore P b t kk (ev e1 y) = some b')
    (hk : KW P S H0 Q n1 (T1.set j (id, b')) k1 e1) : KW P S H0 Q n T k e := by
  refine KW.go h hlr (KEvt.heap (c := ⟨_, _, _, _, _, _⟩) undef (T1.set j (id, b')) n1 (by rw [ho]; exact .inr rfl) (fun H g => ⟨none, H.set id b', ?_, g.set hT _⟩) (by rw [hd]; exact hk))
  rw [ho]
  simp only [hop, hx, bstore_ok (g.blk hT).1 hs]
end
end Go.Proofs.YtijmkfnmdhpakaaGreat.Am
/- What stands in a block of elements of several cells that is filled from left to right. For every program. No condition beyond each theorem's own. -/
set_option linter.unusedSimpArgs false
set_option linter.unusedVariables false
namespace Go.Proofs.YtijmkfnmdhpakaaGreat.Am
open Go Go.RowKit
structure RowsK {α : Type} (d : Kn α) (S : Ids) (A : AH) (V : Ids) (rows : List α) (cells : List Value) : Prop where
  len : rows.length * d.es ≤ cells.length
  sub : ∀ id, V id → S id
  rows : ∃ W : Nat → Ids, (∀ j id, W j id → V id) ∧ (∀ i j id, W i id → W j id → i = j) ∧ ∀ (j : Nat) x, rows[j]? = some x → d.R (W j) A x ((cells.drop (j * d.es)).take d.es)
section
variable {α : Type} {d : Kn α} {S S' V : Ids} {A A' : AH} {rows : List α} {cells : List Value}
theorem RowsK.nil (S : Ids) (A : AH) (cells : List Value) : RowsK d S A (fun _ => False) [] cells := ⟨by simp, fun _ h => h.elim, fun _ _ => False, fun _ _ h => h.elim, fun _ _ _ h => h.elim, fun j x h => by simp at h⟩
theorem RowsK.mv (h : RowsK d S A V rows cells) (t : ∀ i, V i → S' i ∧ A'.m i = A.m i) : RowsK d S' A' V rows cells := by
  obtain ⟨W, h1, h2, h3⟩ := h.rows
  exact ⟨h.len, fun i hi => (t i hi).1, W, h1, h2, fun j x hx => d.same (fun id hid => (t id (h1 j id hid)).2) (h3 j x hx)⟩
theorem splice_part {l ys : List Value} {k q n : Nat} (hk : k + ys.length ≤ l.length) (hq : q + n ≤ k ∨ (q = k ∧ n = ys.length)) : ((splice l k ys).drop q).take n = if q + n ≤ k ∧ ¬ (q = k ∧ n = ys.length) then (l.drop q).take n else ys := by
  refine List.ext_getElem? fun j => ?_
  rw [List.getElem?_take]
  by_cases hj : j < n
  · rw [if_pos hj, List.getElem?_drop, splice_get l k ys hk]
    rcases hq with hq | ⟨e1, e2⟩
    · have h1 : q + j < k := by omega
      rw [if_pos h1]
      split
      · rw [List.getElem?_take, if_pos hj, List.getElem?_drop]
      · rename_i h2
        omega
    · subst e1
      rw [if_neg (by omega), if_pos (by omega), if_neg (fun h => h.2 ⟨rfl, e2⟩), show q + j - q = j by omega]
  · rw [if_neg hj]
    split
    · rw [List.getElem?_take, if_neg hj]
    · rename_i h2
      rcases hq with hq | ⟨e1, e2⟩
      · by_cases h3 : q = k ∧ n = ys.length
        · rw [List.getElem?_eq_none (by omega)]
        · exact (h2 ⟨hq, h3⟩).elim
      · rw [List.getElem?_eq_none (by omega)]
theorem RowsK.snoc {X : Ids} {x : α} {cs : List Value} (h : RowsK d S A V rows cells) (hx : d.R X A x cs) (hS : ∀ id, X id → S id) (hd : ∀ id, V id → X id → False) (hl : (rows.length + 1) * d.es ≤ cells.length) : RowsK d S A (fun id => V id ∨ X id) (rows ++ [x]) (splice cells (rows.length * d.es) cs) := by
  obtain ⟨W, h1, h2, h3⟩ := h.rows
  have hcs := d.len hx
  have hk : rows.length * d.es + cs.length ≤ cells.length := by rw [hcs, ← Nat.succ_mul]; exact hl
  refine ⟨by rw [splice_length _ _ _ hk, List.length_append, List.length_singleton]; exact hl, fun id hid => hid.elim (h.sub id) (hS id), fun j id => if j = rows.length then X id else W j id, fun j id hid => ?_, fun i j id hi hj => ?_, fun j y hy => ?_⟩
  · simp only at hid
    split at hid
    · exact .inr hid
    · exact .inl (h1 j id hid)
  · simp only at hi hj
    split at hi <;> split at hj
    · omega
    · exact (hd id (h1 j id hj) hi).elim
    · exact (hd id (h1 i id hi) hj).elim
    · exact h2 i j id hi hj
  · by_cases e : j = rows.length
    · subst e
      rw [List.getElem?_append_right (Nat.le_refl _), Nat.sub_self] at hy
      cases hy
      rw [splice_part hk (.inr ⟨rfl, hcs.symm⟩), if_neg (fun h => h.2 ⟨rfl, hcs.symm⟩)]
      exact d.more (fun id hid => by show (if rows.length = rows.length then X id else W rows.length id); rw [if_pos rfl]; exact hid) hx
    · have hj : j < rows.length := by
        have := (List.getElem?_eq_some_iff.1 hy).1
        simp at this
        omega
      rw [List.getElem?_append_left hj] at hy
      have hle : j * d.es + d.es ≤ rows.length * d.es := by rw [← Nat.succ_mul]; exact Nat.mul_le_mul_right _ hj
      have hR := h3 j y hy
      have e2 : ((splice cells (rows.length * d.es) cs).drop (j * d.es)).take d.es = (cells.drop (j * d.es)).take d.es := by
        rw [splice_part hk (.inl hle)]
        split
        · rfl
        · rename_i h4
          have h5 : cs.length = 0 := by
            refine Classical.byContradiction fun hne => h4 ⟨hle, fun h6 => hne ?_⟩
            omega
          have h6 : d.es = 0 := by omega
          rw [List.eq_nil_of_length_eq_zero h5, h6]
          simp
      rw [e2]
      exact d.more (fun id hid => by show (if j = rows.length then X id else W j id); rw [if_neg e]; exact hid) hR
theorem RowsK.ml {T : List Var} {n i o c : Nat} {ty : TypeId} {H2 : AH} {X : Ids} (h : RowsK d S A V rows cells) (g : Good S A T n H2) (hT : T[i]? = some (o, ⟨ty, true, cells⟩)) (hX : X o) (hV : ∀ id, V id → X id) (hc : rows.length ≤ c) : d.Ml X H2 (.slice (some ⟨o, 0, some d.es⟩) rows.length c) rows := by
  obtain ⟨W, h1, h2, h3⟩ := h.rows
  have hv := g.vars i _ hT
  refine .inr ⟨o, c, _, W, rfl, hc, hX, hv.1, rfl, h.len, fun j id hid => ⟨hV id (h1 j id hid), fun e => hv.2.2 (e ▸ h.sub id (h1 j id hid))⟩, h2, fun j x hx => ?_⟩
  rw [Nat.zero_add]
  exact d.same (fun id hid => (g.froz id (h.sub id (h1 j id hid))).2) (h3 j x hx)
end
end Go.Proofs.YtijmkfnmdhpakaaGreat.Am
/- What has been held, at rows of numbers. Each holds under its own conditions. -/
set_option linter.unusedVariables false
set_option maxRecDepth 20000
namespace Go.Proofs.YtijmkfnmdhpakaaGreat.Am
open Go Go.RowKit Go.Proofs
section
variable {S : Ids} {H0 : AH} {W : Ids} {a a' : Option Addr} {c c' : Nat} {left k : Int}
theorem held_Int64S {x : List Int} (hB : B_Int64S x) (hk : Mk k (sz_Int64S x)) (hs : K_Int64S.R S H0 (mk_Int64S k x) [.slice a (mk_Int64S k x).length c]) : Spec Tryz.prog S H0 19 [.slice a (mk_Int64S k x).length c, .int .i64 k] (fun v => v = .int .i64 (k + sz_Int64S x)) := heldInt64S (by show x.length ≤ _; have : x.length ≤ 1048576 := hB; omega) ⟨hk.1, by have := hk.2; omega⟩ (sl1 hs)
theorem held_Int64SS {x : List (List Int)} (hB : B_Int64SS x) (hk : Mk k (sz_Int64SS x)) (hs : K_Int64SS.R S H0 (mk_Int64SS k x) [.slice a (mk_Int64SS k x).length c]) : Spec Tryz.prog S H0 89 [.slice a (mk_Int64SS k x).length c, .int .i64 k] (fun v => v = .int .i64 (k + sz_Int64SS x)) := by
  have hs := sl1 hs
  have hn : (mk_Int64SS k x).length = x.length := mks_len _ _ _ _
  have hxl : x.length ≤ 1048576 := hB.len
  refine Spec.of1 Tryz.func89 rfl (by kernel_rfl) rfl (fun H _ => ?_)
  refine KW.lp rfl rfl (fun i : Nat => [(0, .slice a (mk_Int64SS k x).length c), (1, .int .i64 (k + sum ((x.map sz_Int64S).take i))), (5, .int .i64 i)]) (fun i => i ≤ x.length) (fun i => x.length - i) (0) (by omega) ⟨rfl, congrArg (Value.int .i64) (by simp [sum]), rfl, trivial⟩ (fun i hi bE n => ?_)
  have hsl := sum_le (l := x.map sz_Int64S) i
  have hk1 := hk.1
  have hk2 : k + (sum (x.map sz_Int64S) : Nat) ≤ 274877906944 := hk.2
  refine KW.cnd rfl rfl (fun h => ?_) (fun h => ?_)
  · refine KW.getL hs.up rfl rfl rfl rfl rfl rfl rfl rfl rfl rfl rfl rfl rfl rfl rfl rfl (by omega) (by omega) (fun y a' m hy hsy => ?_)
    have hy : (mk_Int64SS k x)[i]? = some y := hy
    obtain ⟨z, hz⟩ : ∃ z, x[i]? = some z := ⟨x[i]'(by omega), List.getElem?_eq_getElem (by omega)⟩
    rw [mks_at k hz] at hy
    cases hy
    have hzl : (x.map sz_Int64S)[i]? = some (sz_Int64S z) := by simp [hz]
    have hsum := sum_take hzl
    have hsl1 := sum_le (l := x.map sz_Int64S) (i + 1)
    refine KW.callE rfl rfl rfl rfl rfl (held_Int64S (hB.each z (List.mem_of_getElem? hz)) (by constructor <;> omega) (sl1' hsy)) (fun _ _ => ?_)
    refine KW.no rfl rfl (by omega) ?_
    refine KW.nxt rfl rfl (fun H' g => ⟨i + 1, by omega, by first | omega | (simp only; omega), ⟨rfl, congrArg (Value.int .i64) (by rw [hsum]; omega), congrArg (Value.int .i64) (inc64 (by omega)), trivial⟩, g⟩)
  · refine KW.ret rfl rfl rfl rfl (congrArg (Value.int .i64) ?_)
    obtain rfl : i = x.length := by omega
    rw [List.take_of_length_le (by simp)]
theorem held_Int64S' {x : List Int} (hB : B_Int64S x) (hk : Mk k (sz_Int64S x)) (hs : K_Int64S.R S H0 (mk_Int64S k x) [.slice a x.length c]) : Spec Tryz.prog S H0 19 [.slice a x.length c, .int .i64 k] (fun v => v = .int .i64 (k + sz_Int64S x)) := by
  have e : (mk_Int64S k x).length = x.length := cnt_len _ _
  rw [← e] at hs ⊢
  exact held_Int64S hB hk hs
theorem held_Int64SS' {x : List (List Int)} (hB : B_Int64SS x) (hk : Mk k (sz_Int64SS x)) (hs : K_Int64SS.R S H0 (mk_Int64SS k x) [.slice a x.length c]) : Spec Tryz.prog S H0 89 [.slice a x.length c, .int .i64 k] (fun v => v = .int .i64 (k + sz_Int64SS x)) := by
  have e : (mk_Int64SS k x).length = x.length := mks_len _ _ _ _
  rw [← e] at hs ⊢
  exact held_Int64SS hB hk hs
end
end Go.Proofs.YtijmkfnmdhpakaaGreat.Am
/- Elements of several cells in a block: runs of cells, a struct stored, marks row by row. For every program. No condition beyond each theorem's own. -/
set_option linter.unusedSimpArgs false
set_option linter.unusedVariables false
namespace Go.Proofs.YtijmkfnmdhpakaaGreat.Am
open Go Go.RowKit
theorem seg_of {l cs : List Value} {k n : Nat} (hn : cs.length = n) (h : ∀ (q : Nat) v, cs[q]? = some v → l[k + q]? = some v) : (l.drop k).take n = cs := by
  refine List.ext_getElem? fun q => ?_
  rw [List.getElem?_take]
  rcases Nat.lt_or_ge q n with hq | hq
  · rw [if_pos hq, List.getElem?_drop]
    have e : cs[q]? = some (cs[q]'(by omega)) := List.getElem?_eq_getElem (by omega)
    rw [h q _ e, e]
  · rw [if_neg (by omega), List.getElem?_eq_none (by omega)]
theorem seg_at {l cs : List Value} {k n q : Nat} {v : Value} (h : (l.drop k).take n = cs) (hq : cs[q]? = some v) : l[k + q]? = some v := by
  rw [← h, List.getElem?_take] at hq
  split at hq
  · rwa [List.getElem?_drop] at hq
  · cases hq
theorem seg_set {l : List Value} {k n p : Nat} {v : Value} (h : p < k ∨ k + n ≤ p) : ((l.set p v).drop k).take n = (l.drop k).take n := by
  refine List.ext_getElem? fun q => ?_
  rw [List.getElem?_take, List.getElem?_take]
  split
  · rw [List.getElem?_drop, List.getElem?_drop, List.getElem?_set_ne (by omega)]
  · rfl
theorem set_ne {l : List Value} {p q : Nat} {u v : Value} (h : l[q]? = some v) (hne : p ≠ q) : (l.set p u)[q]? = some v := by rw [List.getElem?_set_ne hne]; exact h
theorem set_eq {l : List Value} {p q : Nat} {u v : Value} (h : l[q]? = some v) (e : p = q) : (l.set p u)[q]? = some u := by
  subst e
  rw [List.getElem?_set_self (List.getElem?_eq_some_iff.1 h).1]
theorem lt_of {l : List Value} {q : Nat} {v : Value} (h : l[q]? = some v) : q < l.length := (List.getElem?_eq_some_iff.1 h).1
theorem bstore_agg {P : Program} {b : Blk} {t : TypeId} {k : Nat} {cs : List Value} {i : TypeInfo} (hi : P.info? t = some i) (hs : i.size = cs.length) (hrw : b.rw = true) (hk : k + cs.length ≤ b.cells.length) (h1 : cs.all Value.oneCell' = true) : bstore P b t k (.agg cs.toArray) = some ⟨b.ty, true, splice b.cells k cs⟩ := by
  unfold bstore
  simp only [hi]
  rw [if_pos ⟨hrw, by show cs.toArray.size = i.size; simp [hs], by omega, h1⟩, hrw]
  rfl
/-- Marks have been put down to i rows. -/
structure MkRow {α : Type} (M : Kn α) (mk : Int → α → α) (sz : α → Nat) (x : List α) (k : Int) (Ws : Nat → Ids) (len : Nat) (i : Nat) (A : AH) (cs : List Value) : Prop where
  len : cs.length = len
  row : ∀ (j : Nat) y, x[j]? = some y → (i ≤ j → M.R (Ws j) A y ((cs.drop (0 + j * M.es)).take M.es)) ∧ (j < i → M.R (Ws j) A (mk (k + (Am.sum ((x.map sz).take j) : Nat)) y) ((cs.drop (0 + j * M.es)).take M.es))
theorem MkRow.next {α : Type} {M : Kn α} {mk : Int → α → α} {sz : α → Nat} {x : List α} {k : Int} {Ws : Nat → Ids} {len i : Nat} {A A' : AH} {cs cs' : List Value} (h : MkRow M mk sz x k Ws len i A cs) {y : α} (hy : x[i]? = some y) (hl : cs'.length = cs.length)
    (hseg : ∀ j, j ≠ i → (cs'.drop (0 + j * M.es)).take M.es = (cs.drop (0 + j * M.es)).take M.es) (hA : ∀ j, j ≠ i → ∀ id, Ws j id → A'.m id = A.m id) (hr : M.R (Ws i) A' (mk (k + (Am.sum ((x.map sz).take i) : Nat)) y) ((cs'.drop (0 + i * M.es)).take M.es)) : MkRow M mk sz x k Ws len (i + 1) A' cs' := by
  refine ⟨hl.trans h.len, fun j z hz => ?_⟩
  by_cases e : j = i
  · subst e
    rw [hy] at hz
    cases hz
    exact ⟨fun h => by omega, fun _ => hr⟩
  · rw [hseg j e]
    exact ⟨fun hj => M.same (hA j e) ((h.row j z hz).1 (by omega)), fun hj => M.same (hA j e) ((h.row j z hz).2 (by omega))⟩
section
variable {P : Program} {S : Ids} {H0 : AH} {W : Ids}
/-- The one way in which an empty list or one of one's own stands. -/
theorem mkrow_ml {α : Type} {M : Kn α} {mk : Int → α → α} {sz : α → Nat} {x : List α} {k : Int} {Ws : Nat → Ids} {len : Nat} {A H1 : AH} {cs : List Value} {o c : Nat} {ty : TypeId} (h : MkRow M mk sz x k Ws len x.length A cs) (hc : x.length ≤ c) (hle : x.length * M.es ≤ len) (ho : W o) (hm : H1.m o = some ⟨ty, true, cs⟩)
    (hw : ∀ i id, Ws i id → W id ∧ id ≠ o) (hd : ∀ i j id, Ws i id → Ws j id → i = j) (hA : ∀ j id, Ws j id → H1.m id = A.m id) : M.Ml W H1 (.slice (some ⟨o, 0, some M.es⟩) x.length c) (mks mk sz k x) := by
  have hl2 := mks_len mk sz k x
  refine .inr ⟨o, c, _, Ws, by rw [hl2], by rw [hl2]; exact hc, ho, hm, rfl, by rw [hl2, h.len]; exact hle, hw, hd, fun j z hx' => ?_⟩
  have hj : j < x.length := by have := (List.getElem?_eq_some_iff.1 hx').1; omega
  obtain ⟨y, hy⟩ : ∃ y, x[j]? = some y := ⟨x[j], List.getElem?_eq_getElem hj⟩
  rw [mks_at k hy] at hx'
  cases hx'
  exact M.same (hA j) ((h.row j y hy).2 hj)
end
/-- A block of elements that is filled, in a loop. -/
structure RkS where
  i : Nat
  S : Ids
  A : AH
  V : Ids
  cs : List Value
structure RkI {α : Type} (M : Kn α) (x : List α) (H : AH) (m : Nat) (s : RkS) : Prop where
  le : s.i ≤ x.length
  old : St (Low H.n) H s.S s.A
  r : RowsK M s.S s.A s.V (x.take s.i) s.cs
  len : s.cs.length = m
  v : ∀ id, s.V id → H.n < id
theorem RkI.start {α : Type} {M : Kn α} {x : List α} {H : AH} {cs : List Value} {m : Nat} (hl : cs.length = m) : RkI M x H m ⟨0, Low H.n, H, fun _ => False, cs⟩ :=
  ⟨Nat.zero_le _, fun id hid => ⟨hid, rfl⟩, RowsK.nil _ _ _, hl, fun _ h => h.elim⟩
theorem RkI.next {α : Type} {M : Kn α} {x : List α} {H H1 : AH} {s : RkS} {S' : Ids} {n m : Nat} (h : RkI M x H m s) (hm : m = x.length * M.es) (hn : H.n < n) (hlt : ∀ id, s.S id → id < n) (st : St s.S s.A S' H1) (hw : ∀ id, New n H1.n id → S' id) {y : α} {cs : List Value} (hy : x[s.i]? = some y) (hv : M.R (New n H1.n) H1 y cs) :
    RkI M x H m ⟨s.i + 1, S', H1, fun id => s.V id ∨ New n H1.n id, splice s.cs (0 + s.i * M.es) cs⟩ := by
  have hi := (List.getElem?_eq_some_iff.1 hy).1
  have hl := h.len
  have ht : (x.take s.i).length = s.i := by rw [List.length_take]; have := h.le; omega
  have hle : (s.i + 1) * M.es ≤ s.cs.length := by rw [hl, hm]; exact Nat.mul_le_mul_right _ hi
  have hs := (h.r.mv (S' := S') (A' := H1) (fun i hi => st i (h.r.sub i hi))).snoc hv hw (fun id p q => by have := hlt id (h.r.sub id p); have := q.1; omega) (by rw [ht]; exact hle)
  rw [ht] at hs
  rw [Nat.zero_add]
  refine ⟨by simp only; omega, h.old.trans st, ?_, ?_, fun id hid => hid.elim (h.v id) (fun q => by have := q.1; omega)⟩
  · simp only
    have e : x.take (s.i + 1) = x.take s.i ++ [y] := by rw [List.take_add_one, hy]; rfl
    rw [e]
    exact hs
  · simp only
    rw [splice_length _ _ _ (by rw [M.len hv]; rw [Nat.succ_mul] at hle; exact hle)]
    exact hl
theorem RkI.ml {α : Type} {M : Kn α} {x : List α} {H H1 : AH} {s : RkS} {n1 m : Nat} {ty : TypeId} {T : List Var} (h : RkI M x H m s) (he : s.i = x.length) (hT : T[0]? = some (H.n, ⟨ty, true, s.cs⟩)) (g : Good s.S s.A T n1 H1) :
    M.Ml (New H.n H1.n) H1 (.slice (some ⟨H.n, 0, some M.es⟩) x.length x.length) x := by
  have hb := g.blk hT
  have hr := h.r
  rw [he, List.take_of_length_le (Nat.le_refl _)] at hr
  have hn := g.n_
  exact hr.ml g hT ⟨Nat.le_refl _, hb.2⟩ (fun id hid => ⟨Nat.le_of_lt (h.v id hid), by have := (g.froz id (hr.sub id hid)).1; omega⟩) (Nat.le_refl _)
/-- A mark of a row, where it begins at a sum. -/
theorem mark_I {P : Program} {S : Ids} {H0 : AH} {W : Ids} {f : FuncId} {v : Value} {k k' : Int} {post : Nat → Value → AH → Prop} (e : k' = k) (h : SpecW P S H0 W f [v, .int .i64 k] post) : SpecW P S H0 W f [v, .int .i64 k'] post := by rw [e]; exact h
theorem spec_I {P : Program} {S : Ids} {H0 : AH} {f : FuncId} {v : Value} {k k' : Int} {post : Value → Prop} (e : k' = k) (h : Spec P S H0 f [v, .int .i64 k] post) : Spec P S H0 f [v, .int .i64 k'] post := by rw [e]; exact h
end Go.Proofs.YtijmkfnmdhpakaaGreat.Am
/- Contracts: whether a function value tells true of an element of a slice. Each holds under its own conditions. -/
set_option linter.unusedVariables false
set_option maxRecDepth 20000
namespace Go.Proofs.YtijmkfnmdhpakaaGreat.Am
open Go Go.RowKit Go.Proofs
section
variable {S : Ids} {H0 : AH}
/-- A function value that tells something of each number. -/
def TellsI (P : Program) (S : Ids) (H0 : AH) (xs : List Int) (g : FuncId) (cap : List Value) (p : Int → Bool) : Prop :=
  ∀ S' H', On S H0 S' H' → ∀ y ∈ xs, Spec P S' H' g (.int .i64 y :: cap) (fun v => v = .bool (p y))
theorem TellsI.up {P : Program} {S' : Ids} {H' : AH} {xs : List Int} {g : FuncId} {cap : List Value} {p : Int → Bool} [o : On S H0 S' H'] (h : TellsI P S H0 xs g cap p) : TellsI P S' H' xs g cap p := fun S2 H2 o2 => h S2 H2 ⟨o.st.trans o2.st⟩
theorem indexFuncI {a c} {xs : List Int} {g : FuncId} {id k : Nat} {sp : Option Nat} {p : Int → Bool} (hl : xs.length ≤ 4611686018427387904) (hs : KI.Sl S H0 (.slice a xs.length c) xs) (hp : TellsI Tryz.prog S H0 xs g [.pointer (some ⟨id, k, none⟩)] p) :
    Spec Tryz.prog S H0 162 [.slice a xs.length c, .func (.func g) #[] #[.pointer (some ⟨id, k, sp⟩)]] (fun v => ∃ r : Int, v = .int .i64 r ∧ (r ≥ 0 ↔ ∃ x ∈ xs, p x = true)) := by
  refine Spec.of1 Tryz.func162 rfl (by kernel_rfl) rfl (fun H _ => ?_)
  refine KW.lp rfl rfl (fun i : Nat => [(0, .slice a xs.length c), (1, .func (.func g) #[] #[.pointer (some ⟨id, k, sp⟩)]), (7, .int .i64 xs.length), (8, .int .i64 i)]) (fun i => i ≤ xs.length ∧ ∀ j, j < i → ∀ x, xs[j]? = some x → p x = false) (fun i => xs.length - i) (0) (⟨by omega, fun j h => absurd h (by omega)⟩) ⟨rfl, rfl, rfl, rfl, trivial⟩ (fun i hi bE n => ?_)
  obtain ⟨hi, hj⟩ := hi
  refine KW.cnd rfl rfl (fun h => ?_) (fun h => ?_)
  · refine KW.getI hs.up rfl rfl rfl rfl rfl rfl rfl rfl rfl rfl rfl rfl rfl rfl rfl rfl (by omega) (h) (fun x hx => ?_)
    have hx : xs[i]? = some x := hx
    have hmem := List.mem_of_getElem? hx
    refine KW.callE rfl rfl rfl rfl rfl (hp _ _ inferInstance x hmem) (fun _ _ => ?_)
    refine KW.cndB rfl rfl (fun h2 => ?_) (fun h2 => ?_)
    · exact KW.ret rfl rfl rfl rfl (⟨(i : Int), rfl, fun _ => ⟨x, hmem, h2⟩, fun _ => by omega⟩)
    · refine KW.nxt rfl rfl (fun H' g => ⟨i + 1, ⟨by omega, upto hj (fun y hy => by rw [hx] at hy; cases hy; exact h2)⟩, by first | omega | (simp only; omega), ⟨rfl, rfl, rfl, congrArg (Value.int .i64) (inc64 (by omega)), trivial⟩, g⟩)
  · refine KW.ret rfl rfl rfl rfl ⟨-1, rfl, fun h => absurd h (by decide), fun ⟨x, hx, hpx⟩ => ?_⟩
    obtain ⟨j, hjx⟩ := List.getElem?_of_mem hx
    have := hj j (by have := (List.getElem?_eq_some_iff.1 hjx).1; omega) x hjx
    rw [hpx] at this; cases this
theorem containsFuncI {a c} {xs : List Int} {g : FuncId} {id k : Nat} {sp : Option Nat} {p : Int → Bool} (hl : xs.length ≤ 4611686018427387904) (hs : KI.Sl S H0 (.slice a xs.length c) xs) (hp : TellsI Tryz.prog S H0 xs g [.pointer (some ⟨id, k, none⟩)] p) :
    Spec Tryz.prog S H0 139 [.slice a xs.length c, .func (.func g) #[] #[.pointer (some ⟨id, k, sp⟩)]] (fun v => v = .bool (tv (∃ x ∈ xs, p x = true))) := by
  refine Spec.of1 Tryz.func139 rfl (by kernel_rfl) rfl (fun H _ => ?_)
  refine KW.call rfl rfl rfl rfl rfl (indexFuncI hl hs.up hp.up) (fun v _ _ hv => ?_)
  obtain ⟨r, rfl, hr⟩ := hv
  refine KW.ret rfl rfl rfl rfl ?_
  show Value.bool (decide (r ≥ 0)) = _
  rw [tv_dec, tv_congr hr]
/-- A function value that tells something of each row. -/
def TellsL (P : Program) (S : Ids) (H0 : AH) (xs : List (List Int)) (g : FuncId) (cap : List Value) (p : List Int → Bool) : Prop :=
  ∀ S' H', On S H0 S' H' → ∀ y ∈ xs, ∀ a c, KI.Sl S' H' (.slice a y.length c) y → Spec P S' H' g (.slice a y.length c :: cap) (fun v => v = .bool (p y))
theorem TellsL.up {P : Program} {S' : Ids} {H' : AH} {xs : List (List Int)} {g : FuncId} {cap : List Value} {p : List Int → Bool} [o : On S H0 S' H'] (h : TellsL P S H0 xs g cap p) : TellsL P S' H' xs g cap p := fun S2 H2 o2 => h S2 H2 ⟨o.st.trans o2.st⟩
theorem indexFuncL {a c} {xs : List (List Int)} {g : FuncId} {id k : Nat} {sp : Option Nat} {p : List Int → Bool} (hl : xs.length ≤ 4611686018427387904) (hs : KI.sl.Sl S H0 (.slice a xs.length c) xs) (hp : TellsL Tryz.prog S H0 xs g [.pointer (some ⟨id, k, none⟩)] p) :
    Spec Tryz.prog S H0 171 [.slice a xs.length c, .func (.func g) #[] #[.pointer (some ⟨id, k, sp⟩)]] (fun v => ∃ r : Int, v = .int .i64 r ∧ (r ≥ 0 ↔ ∃ x ∈ xs, p x = true)) := by
  refine Spec.of1 Tryz.func171 rfl (by kernel_rfl) rfl (fun H _ => ?_)
  refine KW.lp rfl rfl (fun i : Nat => [(0, .slice a xs.length c), (1, .func (.func g) #[] #[.pointer (some ⟨id, k, sp⟩)]), (7, .int .i64 xs.length), (8, .int .i64 i)]) (fun i => i ≤ xs.length ∧ ∀ j, j < i → ∀ x, xs[j]? = some x → p x = false) (fun i => xs.length - i) (0) (⟨by omega, fun j h => absurd h (by omega)⟩) ⟨rfl, rfl, rfl, rfl, trivial⟩ (fun i hi bE n => ?_)
  obtain ⟨hi, hj⟩ := hi
  refine KW.cnd rfl rfl (fun h => ?_) (fun h => ?_)
  · refine KW.getL hs.up rfl rfl rfl rfl rfl rfl rfl rfl rfl rfl rfl rfl rfl rfl rfl rfl (by omega) (h) (fun x ax cx hx hsx => ?_)
    have hx : xs[i]? = some x := hx
    have hmem := List.mem_of_getElem? hx
    refine KW.callE rfl rfl rfl rfl rfl (hp _ _ inferInstance x hmem _ _ hsx) (fun _ _ => ?_)
    refine KW.cndB rfl rfl (fun h2 => ?_) (fun h2 => ?_)
    · exact KW.ret rfl rfl rfl rfl (⟨(i : Int), rfl, fun _ => ⟨x, hmem, h2⟩, fun _ => by omega⟩)
    · refine KW.nxt rfl rfl (fun H' g => ⟨i + 1, ⟨by omega, upto hj (fun y hy => by rw [hx] at hy; cases hy; exact h2)⟩, by first | omega | (simp only; omega), ⟨rfl, rfl, rfl, congrArg (Value.int .i64) (inc64 (by omega)), trivial⟩, g⟩)
  · refine KW.ret rfl rfl rfl rfl ⟨-1, rfl, fun h => absurd h (by decide), fun ⟨x, hx, hpx⟩ => ?_⟩
    obtain ⟨j, hjx⟩ := List.getElem?_of_mem hx
    have := hj j (by have := (List.getElem?_eq_some_iff.1 hjx).1; omega) x hjx
    rw [hpx] at this; cases this
theorem containsFuncL {a c} {xs : List (List Int)} {g : FuncId} {id k : Nat} {sp : Option Nat} {p : List Int → Bool} (hl : xs.length ≤ 4611686018427387904) (hs : KI.sl.Sl S H0 (.slice a xs.length c) xs) (hp : TellsL Tryz.prog S H0 xs g [.pointer (some ⟨id, k, none⟩)] p) :
    Spec Tryz.prog S H0 160 [.slice a xs.length c, .func (.func g) #[] #[.pointer (some ⟨id, k, sp⟩)]] (fun v => v = .bool (tv (∃ x ∈ xs, p x = true))) := by
  refine Spec.of1 Tryz.func160 rfl (by kernel_rfl) rfl (fun H _ => ?_)
  refine KW.call rfl rfl rfl rfl rfl (indexFuncL hl hs.up hp.up) (fun v _ _ hv => ?_)
  obtain ⟨r, rfl, hr⟩ := hv
  refine KW.ret rfl rfl rfl rfl ?_
  show Value.bool (decide (r ≥ 0)) = _
  rw [tv_dec, tv_congr hr]
end
end Go.Proofs.YtijmkfnmdhpakaaGreat.Am
/- Contracts: primes, elements, valid matrices, of the program and of the reference. Each holds under its own conditions. -/
set_option linter.unusedVariables false
set_option maxRecDepth 20000
namespace Go.Proofs.YtijmkfnmdhpakaaGreat.Am
open Go Go.RowKit Go.Proofs
section
variable {P : Program} {S : Ids} {H0 : AH} {Q : PostC} {k k1 : List It} {e e1 : Env} {T T1 : List Var} {n n1 : Nat} {l1 r1 : List Nat} {d1 : Tmp}
theorem KW.rem {o : Oper} {dr : Bool} {t u : TypeId} {x y : Operand} {ik : IntKind} {a b : Int} (h : Go1 P k e T n (.op o dr) k1 e1 T1 n1 l1 r1) (hlr : l1 = r1) (ho : o.op = .binOp .rem t x y u) (hd : o.dst = some d1) (hx : ev e1 x = .int ik a) (hy : ev e1 y = .int ik b) (ha : 0 ≤ a) (hb : b ≠ 0)
    (hk : KW P S H0 Q n1 T1 k1 (put1 e1 d1 (.int ik (a % b)))) : KW P S H0 Q n T k e := by
  refine KW.pure h hlr ho hd rfl _ ?_ hk
  simp only [pop, hx, hy, abin, aint, if_true]
  rw [if_neg hb, Int.tmod_eq_emod_of_nonneg ha]
theorem KW.quo {o : Oper} {dr : Bool} {t u : TypeId} {x y : Operand} {a b : Int} (h : Go1 P k e T n (.op o dr) k1 e1 T1 n1 l1 r1) (hlr : l1 = r1) (ho : o.op = .binOp .quo t x y u) (hd : o.dst = some d1) (hx : ev e1 x = .int .i64 a) (hy : ev e1 y = .int .i64 b) (ha : 0 ≤ a ∧ a ≤ 9223372036854775807) (hb : 0 < b)
    (hk : KW P S H0 Q n1 T1 k1 (put1 e1 d1 (.int .i64 (a / b)))) : KW P S H0 Q n T k e := by
  refine KW.pure h hlr ho hd rfl _ ?_ hk
  simp only [pop, hx, hy, abin, aint, if_true]
  rw [if_neg (by omega), Int.tdiv_eq_ediv_of_nonneg ha.1]
  have h1 : 0 ≤ a / b := Int.ediv_nonneg ha.1 (by omega)
  have h2 : a / b ≤ a := Int.ediv_le_self _ ha.1
  rw [wr (by omega) (by omega)]
end
/-- A prime up to 31. -/
def PrimeP (p : Int) : Prop := 2 ≤ p ∧ p ≤ 31 ∧ ∀ d : Nat, 2 ≤ d → (d : Int) < p → ¬ p % d = 0
theorem prime_of {p : Int} {d : Nat} (h2 : 2 ≤ p) (h31 : p ≤ 31) (hd : 2 ≤ d) (hdd : ¬ (d : Int) * d ≤ p) (h : ∀ j : Nat, 2 ≤ j → j < d → ¬ p % j = 0) : PrimeP p := by
  refine ⟨h2, h31, fun q hq hqp hm => ?_⟩
  rcases Nat.lt_or_ge q d with hlt | hge
  · exact h q hq hlt hm
  · obtain ⟨r, hr⟩ := Int.dvd_of_emod_eq_zero hm
    have hr1 : 1 < r := by
      rcases Int.lt_or_le 1 r with h | h
      · exact h
      · have : (q : Int) * r ≤ q * 1 := Int.mul_le_mul_of_nonneg_left h (by omega)
        omega
    obtain ⟨s, rfl⟩ : ∃ s : Nat, r = s := ⟨r.toNat, by omega⟩
    have hs : (s : Int) < d := by
      rcases Int.lt_or_le (s : Int) d with h | h
      · exact h
      · have h1 : (d : Int) * d ≤ q * s := Int.mul_le_mul (by omega) h (by omega) (by omega)
        omega
    refine h s (by omega) (by omega) ?_
    rw [hr, Int.mul_emod_left]
theorem upto2 {d : Nat} {Q : Nat → Prop} (h : ∀ j, 2 ≤ j → j < d → Q j) (hd : Q d) : ∀ j, 2 ≤ j → j < d + 1 → Q j := fun j h2 hj => by
  rcases Nat.lt_or_ge j d with hl | hg
  · exact h j h2 hl
  · obtain rfl : j = d := by omega
    exact hd
section
variable {S : Ids} {H0 : AH}
theorem isPrime (p : Int) : Spec Tryz.prog S H0 141 [.int .i64 p] (fun v => v = .bool (tv (PrimeP p))) := by
  refine Spec.of1 Tryz.func141 rfl (by kernel_rfl) rfl (fun H _ => ?_)
  refine KW.lp rfl rfl (fun d : Nat => [(0, .int .i64 p), (3, .int .i64 d)]) (fun d => (2 ≤ d ∧ d ≤ 6) ∧ ∀ j : Nat, 2 ≤ j → j < d → ¬ p % j = 0) (fun d => 6 - d) (2) (⟨by omega, fun j h h' => by omega⟩) ⟨rfl, rfl, trivial⟩ (fun d hi bE n => ?_)
  obtain ⟨hd, hi⟩ := hi
  have hdd : (d : Int) * d ≤ 36 := by
    have : (d : Int) * d ≤ 6 * 6 := Int.mul_le_mul (by omega) (by omega) (by omega) (by omega)
    omega
  have hdd' : 0 ≤ (d : Int) * d := Int.mul_nonneg (by omega) (by omega)
  have ew : IntKind.i64.wrap ((d : Int) * d) = d * d := wr (by omega) (by omega)
  have fin : ¬ (d : Int) * d ≤ p ∨ ¬ p ≤ 31 → (decide (2 ≤ p ∧ p ≤ 31) : Bool) = tv (PrimeP p) := fun hx => by
    rw [tv_dec]
    refine tv_congr ⟨fun h => ?_, fun h => ⟨h.1, h.2.1⟩⟩
    exact prime_of h.1 h.2 hd.1 (hx.resolve_right (fun hc => hc h.2)) hi
  refine KW.tst rfl rfl (fun h => ?_) (fun h => ?_)
  · rw [ew] at h
    refine KW.cnd rfl rfl (fun h1 => ?_) (fun h1 => ?_)
    · refine KW.rem rfl rfl rfl rfl rfl rfl (by omega) (by omega) ?_
      refine KW.cndB rfl rfl (fun h2 => ?_) (fun h2 => ?_)
      · have hdp : (d : Int) < p := by
          have : (d : Int) * 2 ≤ d * d := Int.mul_le_mul_of_nonneg_left (by omega) (by omega)
          omega
        exact KW.ret rfl rfl rfl rfl (by rw [tv_false (fun hp => hp.2.2 d hd.1 hdp (by simpa using h2))]; rfl)
      · have h2 : ¬ p % (d : Int) = 0 := by simpa using h2
        have hd5 : d ≤ 5 := by
          rcases Nat.lt_or_ge d 6 with h | h
          · omega
          · have : (6 : Int) * 6 ≤ d * d := Int.mul_le_mul (by omega) (by omega) (by omega) (by omega)
            omega
        refine KW.nxt rfl rfl (fun H' g => ⟨d + 1, ⟨by omega, upto2 hi h2⟩, by first | omega | (simp only; omega), ⟨rfl, congrArg (Value.int .i64) (inc64 (by omega)), trivial⟩, g⟩)
    · refine KW.callE rfl rfl rfl rfl rfl (within _ _ _) (fun _ _ => ?_)
      exact KW.ret rfl rfl rfl rfl (congrArg Value.bool (fin (.inr h1)))
  · rw [ew] at h
    refine KW.cF rfl rfl (by first | (simp; done) | decide) ?_
    refine KW.callE rfl rfl rfl rfl rfl (within _ _ _) (fun _ _ => ?_)
    exact KW.ret rfl rfl rfl rfl (congrArg Value.bool (fin (.inl h)))
theorem specIsPrime (p : Int) : Spec Tryz.prog S H0 157 [.int .i64 p] (fun v => v = .bool (tv (PrimeP p))) := by
  refine Spec.of1 Tryz.func157 rfl (by kernel_rfl) rfl (fun H _ => ?_)
  refine KW.callE rfl rfl rfl rfl rfl (l00In _ _ _) (fun _ _ => ?_)
  refine KW.cndB rfl rfl (fun h => ?_) (fun h => ?_)
  · exact KW.ret rfl rfl rfl rfl (by rw [tv_false (fun hp => by have := hp.1; have := hp.2.1; simp at h; omega)]; rfl)
  have h : 2 ≤ p ∧ p ≤ 31 := by simpa using h
  refine KW.lp rfl rfl (fun d : Nat => [(0, .int .i64 p), (3, .int .i64 d)]) (fun d => (2 ≤ d ∧ (d : Int) ≤ p) ∧ ∀ j : Nat, 2 ≤ j → j < d → ¬ p % j = 0) (fun d => 32 - d) (2) (⟨by omega, fun j h h' => by omega⟩) ⟨rfl, rfl, trivial⟩ (fun d hi bE n => ?_)
  obtain ⟨hd, hi⟩ := hi
  refine KW.cnd rfl rfl (fun h1 => ?_) (fun h1 => ?_)
  · refine KW.rem rfl rfl rfl rfl rfl rfl (by omega) (by omega) ?_
    refine KW.cndB rfl rfl (fun h2 => ?_) (fun h2 => ?_)
    · exact KW.ret rfl rfl rfl rfl (by rw [tv_false (fun hp => hp.2.2 d hd.1 h1 (by simpa using h2))]; rfl)
    · refine KW.nxt rfl rfl (fun H' g => ⟨d + 1, ⟨by omega, upto2 hi (by simpa using h2)⟩, by first | omega | (simp only; omega), ⟨rfl, congrArg (Value.int .i64) (inc64 (by omega)), trivial⟩, g⟩)
  · exact KW.ret rfl rfl rfl rfl (by rw [tv_true (p := PrimeP p) ⟨h.1, h.2, fun j h2 hj => hi j h2 (by omega)⟩]; rfl)
/-- All are elements of the field. -/
def Elems (p : Int) (xs : List Int) : Prop := ∀ x ∈ xs, 0 ≤ x ∧ x ≤ p - 1
theorem areElements1 (p y : Int) (hp : I64 p) (hy : p ≠ -9223372036854775808) {id : Nat} {b : Blk} (hb : b.cells = [.int .i64 p]) (hv : S id ∧ H0.m id = some b) : Spec Tryz.prog S H0 142 [.int .i64 y, .pointer (some ⟨id, 0, none⟩)] (fun v => v = .bool (!decide (0 ≤ y ∧ y ≤ p - 1))) := by
  refine Spec.of1 Tryz.func142 rfl (by kernel_rfl) rfl (fun H _ => ?_)
  obtain ⟨hS1, hm1⟩ := On.blk (S' := Low H.n) (H' := H) hv.1 hv.2
  obtain ⟨ty, rw, cs⟩ := b
  subst hb
  refine KW.ldP hS1 hm1 rfl rfl rfl rfl rfl rfl ?_
  refine KW.callE rfl rfl rfl rfl rfl (within _ _ _) (fun _ _ => ?_)
  have e : IntKind.i64.wrap (p - 1) = p - 1 := wr (by have := hp.1; omega) (by have := hp.2; omega)
  refine KW.ret rfl rfl rfl rfl ?_
  rw [e]; rfl
theorem areElements (p : Int) (hp : I64 p) {a c} {xs : List Int} (hl : xs.length ≤ 4611686018427387904) (hs : KI.Sl S H0 (.slice a xs.length c) xs) : Spec Tryz.prog S H0 109 [.int .i64 p, .slice a xs.length c] (fun v => v = .bool (tv (PrimeP p ∧ Elems p xs))) := by
  refine Spec.of1 Tryz.func109 rfl (by kernel_rfl) rfl (fun H _ => ?_)
  refine KW.callE rfl rfl rfl rfl rfl (isPrime p) (fun _ _ => ?_)
  refine KW.tstB rfl rfl (fun h => ?_) (fun h => ?_)
  · have h := tv_iff.1 h
    refine KW.callV1 rfl rfl rfl rfl rfl (fun H1 g _ => containsFuncI (p := fun y => !decide (0 ≤ y ∧ y ≤ p - 1)) hl hs.up (fun S' H' o y _ => areElements1 p y hp (by have := h.1; omega) rfl (g.var (j := 0) rfl))) (fun _ _ => ?_)
    refine KW.ret rfl rfl rfl rfl ?_
    show Value.bool (!tv (∃ x ∈ xs, (!decide (0 ≤ x ∧ x ≤ p - 1)) = true)) = _
    by_cases hx : Elems p xs
    · rw [tv_true (p := PrimeP p ∧ Elems p xs) ⟨h, hx⟩, tv_false (fun ⟨x, h1, h2⟩ => by have := hx x h1; simp at h2; omega)]; rfl
    · rw [tv_false (p := PrimeP p ∧ Elems p xs) (fun hc => hx hc.2), tv_true ?_]; · rfl
      refine Classical.byContradiction fun hc => hx fun x h1 => ?_
      refine Classical.byContradiction fun h2 => hc ⟨x, h1, by simp; omega⟩
  · exact KW.ret rfl rfl rfl rfl (by rw [tv_false (p := PrimeP p ∧ Elems p xs) (fun hc => by rw [tv_true hc.1] at h; cases h)]; rfl)
end
/-- A matrix that is valid. -/
structure OkMat (p c : Int) (rows : List (List Int)) : Prop where
  pr : PrimeP p
  c0 : 0 ≤ c
  c1 : c ≤ 12
  len : rows.length ≤ 20
  row : ∀ r ∈ rows, (r.length : Int) = c ∧ Elems p r
theorem tvn {q : Prop} {b : Bool} (h : b = false) (h' : q → b = true) : Value.bool false = .bool (tv q) := by rw [tv_false (fun hq => by rw [h' hq] at h; cases h)]
section
variable {S : Ids} {H0 : AH}
theorem validMatrix1 (p c : Int) (hp : I64 p) {y : List Int} (hl : y.length ≤ 1048576) {a m} (hs : KI.Sl S H0 (.slice a y.length m) y) {id : Nat} {b : Blk} {v : Value} (hb : b.cells = [.int .i64 p, .int .i64 c, v]) (hv : S id ∧ H0.m id = some b) :
    Spec Tryz.prog S H0 161 [.slice a y.length m, .pointer (some ⟨id, 0, none⟩)] (fun v => v = .bool (!tv ((y.length : Int) = c ∧ (PrimeP p ∧ Elems p y)))) := by
  refine Spec.of1 Tryz.func161 rfl (by kernel_rfl) rfl (fun H _ => ?_)
  obtain ⟨hS1, hm1⟩ := On.blk (S' := Low H.n) (H' := H) hv.1 hv.2
  obtain ⟨ty, rw, cs⟩ := b
  subst hb
  refine KW.ldP hS1 hm1 rfl rfl rfl rfl rfl rfl ?_
  refine KW.tstB rfl rfl (fun h => ?_) (fun h => ?_)
  · exact KW.ret rfl rfl rfl rfl (by rw [tv_false (p := (y.length : Int) = c ∧ (PrimeP p ∧ Elems p y)) (fun hc => by rw [hc.1] at h; simp at h)]; rfl)
  · have h : (y.length : Int) = c := by simpa using h
    refine KW.ldP hS1 hm1 rfl rfl rfl rfl rfl rfl ?_
    refine KW.callE rfl rfl rfl rfl rfl (areElements p hp (by omega) hs.up) (fun _ _ => ?_)
    refine KW.ret rfl rfl rfl rfl ?_
    rw [tv_congr (q := (y.length : Int) = c ∧ (PrimeP p ∧ Elems p y)) ⟨fun hx => ⟨h, hx⟩, fun hx => hx.2⟩]; rfl
theorem validMatrix (p c : Int) (hp : I64 p) {a m} {rows : List (List Int)} (hB : B_Int64SS rows) (hs : KI.sl.Sl S H0 (.slice a rows.length m) rows) :
    Spec Tryz.prog S H0 138 [.agg #[.int .i64 p, .int .i64 c, .slice a rows.length m]] (fun v => v = .bool (tv (OkMat p c rows))) := by
  refine Spec.of1 Tryz.func138 rfl (by kernel_rfl) rfl (fun H _ => ?_)
  refine KW.callE rfl rfl rfl rfl rfl (isPrime p) (fun _ _ => ?_)
  refine KW.tstB rfl rfl (fun h1 => ?_) (fun h1 => ?_)
  · have k1 := tv_iff.1 h1
    refine KW.callE rfl rfl rfl rfl rfl (within _ _ _) (fun _ _ => ?_)
    refine KW.tstB rfl rfl (fun h2 => ?_) (fun h2 => ?_)
    · have k2 : 0 ≤ c ∧ c ≤ 12 := by simpa using h2
      refine KW.tst rfl rfl (fun h3 => ?_) (fun h3 => ?_)
      · have h3 : (rows.length : Int) ≤ 20 := h3
        refine KW.callV1 rfl rfl rfl rfl rfl (fun H1 g _ => containsFuncL (p := fun y => !tv ((y.length : Int) = c ∧ (PrimeP p ∧ Elems p y))) (by omega) hs.up (fun S' H' o y hy a c hsy => validMatrix1 p _ hp (hB.each y hy) hsy rfl (g.var (j := 0) rfl))) (fun _ _ => ?_)
        refine KW.ret rfl rfl rfl rfl ?_
        show Value.bool (!tv (∃ x ∈ rows, (!tv ((x.length : Int) = c ∧ (PrimeP p ∧ Elems p x))) = true)) = _
        by_cases hx : OkMat p c rows
        · rw [tv_true hx, tv_false (fun ⟨x, h1, h2⟩ => by rw [tv_true ⟨(hx.row x h1).1, k1, (hx.row x h1).2⟩] at h2; cases h2)]; rfl
        · rw [tv_false hx, tv_true ?_]; · rfl
          refine Classical.byContradiction fun hc => hx ⟨k1, k2.1, k2.2, by omega, fun x h1 => ?_⟩
          refine Classical.byContradiction fun h2 => hc ⟨x, h1, by rw [tv_false (fun h => h2 ⟨h.1, h.2.2⟩)]; rfl⟩
      · have h3 : ¬ (rows.length : Int) ≤ 20 := h3
        exact KW.ret rfl rfl rfl rfl (by rw [tv_false (p := OkMat p c rows) (fun hc => by have := hc.len; omega)]; rfl)
    · have k2 : ¬ (0 ≤ c ∧ c ≤ 12) := by simpa using h2
      repeat first | refine KW.tT rfl rfl rfl ?_ | refine KW.tF rfl rfl rfl ?_
      exact KW.ret rfl rfl rfl rfl (by rw [tv_false (p := OkMat p c rows) (fun hc => k2 ⟨hc.c0, hc.c1⟩)]; rfl)
  · repeat first | refine KW.tT rfl rfl rfl ?_ | refine KW.tF rfl rfl rfl ?_
    exact KW.ret rfl rfl rfl rfl (by rw [tv_false (p := OkMat p c rows) (fun hc => by rw [tv_true hc.pr] at h1; cases h1)]; rfl)
theorem l03Row (p c : Int) (hp : I64 (p - 1)) {a m} {xs : List Int} (hl : xs.length ≤ 1048576) (hs : KI.Sl S H0 (.slice a xs.length m) xs) :
    Spec Tryz.prog S H0 97 [.int .i64 p, .int .i64 c, .slice a xs.length m] (fun v => v = .bool (tv ((xs.length : Int) = c ∧ Elems p xs))) := by
  refine Spec.of1 Tryz.func97 rfl (by kernel_rfl) rfl (fun H _ => ?_)
  have ep : IntKind.i64.wrap (p - 1) = p - 1 := wr (by have := hp.1; omega) (by have := hp.2; omega)
  refine KW.lp rfl rfl (fun i : Nat => [(0, .int .i64 p), (1, .int .i64 c), (2, .slice a xs.length m), (7, .int .i64 i)]) (fun i => i ≤ xs.length ∧ ∀ j, j < i → ∀ x, xs[j]? = some x → 0 ≤ x ∧ x ≤ p - 1) (fun i => xs.length - i) (0) (⟨by omega, fun j h => absurd h (by omega)⟩) ⟨rfl, rfl, rfl, rfl, trivial⟩ (fun i hi bE n => ?_)
  obtain ⟨hi, hj⟩ := hi
  refine KW.cnd rfl rfl (fun h => ?_) (fun h => ?_)
  · refine KW.getI hs.up rfl rfl rfl rfl rfl rfl rfl rfl rfl rfl rfl rfl rfl rfl rfl rfl (by omega) (h) (fun y hy => ?_)
    have hy : xs[i]? = some y := hy
    refine KW.callE rfl rfl rfl rfl rfl (l00In _ _ _) (fun _ _ => ?_)
    rw [ep]
    refine KW.cndB rfl rfl (fun h2 => ?_) (fun h2 => ?_)
    · have h2 : ¬ (0 ≤ y ∧ y ≤ p - 1) := by simp at h2; omega
      exact KW.ret rfl rfl rfl rfl (by rw [tv_false (p := (xs.length : Int) = c ∧ Elems p xs) (fun hc => h2 (hc.2 y (List.mem_of_getElem? hy)))]; rfl)
    · refine KW.nxt rfl rfl (fun H' g => ⟨i + 1, ⟨by omega, upto hj (fun z hz => by rw [hy] at hz; cases hz; simpa using h2)⟩, by first | omega | (simp only; omega), ⟨rfl, rfl, rfl, congrArg (Value.int .i64) (inc64 (by omega)), trivial⟩, g⟩)
  · refine KW.ret rfl rfl rfl rfl ?_
    show Value.bool (((xs.length : Nat) : Int) == c) = _
    congr 1
    have hE : Elems p xs := fun x hx => by
      obtain ⟨j, hjx⟩ := List.getElem?_of_mem hx
      exact hj j (by have := (List.getElem?_eq_some_iff.1 hjx).1; omega) x hjx
    by_cases hc : ((xs.length : Nat) : Int) = c
    · rw [tv_true ⟨hc, hE⟩, hc]; simp
    · rw [tv_false (fun h => hc h.1)]; simpa using hc
end
/-- A block that has so and so standing from a place on. -/
def Has3 (S : Ids) (H : AH) (id k : Nat) (vs : List Value) : Prop := S id ∧ ∃ b, H.m id = some b ∧ ∀ i v, vs[i]? = some v → b.cells[k + i]? = some v
theorem Has3.up {S S' : Ids} {H H' : AH} {id k : Nat} {vs : List Value} [o : On S H S' H'] (h : Has3 S H id k vs) : Has3 S' H' id k vs := by
  obtain ⟨h1, b, h2, h3⟩ := h
  obtain ⟨h4, h5⟩ := On.blk (S' := S') (H' := H') h1 h2
  exact ⟨h4, b, h5, h3⟩
section
variable {P : Program} {S : Ids} {H0 : AH} {Q : PostC} {k k1 : List It} {e e1 : Env} {T T1 : List Var} {n n1 : Nat} {l1 r1 : List Nat} {d1 : Tmp}
/-- A field is read by a pointer. -/
theorem KW.ldF {o : Oper} {dr : Bool} {t : TypeId} {x : Operand} {id kk k0 : Nat} {vs : List Value} {sp : Option Nat} {v : Value} {td : TypeDesc} (i : Nat) (hv : Has3 S H0 id k0 vs) (h : Go1 P k e T n (.op o dr) k1 e1 T1 n1 l1 r1) (hlr : l1 = r1) (ho : o.op = .load t x) (hd : o.dst = some d1) (hx : ev e1 x = .pointer (some ⟨id, kk, sp⟩)) (hk0 : kk = k0 + i) (hi : vs[i]? = some v)
    (hu : P.underlying t = some td) (hnot : (match td with | .struct _ => false | .array _ _ => false | _ => true) = true) (hk : KW P S H0 Q n1 T1 k1 (put1 e1 d1 v)) : KW P S H0 Q n T k e := by
  obtain ⟨hS, b, hm, hc⟩ := hv
  exact KW.ldP hS hm h hlr ho hd hx (bload_at (by rw [hk0]; exact hc i v hi) hu hnot) hk
end
section
variable {S : Ids} {H0 : AH}
theorem l03Ok (p c : Int) (hp : I64 p) {id k : Nat} {a m} {rows : List (List Int)} (hB : B_Int64SS rows) (hv : Has3 S H0 id k [.int .i64 p, .int .i64 c, .slice a rows.length m]) (hs : KI.sl.Sl S H0 (.slice a rows.length m) rows) :
    Spec Tryz.prog S H0 134 [.pointer (some ⟨id, k, none⟩)] (fun v => v = .bool (tv (OkMat p c rows))) := by
  refine Spec.of1 Tryz.func134 rfl (by kernel_rfl) rfl (fun H _ => ?_)
  have hv := hv.up (S' := Low H.n) (H' := H)
  have hs := hs.up (S' := Low H.n) (H' := H)
  refine KW.ldF 0 hv rfl rfl rfl rfl rfl rfl rfl rfl rfl ?_
  refine KW.callE rfl rfl rfl rfl rfl (specIsPrime p) (fun _ _ => ?_)
  refine KW.tstB rfl rfl (fun h1 => ?_) (fun h1 => ?_)
  · repeat first | refine KW.tT rfl rfl rfl ?_ | refine KW.tF rfl rfl rfl ?_
    refine KW.cT rfl rfl (by first | (simp; done) | decide) ?_
    exact KW.ret rfl rfl rfl rfl (by rw [tv_false (p := OkMat p c rows) (fun hc => by rw [tv_true hc.pr] at h1; cases h1)]; rfl)
  have k1 : PrimeP p := tv_iff.1 (by simpa using h1)
  refine KW.ldF 1 hv rfl rfl rfl rfl rfl rfl rfl rfl rfl ?_
  refine KW.callE rfl rfl rfl rfl rfl (l00In _ _ _) (fun _ _ => ?_)
  refine KW.tstB rfl rfl (fun h2 => ?_) (fun h2 => ?_)
  · have k2 : ¬ (0 ≤ c ∧ c ≤ 12) := by simp at h2; omega
    repeat first | refine KW.tT rfl rfl rfl ?_ | refine KW.tF rfl rfl rfl ?_
    refine KW.cT rfl rfl (by first | (simp; done) | decide) ?_
    exact KW.ret rfl rfl rfl rfl (by rw [tv_false (p := OkMat p c rows) (fun hc => k2 ⟨hc.c0, hc.c1⟩)]; rfl)
  have k2 : 0 ≤ c ∧ c ≤ 12 := by simpa using h2
  refine KW.ldF 2 hv rfl rfl rfl rfl rfl rfl rfl rfl rfl ?_
  refine KW.cnd rfl rfl (fun h3 => ?_) (fun h3 => ?_)
  · have h3 : (rows.length : Int) > 20 := h3
    exact KW.ret rfl rfl rfl rfl (by rw [tv_false (p := OkMat p c rows) (fun hc => by have := hc.len; omega)]; rfl)
  have h3 : ¬ (rows.length : Int) > 20 := h3
  refine KW.lp rfl rfl (fun i : Nat => [(0, .pointer (some ⟨id, k, none⟩)), (3, .int .i64 i)]) (fun i => i ≤ rows.length ∧ ∀ j, j < i → ∀ x, rows[j]? = some x → (x.length : Int) = c ∧ Elems p x) (fun i => rows.length - i) (0) (⟨by omega, fun j h => absurd h (by omega)⟩) ⟨rfl, rfl, trivial⟩ (fun i hi bE n => ?_)
  obtain ⟨hi, hj⟩ := hi
  refine KW.ldF 2 hv rfl rfl rfl rfl rfl rfl rfl rfl rfl ?_
  refine KW.cnd rfl rfl (fun h => ?_) (fun h => ?_)
  · refine KW.ldF 0 hv rfl rfl rfl rfl rfl rfl rfl rfl rfl ?_
    refine KW.ldF 1 hv rfl rfl rfl rfl rfl rfl rfl rfl rfl ?_
    refine KW.ldF 2 hv rfl rfl rfl rfl rfl rfl rfl rfl rfl ?_
    refine KW.getL hs.up rfl rfl rfl rfl rfl rfl rfl rfl rfl rfl rfl rfl rfl rfl rfl rfl (by omega) (h) (fun y a' m' hy hsy => ?_)
    have hy : rows[i]? = some y := hy
    refine KW.callE rfl rfl rfl rfl rfl (l03Row p c (by unfold I64 at *; have := k1.1; omega) (hB.each y (List.mem_of_getElem? hy)) hsy) (fun _ _ => ?_)
    refine KW.cndB rfl rfl (fun h4 => ?_) (fun h4 => ?_)
    · exact KW.ret rfl rfl rfl rfl (by rw [tv_false (p := OkMat p c rows) (fun hc => by rw [tv_true (hc.row y (List.mem_of_getElem? hy))] at h4; cases h4)]; rfl)
    · have h4 := tv_iff.1 (by simpa using h4)
      refine KW.nxt rfl rfl (fun H' g => ⟨i + 1, ⟨by omega, upto hj (fun z hz => by rw [hy] at hz; cases hz; exact h4)⟩, by first | omega | (simp only; omega), ⟨rfl, congrArg (Value.int .i64) (inc64 (by omega)), trivial⟩, g⟩)
  · have hE : ∀ x ∈ rows, (x.length : Int) = c ∧ Elems p x := fun x hx => by
      obtain ⟨j, hjx⟩ := List.getElem?_of_mem hx
      exact hj j (by have := (List.getElem?_eq_some_iff.1 hjx).1; omega) x hjx
    exact KW.ret rfl rfl rfl rfl (by rw [tv_true (p := OkMat p c rows) ⟨k1, k2.1, k2.2, by omega, hE⟩]; rfl)
end
end Go.Proofs.YtijmkfnmdhpakaaGreat.Am
/- What the laws' own functions do at Matrix: sizes, copies, equality, marks. Each holds under its own conditions. -/
set_option linter.unusedVariables false
set_option maxRecDepth 20000
namespace Go.Proofs.YtijmkfnmdhpakaaGreat.Am
open Go Go.RowKit Go.Proofs
abbrev T_Matrix : Type := (Int) × (Int) × (List (List Int))
abbrev K_Matrix : Kn T_Matrix := Kn.pair (KI) (Kn.pair (KI) (K_Int64SS))
abbrev M_Matrix : Kn T_Matrix := Kn.mp (KI) (Kn.mp (KI) (M_Int64SS))
theorem le_Matrix : KLe M_Matrix K_Matrix := KLe.pair ((KLe.refl KI)) (KLe.pair ((KLe.refl KI)) (le_Int64SS))
abbrev B_Matrix (x : T_Matrix) : Prop := I64 x.1 ∧ I64 x.2.1 ∧ B_Int64SS x.2.2
abbrev W_Matrix (x : T_Matrix) : Prop := I64 x.1 ∧ I64 x.2.1 ∧ W_Int64SS x.2.2
abbrev sz_Matrix (x : T_Matrix) : Nat := sz_Int64SS x.2.2
abbrev mk_Matrix (k : Int) (x : T_Matrix) : T_Matrix := (x.1, x.2.1, mk_Int64SS (k) x.2.2)
theorem size_Matrix {x : T_Matrix} (hB : B_Matrix x) : sz_Matrix x ≤ 1048576 := by have := size_Int64SS hB.2.2; simp only [sz_Matrix]; omega
section
variable {S : Ids} {H0 : AH} {W : Ids} {left k : Int}
theorem form_Matrix {x : T_Matrix} {cs : List Value} (h : K_Matrix.R S H0 x cs) : ∃ a1 c1, cs = [.int .i64 x.1, .int .i64 x.2.1, .slice a1 x.2.2.length c1] := by
  obtain ⟨e0, d0, rfl, h0, h0_⟩ := h
  obtain ⟨e1, d1, rfl, h1, h1_⟩ := h0_
  have h2 := h1_
  obtain rfl := KI_of h0
  obtain rfl := KI_of h1
  obtain ⟨a1, c1, rfl⟩ := slform h2
  exact ⟨a1, c1, rfl⟩
theorem formM_Matrix {x : T_Matrix} {cs : List Value} (h : M_Matrix.R S H0 x cs) : ∃ a1 c1, cs = [.int .i64 x.1, .int .i64 x.2.1, .slice a1 x.2.2.length c1] := form_Matrix (le_Matrix.2 _ _ _ _ h)
theorem split_Matrix {x : T_Matrix} {cs : List Value} (h : K_Matrix.R S H0 x cs) : ∃ a1 c1, cs = [.int .i64 x.1, .int .i64 x.2.1, .slice a1 x.2.2.length c1] ∧ K_Int64SS.R S H0 x.2.2 [.slice a1 x.2.2.length c1] := by
  obtain ⟨e0, d0, rfl, h0, h0_⟩ := h
  obtain ⟨e1, d1, rfl, h1, h1_⟩ := h0_
  have h2 := h1_
  obtain rfl := KI_of h0
  obtain rfl := KI_of h1
  obtain ⟨a1, c1, rfl⟩ := slform h2
  exact ⟨a1, c1, rfl, h2⟩
theorem splitM_Matrix {x : T_Matrix} {cs : List Value} (h : M_Matrix.R S H0 x cs) : ∃ (a1 : Option Addr) (c1 : Nat) (X2 : Ids), cs = [.int .i64 x.1, .int .i64 x.2.1, .slice a1 x.2.2.length c1] ∧ M_Int64SS.R X2 H0 x.2.2 [.slice a1 x.2.2.length c1] ∧ (∀ id, X2 id → S id) := by
  obtain ⟨e0, d0, X0, Y0, rfl, i0, j0, q0, h0, h0_⟩ := h
  obtain ⟨e1, d1, X1, Y1, rfl, i1, j1, q1, h1, h1_⟩ := h0_
  have h2 := h1_
  obtain rfl := KI_of h0
  obtain rfl := KI_of h1
  obtain ⟨a1, c1, rfl⟩ := mlform h2
  exact ⟨a1, c1, Y1, rfl, h2, fun _ p => j0 _ (j1 _ p)⟩
theorem to_Matrix {x : T_Matrix} {cs : List Value} (hB : B_Matrix x) (h : K_Matrix.R S H0 x cs) : SpecM Tryz.prog S H0 71 [.agg cs.toArray] (fun n v H1 => ∃ cs, v = .agg cs.toArray ∧ M_Matrix.R (New n H1.n) H1 x cs) := by
  obtain ⟨a1, c1, rfl, h2⟩ := split_Matrix h
  refine SpecM.of1 Tryz.func71 rfl (by kernel_rfl) rfl (fun H _ => ?_)
  refine KW.callN1 rfl rfl rfl rfl rfl (to_Int64SS hB.2.2 (On.R h2)) (fun v G2 S2 m2 _ _ hv => ?_)
  obtain ⟨b2, d2, rfl, g2⟩ := hv
  refine KW.retM1 rfl rfl rfl rfl (fun H1 g => ?_)
  refine ⟨_, rfl, ?_⟩
  have k2 : M_Int64SS.R (New H.n H1.n) H1 x.2.2 [.slice b2 x.2.2.length d2] := (M_Int64SS).more (g.inn (H := G2) (fun _ p => by have := p.1; omega)) (g.keep g2)
  have k1 : (Kn.mp (KI) (M_Int64SS)).R (New H.n H1.n) H1 (x.2) [.int .i64 x.2.1, .slice b2 x.2.2.length d2] := mpR (X := None_) (show KI.R None_ H1 _ [.int .i64 x.2.1] from rfl) k2 (fun _ p => p.elim) (fun _ p => p) (fun _ p _ => p.elim)
  have k0 : (Kn.mp (KI) (Kn.mp (KI) (M_Int64SS))).R (New H.n H1.n) H1 (x) [.int .i64 x.1, .int .i64 x.2.1, .slice b2 x.2.2.length d2] := mpR (X := None_) (show KI.R None_ H1 _ [.int .i64 x.1] from rfl) k1 (fun _ p => p.elim) (fun _ p => p) (fun _ p _ => p.elim)
  exact k0
theorem eq_Matrix {x : T_Matrix} {cs cs' : List Value} (hB : B_Matrix x) (h : K_Matrix.R S H0 x cs) (h' : K_Matrix.R S H0 x cs') : Spec Tryz.prog S H0 78 [.agg cs.toArray, .agg cs'.toArray] (fun v => v = .bool true) := by
  obtain ⟨a1, c1, rfl, h2⟩ := split_Matrix h
  obtain ⟨b1, d1, rfl, k2⟩ := split_Matrix h'
  refine Spec.of1 Tryz.func78 rfl (by kernel_rfl) rfl (fun H _ => ?_)
  refine KW.cF rfl rfl (by first | (simp; done) | decide) ?_
  refine KW.cF rfl rfl (by first | (simp; done) | decide) ?_
  refine KW.callE rfl rfl rfl rfl rfl (eq_Int64SS hB.2.2 (On.R h2) (On.R k2)) (fun _ _ => ?_)
  refine KW.cF rfl rfl (by first | (simp; done) | decide) ?_
  exact KW.ret rfl rfl rfl rfl (rfl)
theorem sz_Matrix' {x : T_Matrix} {cs : List Value} (l0 : 0 ≤ left) (l1 : left ≤ 1048576) (hW : W_Matrix x) (h : K_Matrix.R S H0 x cs) : Spec Tryz.prog S H0 66 [.agg cs.toArray, .int .i64 left] (SzPost left (B_Matrix x)) := by
  obtain ⟨a1, c1, rfl, h2⟩ := split_Matrix h
  refine Spec.of1 Tryz.func66 rfl (by kernel_rfl) rfl (fun H _ => ?_)
  refine KW.call rfl rfl rfl rfl rfl (sz_Int64SS' l0 l1 hW.2.2 (On.R h2)) (fun v _ _ hv => ?_)
  obtain ⟨r2, rfl, k2⟩ := hv
  refine KW.cnd rfl rfl (fun h => KW.ret rfl rfl rfl rfl ⟨-1, rfl, .inl rfl⟩) (fun h => ?_)
  have k2 := k2.resolve_left (by omega)
  exact KW.ret rfl rfl rfl rfl (⟨_, rfl, .inr ⟨k2.1, by have := k2.2.1; omega, hW.1, hW.2.1, k2.2.2⟩⟩)
theorem mark_Matrix {x : T_Matrix} {cs : List Value} (hB : B_Matrix x) (hk : Mk k (sz_Matrix x)) (hW : ∀ id, W id → S id) (h : M_Matrix.R W H0 x cs) : SpecW Tryz.prog S H0 W 79 [.agg cs.toArray, .int .i64 k] (fun n v H1 => v = .int .i64 (k + (sz_Matrix x : Nat)) ∧ M_Matrix.R W H1 (mk_Matrix k x) cs) := by
  obtain ⟨a1, c1, X2, rfl, h2, i2⟩ := splitM_Matrix h
  refine SpecW.of0 Tryz.func79 rfl (by kernel_rfl) rfl (fun H hfin hfz => ?_)
  have F2 : Fk M_Int64SS X2 (Low H.n) H _ _ := ⟨(M_Int64SS).same (fun id hid => (hfz id (hW id (i2 id hid))).2) h2, fun id hid => (hfz id (hW id (i2 id hid))).1⟩
  have T : ∀ id, id < H.n → Low H.n id ∧ (¬ W id → H.m id = H.m id) := fun id hid => ⟨hid, fun _ => rfl⟩
  refine KW.callW F2.i rfl rfl rfl rfl rfl (mark_Int64SS hB.2.2 (k := k) (by have := hk.1; have := hk.2; simp only [sz_Matrix] at this; constructor <;> omega) F2.i F2.r) (fun v H2 S2 m2 t2 w2 hv => ?_)
  obtain ⟨rfl, g2⟩ := hv
  have F2 : Fk M_Int64SS X2 S2 H2 _ _ := ⟨g2, fun id hid => (t2 id (F2.i id hid)).1⟩
  have T : ∀ id, id < H.n → S2 id ∧ (¬ W id → H2.m id = H.m id) := fun id hid => ⟨(t2 id (T id hid).1).1, fun hw => ((t2 id (T id hid).1).2 (fun o => hw (i2 id o))).trans ((T id hid).2 hw)⟩
  refine KW.retW rfl rfl rfl rfl (fun H1 g => by have := g.n_; omega) (fun id hid hw => ⟨(T id hid).1, (T id hid).2 hw⟩) (fun H1 g => ?_)
  refine ⟨rfl, ?_⟩
  have G2 := (M_Int64SS).same (H' := H1) (fun id hid => (g.froz id (F2.i id hid)).2) F2.r
  have k2 : M_Int64SS.R (fun id => X2 id) H1 (mk_Int64SS (k) x.2.2) [.slice a1 x.2.2.length c1] := G2
  have k1 : (Kn.mp (KI) (M_Int64SS)).R (fun id => X2 id) H1 (x.2.1, (mk_Int64SS (k) x.2.2)) [.int .i64 x.2.1, .slice a1 x.2.2.length c1] := mpR (X := None_) (show KI.R None_ H1 _ [.int .i64 x.2.1] from rfl) k2 (fun _ p => p.elim) (fun _ p => p) (fun _ p _ => p.elim)
  have k0 : (Kn.mp (KI) (Kn.mp (KI) (M_Int64SS))).R (fun id => X2 id) H1 (x.1, x.2.1, (mk_Int64SS (k) x.2.2)) [.int .i64 x.1, .int .i64 x.2.1, .slice a1 x.2.2.length c1] := mpR (X := None_) (show KI.R None_ H1 _ [.int .i64 x.1] from rfl) k1 (fun _ p => p.elim) (fun _ p => p) (fun _ p _ => p.elim)
  exact (M_Matrix).more (fun id p => i2 id p) k0
end
end Go.Proofs.YtijmkfnmdhpakaaGreat.Am
/- What the laws' own functions do at Scheme: sizes, copies, equality, marks. Each holds under its own conditions. -/
set_option linter.unusedVariables false
set_option maxRecDepth 20000
namespace Go.Proofs.YtijmkfnmdhpakaaGreat.Am
open Go Go.RowKit Go.Proofs
abbrev T_Scheme : Type := (Int) × (List Int) × (T_Matrix)
abbrev K_Scheme : Kn T_Scheme := Kn.pair (KI) (Kn.pair (K_Int64S) (K_Matrix))
abbrev M_Scheme : Kn T_Scheme := Kn.mp (KI) (Kn.mp (M_Int64S) (M_Matrix))
theorem le_Scheme : KLe M_Scheme K_Scheme := KLe.pair ((KLe.refl KI)) (KLe.pair (le_Int64S) (le_Matrix))
abbrev B_Scheme (x : T_Scheme) : Prop := I64 x.1 ∧ B_Int64S x.2.1 ∧ B_Matrix x.2.2
abbrev W_Scheme (x : T_Scheme) : Prop := I64 x.1 ∧ W_Int64S x.2.1 ∧ W_Matrix x.2.2
abbrev sz_Scheme (x : T_Scheme) : Nat := sz_Int64S x.2.1 + sz_Matrix x.2.2
abbrev mk_Scheme (k : Int) (x : T_Scheme) : T_Scheme := (x.1, mk_Int64S (k) x.2.1, mk_Matrix (k + (sz_Int64S x.2.1 : Nat)) x.2.2)
theorem size_Scheme {x : T_Scheme} (hB : B_Scheme x) : sz_Scheme x ≤ 2097152 := by have := size_Int64S hB.2.1; have := size_Matrix hB.2.2; simp only [sz_Scheme]; omega
section
variable {S : Ids} {H0 : AH} {W : Ids} {left k : Int}
theorem form_Scheme {x : T_Scheme} {cs : List Value} (h : K_Scheme.R S H0 x cs) : ∃ a1 c1 a2 c2, cs = [.int .i64 x.1, .slice a1 x.2.1.length c1, .int .i64 x.2.2.1, .int .i64 x.2.2.2.1, .slice a2 x.2.2.2.2.length c2] := by
  obtain ⟨e0, d0, rfl, h0, h0_⟩ := h
  obtain ⟨e1, d1, rfl, h1, h1_⟩ := h0_
  have h2 := h1_
  obtain rfl := KI_of h0
  obtain ⟨a1, c1, rfl⟩ := slform h1
  obtain ⟨a2, c2, rfl⟩ := form_Matrix h2
  exact ⟨a1, c1, a2, c2, rfl⟩
theorem formM_Scheme {x : T_Scheme} {cs : List Value} (h : M_Scheme.R S H0 x cs) : ∃ a1 c1 a2 c2, cs = [.int .i64 x.1, .slice a1 x.2.1.length c1, .int .i64 x.2.2.1, .int .i64 x.2.2.2.1, .slice a2 x.2.2.2.2.length c2] := form_Scheme (le_Scheme.2 _ _ _ _ h)
theorem split_Scheme {x : T_Scheme} {cs : List Value} (h : K_Scheme.R S H0 x cs) : ∃ a1 c1 a2 c2, cs = [.int .i64 x.1, .slice a1 x.2.1.length c1, .int .i64 x.2.2.1, .int .i64 x.2.2.2.1, .slice a2 x.2.2.2.2.length c2] ∧ K_Int64S.R S H0 x.2.1 [.slice a1 x.2.1.length c1] ∧ K_Matrix.R S H0 x.2.2 [.int .i64 x.2.2.1, .int .i64 x.2.2.2.1, .slice a2 x.2.2.2.2.length c2] := by
  obtain ⟨e0, d0, rfl, h0, h0_⟩ := h
  obtain ⟨e1, d1, rfl, h1, h1_⟩ := h0_
  have h2 := h1_
  obtain rfl := KI_of h0
  obtain ⟨a1, c1, rfl⟩ := slform h1
  obtain ⟨a2, c2, rfl⟩ := form_Matrix h2
  exact ⟨a1, c1, a2, c2, rfl, h1, h2⟩
theorem splitM_Scheme {x : T_Scheme} {cs : List Value} (h : M_Scheme.R S H0 x cs) : ∃ (a1 : Option Addr) (c1 : Nat) (a2 : Option Addr) (c2 : Nat) (X1 : Ids) (X2 : Ids), cs = [.int .i64 x.1, .slice a1 x.2.1.length c1, .int .i64 x.2.2.1, .int .i64 x.2.2.2.1, .slice a2 x.2.2.2.2.length c2] ∧ M_Int64S.R X1 H0 x.2.1 [.slice a1 x.2.1.length c1] ∧ M_Matrix.R X2 H0 x.2.2 [.int .i64 x.2.2.1, .int .i64 x.2.2.2.1, .slice a2 x.2.2.2.2.length c2] ∧ (∀ id, X1 id → S id) ∧ (∀ id, X2 id → S id) ∧ (∀ id, X1 id → X2 id → False) := by
  obtain ⟨e0, d0, X0, Y0, rfl, i0, j0, q0, h0, h0_⟩ := h
  obtain ⟨e1, d1, X1, Y1, rfl, i1, j1, q1, h1, h1_⟩ := h0_
  have h2 := h1_
  obtain rfl := KI_of h0
  obtain ⟨a1, c1, rfl⟩ := mlform h1
  obtain ⟨a2, c2, rfl⟩ := formM_Matrix h2
  exact ⟨a1, c1, a2, c2, X1, Y1, rfl, h1, h2, fun _ p => j0 _ (i1 _ p), fun _ p => j0 _ (j1 _ p), fun _ o p => q1 _ o (p)⟩
theorem to_Scheme {x : T_Scheme} {cs : List Value} (hB : B_Scheme x) (h : K_Scheme.R S H0 x cs) : SpecM Tryz.prog S H0 37 [.agg cs.toArray] (fun n v H1 => ∃ cs, v = .agg cs.toArray ∧ M_Scheme.R (New n H1.n) H1 x cs) := by
  obtain ⟨a1, c1, a2, c2, rfl, h1, h2⟩ := split_Scheme h
  refine SpecM.of1 Tryz.func37 rfl (by kernel_rfl) rfl (fun H _ => ?_)
  refine KW.callN1 rfl rfl rfl rfl rfl (to_Int64S hB.2.1 (On.R h1)) (fun v G1 S1 m1 _ _ hv => ?_)
  obtain ⟨b1, d1, rfl, g1⟩ := hv
  refine KW.callN1 rfl rfl rfl rfl rfl (to_Matrix hB.2.2 (On.R h2)) (fun v G2 S2 m2 _ _ hv => ?_)
  obtain ⟨w2, rfl, g2⟩ := hv
  obtain ⟨b2_0, d2_0, rfl⟩ := formM_Matrix g2
  refine KW.retM1 rfl rfl rfl rfl (fun H1 g => ?_)
  refine ⟨_, rfl, ?_⟩
  have k2 : M_Matrix.R (New G1.n H1.n) H1 x.2.2 [.int .i64 x.2.2.1, .int .i64 x.2.2.2.1, .slice b2_0 x.2.2.2.2.length d2_0] := (M_Matrix).more (g.inn (H := G2) (fun _ p => by have := p.1; omega)) (g.keep g2)
  have k1 : (Kn.mp (M_Int64S) (M_Matrix)).R (New H.n H1.n) H1 (x.2) [.slice b1 x.2.1.length d1, .int .i64 x.2.2.1, .int .i64 x.2.2.2.1, .slice b2_0 x.2.2.2.2.length d2_0] := mpR (g.keep g1) k2 (g.inn (H := G1) (fun _ p => by have := p.1; omega)) (fun _ p => ⟨by have := p.1; have := m1; omega, p.2⟩) (fun _ o p => by have := o.2; have := p.1; omega)
  have k0 : (Kn.mp (KI) (Kn.mp (M_Int64S) (M_Matrix))).R (New H.n H1.n) H1 (x) [.int .i64 x.1, .slice b1 x.2.1.length d1, .int .i64 x.2.2.1, .int .i64 x.2.2.2.1, .slice b2_0 x.2.2.2.2.length d2_0] := mpR (X := None_) (show KI.R None_ H1 _ [.int .i64 x.1] from rfl) k1 (fun _ p => p.elim) (fun _ p => p) (fun _ p _ => p.elim)
  exact k0
theorem eq_Scheme {x : T_Scheme} {cs cs' : List Value} (hB : B_Scheme x) (h : K_Scheme.R S H0 x cs) (h' : K_Scheme.R S H0 x cs') : Spec Tryz.prog S H0 44 [.agg cs.toArray, .agg cs'.toArray] (fun v => v = .bool true) := by
  obtain ⟨a1, c1, a2, c2, rfl, h1, h2⟩ := split_Scheme h
  obtain ⟨b1, d1, b2, d2, rfl, k1, k2⟩ := split_Scheme h'
  refine Spec.of1 Tryz.func44 rfl (by kernel_rfl) rfl (fun H _ => ?_)
  refine KW.cF rfl rfl (by first | (simp; done) | decide) ?_
  refine KW.callE rfl rfl rfl rfl rfl (eq_Int64S hB.2.1 (On.R h1) (On.R k1)) (fun _ _ => ?_)
  refine KW.cF rfl rfl (by first | (simp; done) | decide) ?_
  refine KW.callE rfl rfl rfl rfl rfl (eq_Matrix hB.2.2 (On.R h2) (On.R k2)) (fun _ _ => ?_)
  refine KW.cF rfl rfl (by first | (simp; done) | decide) ?_
  exact KW.ret rfl rfl rfl rfl (rfl)
theorem sz_Scheme' {x : T_Scheme} {cs : List Value} (l0 : 0 ≤ left) (l1 : left ≤ 1048576) (hW : W_Scheme x) (h : K_Scheme.R S H0 x cs) : Spec Tryz.prog S H0 31 [.agg cs.toArray, .int .i64 left] (SzPost left (B_Scheme x)) := by
  obtain ⟨a1, c1, a2, c2, rfl, h1, h2⟩ := split_Scheme h
  refine Spec.of1 Tryz.func31 rfl (by kernel_rfl) rfl (fun H _ => ?_)
  refine KW.call rfl rfl rfl rfl rfl (sz_Int64S' l0 l1 hW.2.1 (On.R h1)) (fun v _ _ hv => ?_)
  obtain ⟨r1, rfl, k1⟩ := hv
  refine KW.cnd rfl rfl (fun h => KW.ret rfl rfl rfl rfl ⟨-1, rfl, .inl rfl⟩) (fun h => ?_)
  have k1 := k1.resolve_left (by omega)
  refine KW.call rfl rfl rfl rfl rfl (sz_Matrix' k1.1 (by have := k1.2.1; omega) hW.2.2 (On.R h2)) (fun v _ _ hv => ?_)
  obtain ⟨r2, rfl, k2⟩ := hv
  refine KW.cnd rfl rfl (fun h => KW.ret rfl rfl rfl rfl ⟨-1, rfl, .inl rfl⟩) (fun h => ?_)
  have k2 := k2.resolve_left (by omega)
  exact KW.ret rfl rfl rfl rfl (⟨_, rfl, .inr ⟨k2.1, by have := k1.2.1; have := k2.2.1; omega, hW.1, k1.2.2, k2.2.2⟩⟩)
theorem mark_Scheme {x : T_Scheme} {cs : List Value} (hB : B_Scheme x) (hk : Mk k (sz_Scheme x)) (hW : ∀ id, W id → S id) (h : M_Scheme.R W H0 x cs) : SpecW Tryz.prog S H0 W 48 [.agg cs.toArray, .int .i64 k] (fun n v H1 => v = .int .i64 (k + (sz_Scheme x : Nat)) ∧ M_Scheme.R W H1 (mk_Scheme k x) cs) := by
  obtain ⟨a1, c1, a2, c2, X1, X2, rfl, h1, h2, i1, i2, q1_2⟩ := splitM_Scheme h
  refine SpecW.of0 Tryz.func48 rfl (by kernel_rfl) rfl (fun H hfin hfz => ?_)
  have F1 : Fk M_Int64S X1 (Low H.n) H _ _ := ⟨(M_Int64S).same (fun id hid => (hfz id (hW id (i1 id hid))).2) h1, fun id hid => (hfz id (hW id (i1 id hid))).1⟩
  have F2 : Fk M_Matrix X2 (Low H.n) H _ _ := ⟨(M_Matrix).same (fun id hid => (hfz id (hW id (i2 id hid))).2) h2, fun id hid => (hfz id (hW id (i2 id hid))).1⟩
  have T : ∀ id, id < H.n → Low H.n id ∧ (¬ W id → H.m id = H.m id) := fun id hid => ⟨hid, fun _ => rfl⟩
  refine KW.callW F1.i rfl rfl rfl rfl rfl (mark_Int64S hB.2.1 (k := k) (by have := hk.1; have := hk.2; simp only [sz_Scheme] at this; constructor <;> omega) F1.i F1.r) (fun v H1 S1 m1 t1 w1 hv => ?_)
  obtain ⟨rfl, g1⟩ := hv
  have F1 : Fk M_Int64S X1 S1 H1 _ _ := ⟨g1, fun id hid => (t1 id (F1.i id hid)).1⟩
  have F2 := F2.w t1 (fun id p o => q1_2 id o p)
  have T : ∀ id, id < H.n → S1 id ∧ (¬ W id → H1.m id = H.m id) := fun id hid => ⟨(t1 id (T id hid).1).1, fun hw => ((t1 id (T id hid).1).2 (fun o => hw (i1 id o))).trans ((T id hid).2 hw)⟩
  refine KW.callW F2.i rfl rfl rfl rfl rfl (mark_Matrix hB.2.2 (k := k + (sz_Int64S x.2.1 : Nat)) (by have := hk.1; have := hk.2; simp only [sz_Scheme] at this; constructor <;> omega) F2.i F2.r) (fun v H2 S2 m2 t2 w2 hv => ?_)
  obtain ⟨rfl, g2⟩ := hv
  have F2 : Fk M_Matrix X2 S2 H2 _ _ := ⟨g2, fun id hid => (t2 id (F2.i id hid)).1⟩
  have F1 := F1.w t2 (fun id p o => q1_2 id p o)
  have T : ∀ id, id < H.n → S2 id ∧ (¬ W id → H2.m id = H.m id) := fun id hid => ⟨(t2 id (T id hid).1).1, fun hw => ((t2 id (T id hid).1).2 (fun o => hw (i2 id o))).trans ((T id hid).2 hw)⟩
  refine KW.retW rfl rfl rfl rfl (fun H1 g => by have := g.n_; omega) (fun id hid hw => ⟨(T id hid).1, (T id hid).2 hw⟩) (fun H1 g => ?_)
  have e : k + (sz_Int64S x.2.1 : Nat) + (sz_Matrix x.2.2 : Nat) = k + ((sz_Scheme x : Nat) : Int) := by simp only [sz_Scheme]; omega
  refine ⟨congrArg (Value.int .i64) e, ?_⟩
  have G1 := (M_Int64S).same (H' := H1) (fun id hid => (g.froz id (F1.i id hid)).2) F1.r
  have G2 := (M_Matrix).same (H' := H1) (fun id hid => (g.froz id (F2.i id hid)).2) F2.r
  have k2 : M_Matrix.R (fun id => X2 id) H1 (mk_Matrix (k + (sz_Int64S x.2.1 : Nat)) x.2.2) [.int .i64 x.2.2.1, .int .i64 x.2.2.2.1, .slice a2 x.2.2.2.2.length c2] := G2
  have k1 : (Kn.mp (M_Int64S) (M_Matrix)).R (fun id => X1 id ∨ X2 id) H1 ((mk_Int64S (k) x.2.1), (mk_Matrix (k + (sz_Int64S x.2.1 : Nat)) x.2.2)) [.slice a1 x.2.1.length c1, .int .i64 x.2.2.1, .int .i64 x.2.2.2.1, .slice a2 x.2.2.2.2.length c2] := mpR G1 k2 (fun _ p => .inl p) (fun _ p => .inr p) (fun _ o p => q1_2 _ o p)
  have k0 : (Kn.mp (KI) (Kn.mp (M_Int64S) (M_Matrix))).R (fun id => X1 id ∨ X2 id) H1 (x.1, (mk_Int64S (k) x.2.1), (mk_Matrix (k + (sz_Int64S x.2.1 : Nat)) x.2.2)) [.int .i64 x.1, .slice a1 x.2.1.length c1, .int .i64 x.2.2.1, .int .i64 x.2.2.2.1, .slice a2 x.2.2.2.2.length c2] := mpR (X := None_) (show KI.R None_ H1 _ [.int .i64 x.1] from rfl) k1 (fun _ p => p.elim) (fun _ p => p) (fun _ p _ => p.elim)
  exact (M_Scheme).more (fun id p => by rcases p with p | p <;> first | exact i1 id p | exact i2 id p) k0
end
end Go.Proofs.YtijmkfnmdhpakaaGreat.Am
/- What the laws' own functions do at rows of rows of rows of numbers. Each holds under its own conditions. -/
set_option linter.unusedVariables false
set_option maxRecDepth 20000
namespace Go.Proofs.YtijmkfnmdhpakaaGreat.Am
open Go Go.RowKit Go.Proofs
/-- All cells. -/
abbrev ts_Int64SS (x : List (List Int)) : Nat := x.length + sum (lens x)
theorem sum_le2 {α : Type} {f g : α → Nat} (l : List α) (h : ∀ x, f x ≤ g x) : sum (l.map f) ≤ sum (l.map g) := by
  induction l with
  | nil => exact Nat.le_refl _
  | cons x l ih => have := h x; simp only [List.map_cons, sum]; omega
abbrev K_Int64SSS : Kn (List (List (List Int))) := KI.sl.sl.sl
abbrev M_Int64SSS : Kn (List (List (List Int))) := KI.ml.ml.ml
theorem le_Int64SSS : KLe M_Int64SSS K_Int64SSS := KLe.row le_Int64SS
structure B_Int64SSS (x : List (List (List Int))) : Prop where
  len : x.length ≤ 1048576
  each : ∀ y ∈ x, B_Int64SS y
  tot : sum (x.map sz_Int64SS) ≤ 1048576
abbrev W_Int64SSS (x : List (List (List Int))) : Prop := x.length ≤ 9223372036854775807 ∧ ∀ y ∈ x, W_Int64SS y
abbrev sz_Int64SSS (x : List (List (List Int))) : Nat := sum (x.map sz_Int64SS)
abbrev mk_Int64SSS (k : Int) (x : List (List (List Int))) : List (List (List Int)) := mks mk_Int64SS sz_Int64SS k x
theorem size_Int64SSS {x : List (List (List Int))} (hB : B_Int64SSS x) : sz_Int64SSS x ≤ 1048576 := hB.tot
section
variable {S : Ids} {H0 : AH} {W : Ids} {a a' : Option Addr} {c c' : Nat} {left k : Int}
/-- .. with the very number. -/
theorem szx_Int64SS {x : List (List Int)} (l0 : 0 ≤ left) (l1 : left ≤ 1048576) (hW : W_Int64SS x) (hs : K_Int64SS.R S H0 x [.slice a x.length c]) : Spec Tryz.prog S H0 32 [.slice a x.length c, .int .i64 left] (fun v => ∃ r : Int, v = .int .i64 r ∧ (r = -1 ∨ (0 ≤ r ∧ r = left - ts_Int64SS x ∧ B_Int64SS x))) := by
  have hs := sl1 hs
  have hx := hW.1
  refine Spec.of1 Tryz.func32 rfl (by kernel_rfl) rfl (fun H _ => ?_)
  have e : IntKind.i64.wrap (left - (x.length : Int)) = left - (x.length : Int) := wr (by omega) (by omega)
  refine KW.cnd rfl rfl (fun h => KW.ret rfl rfl rfl rfl ⟨-1, rfl, .inl rfl⟩) (fun h => ?_)
  rw [e] at h
  refine KW.lp rfl rfl (fun s : Nat × Int => [(0, .slice a x.length c), (1, .int .i64 s.2), (5, .int .i64 s.1)]) (fun s => s.1 ≤ x.length ∧ 0 ≤ s.2 ∧ s.2 = left - x.length - (sum ((lens x).take s.1) : Nat)) (fun s => x.length - s.1) ((0, left - x.length)) (⟨by omega, by simp only; omega, by simp [sum]⟩) ⟨rfl, congrArg (Value.int .i64) e, rfl, trivial⟩ (fun s hi bE n => ?_)
  obtain ⟨i, r⟩ := s
  obtain ⟨hi, hr0, hr1⟩ := hi
  simp only at hi hr0 hr1
  refine KW.cnd rfl rfl (fun h2 => ?_) (fun h2 => KW.ret rfl rfl rfl rfl ⟨_, rfl, .inr ⟨hr0, ?_, ?_⟩⟩)
  · refine KW.getL hs.up rfl rfl rfl rfl rfl rfl rfl rfl rfl rfl rfl rfl rfl rfl rfl rfl (by omega) (h2) (fun y a' m hy hsy => ?_)
    have hy : x[i]? = some y := hy
    have hyl : (lens x)[i]? = some y.length := by simp [hy]
    have hsum := sum_take hyl
    refine KW.call rfl rfl rfl rfl rfl (szInt64S' hr0 (by omega) (hW.2 y (List.mem_of_getElem? hy))) (fun v _ _ hv => ?_)
    obtain ⟨q, rfl, hq⟩ := hv
    refine KW.cnd rfl rfl (fun h3 => KW.ret rfl rfl rfl rfl ⟨-1, rfl, .inl rfl⟩) (fun h3 => ?_)
    exact KW.nxt rfl rfl (fun H g => ⟨(i + 1, q), ⟨by simp only; omega, by simp only; omega, by simp only [hsum]; omega⟩, by simp only; omega, ⟨rfl, rfl, congrArg (Value.int .i64) (inc64 (by omega)), trivial⟩, g⟩)
  · have : i = x.length := by omega
    subst this
    rw [List.take_of_length_le (by simp)] at hr1
    simp only [ts_Int64SS]; omega
  · have : i = x.length := by omega
    subst this
    rw [List.take_of_length_le (by simp)] at hr1
    exact ⟨by omega, by omega⟩
theorem sz_Int64SSS' {x : List (List (List Int))} (l0 : 0 ≤ left) (l1 : left ≤ 1048576) (hW : W_Int64SSS x) (hs : K_Int64SSS.R S H0 x [.slice a x.length c]) : Spec Tryz.prog S H0 33 [.slice a x.length c, .int .i64 left] (SzPost left (B_Int64SSS x)) := by
  have hs := sl1 hs
  have hx := hW.1
  refine Spec.of1 Tryz.func33 rfl (by kernel_rfl) rfl (fun H _ => ?_)
  have e : IntKind.i64.wrap (left - (x.length : Int)) = left - (x.length : Int) := wr (by omega) (by omega)
  refine KW.cnd rfl rfl (fun h => KW.ret rfl rfl rfl rfl ⟨-1, rfl, .inl rfl⟩) (fun h => ?_)
  rw [e] at h
  refine KW.lp rfl rfl (fun s : Nat × Int => [(0, .slice a x.length c), (1, .int .i64 s.2), (5, .int .i64 s.1)]) (fun s => s.1 ≤ x.length ∧ 0 ≤ s.2 ∧ s.2 = left - x.length - (sum ((x.map ts_Int64SS).take s.1) : Nat) ∧ ∀ j y, j < s.1 → x[j]? = some y → B_Int64SS y) (fun s => x.length - s.1) ((0, left - x.length)) (⟨by omega, by simp only; omega, by simp [sum], fun j y h => absurd h (by simp)⟩) ⟨rfl, congrArg (Value.int .i64) e, rfl, trivial⟩ (fun s hi bE n => ?_)
  obtain ⟨i, r⟩ := s
  obtain ⟨hi, hr0, hr1, hb⟩ := hi
  simp only at hi hr0 hr1 hb
  refine KW.cnd rfl rfl (fun h2 => ?_) (fun h2 => KW.ret rfl rfl rfl rfl ⟨_, rfl, .inr ⟨hr0, by simp only; omega, ⟨by omega, ?_, ?_⟩⟩⟩)
  · refine KW.getL hs.up rfl rfl rfl rfl rfl rfl rfl rfl rfl rfl rfl rfl rfl rfl rfl rfl (by omega) (h2) (fun y a' m hy hsy => ?_)
    have hy : x[i]? = some y := hy
    have hyl : (x.map ts_Int64SS)[i]? = some (ts_Int64SS y) := by simp [hy]
    have hsum := sum_take hyl
    refine KW.call rfl rfl rfl rfl rfl (szx_Int64SS hr0 (by omega) (hW.2 y (List.mem_of_getElem? hy)) (sl1' hsy)) (fun v _ _ hv => ?_)
    obtain ⟨q, rfl, hq⟩ := hv
    refine KW.cnd rfl rfl (fun h3 => KW.ret rfl rfl rfl rfl ⟨-1, rfl, .inl rfl⟩) (fun h3 => ?_)
    have hq := hq.resolve_left (by omega)
    exact KW.nxt rfl rfl (fun H g => ⟨(i + 1, q), ⟨by simp only; omega, hq.1, by simp only [hsum]; have := hq.2.1; simp only [ts_Int64SS] at *; omega, fun j z hj hz => by
      rcases Nat.lt_or_ge j i with h | h
      · exact hb j z h hz
      · obtain rfl : j = i := by simp only at hj; omega
        rw [hy] at hz
        cases hz
        exact hq.2.2⟩, by simp only; omega, ⟨rfl, rfl, congrArg (Value.int .i64) (inc64 (by omega)), trivial⟩, g⟩)
  · intro y hy
    obtain ⟨j, hj⟩ := List.getElem?_of_mem hy
    have := (List.getElem?_eq_some_iff.1 hj).1
    exact hb j y (by omega) hj
  · have : i = x.length := by omega
    subst this
    rw [List.take_of_length_le (by simp)] at hr1
    have := sum_le2 (f := sz_Int64SS) (g := ts_Int64SS) x (fun y => by simp only [sz_Int64SS, ts_Int64SS]; omega)
    omega
theorem to_Int64SSS {x : List (List (List Int))} (hB : B_Int64SSS x) (hs : K_Int64SSS.R S H0 x [.slice a x.length c]) : SpecM Tryz.prog S H0 39 [.slice a x.length c] (fun n v H1 => ∃ a c, v = .slice a x.length c ∧ M_Int64SSS.R (New n H1.n) H1 x [.slice a x.length c]) := by
  have hs := sl1 hs
  have hl := hB.len
  refine SpecM.of1 Tryz.func39 rfl (by kernel_rfl) rfl (fun H _ => ?_)
  refine KW.mk1 rfl rfl rfl rfl rfl rfl rfl rfl rfl rfl rfl rfl (x.length) rfl rfl (by omega) (by show 24 * _ ≤ _; omega) ?_
  refine KW.lpM rfl rfl (fun s : MkS => [(0, .slice a x.length c), (3, .slice (some ⟨H.n, 0, some 1⟩) x.length x.length), (4, .int .i64 s.i)]) (fun s => s.S) (fun s => s.A) (fun s => [(H.n, ⟨_, true, s.cs⟩)]) (fun s => MkI M_Int64SS x H s) (fun s => x.length - s.i) ⟨0, Low H.n, H, fun _ _ => False, List.replicate x.length (.slice none 0 0)⟩
    (MkI.start (by simp)) ⟨rfl, rfl, rfl, trivial⟩ rfl rfl rfl (fun s hi b n => ?_)
  have hle := hi.le
  refine KW.fact (p := H.n < n ∧ ∀ id, s.S id → id < n) (fun _ g => ⟨(g.vars 0 _ rfl).2.1, fun id hid => (g.froz id hid).1⟩) (fun hHn => ?_)
  haveI : Stp (Low H.n) H s.S s.A := ⟨hi.old⟩
  refine KW.cnd rfl rfl (fun h => ?_) (fun h => ?_)
  · refine KW.getL hs.up rfl rfl rfl rfl rfl rfl rfl rfl rfl rfl rfl rfl rfl rfl rfl rfl (by omega) (h) (fun y a' m hy hsy => ?_)
    have hy : x[s.i]? = some y := hy
    refine KW.callN rfl rfl rfl rfl rfl (to_Int64SS (hB.each y (List.mem_of_getElem? hy)) (sl1' hsy)) (fun v H1 S' hn st hw hv => ?_)
    obtain ⟨a2, c2, rfl, hv⟩ := hv
    refine KW.idx0 rfl rfl rfl rfl rfl rfl rfl rfl rfl (by omega) (by omega) ?_
    refine KW.st1 0 rfl rfl rfl rfl rfl rfl rfl rfl rfl rfl rfl rfl (by have := hi.len; simp only; omega) ?_
    exact KW.nxt rfl rfl (fun H' g => ⟨_, hi.next hHn.1 hHn.2 st hw hy hv, by simp only; omega, ⟨rfl, rfl, congrArg (Value.int .i64) (inc64 (by omega)), trivial⟩, g⟩)
  · have he : s.i = x.length := by omega
    refine KW.retM rfl rfl rfl rfl hi.old (fun H1 g => ?_)
    exact ⟨_, _, rfl, ml1' (hi.ml he rfl rfl g)⟩
theorem eq_Int64SSS {x : List (List (List Int))} (hB : B_Int64SSS x) (hs : K_Int64SSS.R S H0 x [.slice a x.length c]) (hs' : K_Int64SSS.R S H0 x [.slice a' x.length c']) : Spec Tryz.prog S H0 46 [.slice a x.length c, .slice a' x.length c'] (fun v => v = .bool true) := by
  have hs := sl1 hs
  have hs' := sl1 hs'
  have hl := hB.len
  refine Spec.of1 Tryz.func46 rfl (by kernel_rfl) rfl (fun H _ => ?_)
  refine KW.cF rfl rfl (by first | (simp; done) | decide) ?_
  refine KW.lp rfl rfl (fun i : Nat => [(0, .slice a x.length c), (1, .slice a' x.length c'), (5, .int .i64 i)]) (fun i => i ≤ x.length) (fun i => x.length - i) (0) (by omega) ⟨rfl, rfl, rfl, trivial⟩ (fun i hi bE n => ?_)
  refine KW.cnd rfl rfl (fun h => ?_) (fun h => ?_)
  · refine KW.getL hs.up rfl rfl rfl rfl rfl rfl rfl rfl rfl rfl rfl rfl rfl rfl rfl rfl (by omega) (h) (fun y a1 m1 hy hsy => ?_)
    refine KW.getL hs'.up rfl rfl rfl rfl rfl rfl rfl rfl rfl rfl rfl rfl rfl rfl rfl rfl (by omega) (h) (fun z a2 m2 hz hsz => ?_)
    have hy : x[i]? = some y := hy
    have hz : x[i]? = some z := hz
    rw [hy] at hz
    cases hz
    refine KW.callE rfl rfl rfl rfl rfl (eq_Int64SS (hB.each y (List.mem_of_getElem? hy)) (sl1' hsy) (sl1' hsz)) (fun _ _ => ?_)
    refine KW.cF rfl rfl (by first | (simp; done) | decide) ?_
    refine KW.nxt rfl rfl (fun H' g => ⟨i + 1, by omega, by first | omega | (simp only; omega), ⟨rfl, rfl, congrArg (Value.int .i64) (inc64 (by omega)), trivial⟩, g⟩)
  · exact KW.ret rfl rfl rfl rfl (rfl)
theorem mark_Int64SSS {x : List (List (List Int))} (hB : B_Int64SSS x) (hk : Mk k (sz_Int64SSS x)) (hW : ∀ id, W id → S id) (hs : M_Int64SSS.R W H0 x [.slice a x.length c]) : SpecW Tryz.prog S H0 W 50 [.slice a x.length c, .int .i64 k] (fun n v H1 => v = .int .i64 (k + sz_Int64SSS x) ∧ M_Int64SSS.R W H1 (mk_Int64SSS k x) [.slice a x.length c]) := by
  have hs := ml1 hs
  have hl := hB.len
  have hk1 := hk.1
  have hk2 : k + (sum (x.map sz_Int64SS) : Nat) ≤ 274877906944 := hk.2
  rcases hs with ⟨rfl, a0, c0, he, ha⟩ | ⟨o, c1, bb, Ws, he, h2, h3, h4, h5, h6, h7, h8, h9⟩
  · refine SpecM.w ?_
    refine SpecM.of Tryz.func50 rfl (by kernel_rfl) rfl (fun H hfin hfz => ?_)
    refine KW.lp rfl rfl (fun _ : Unit => [(0, .slice a 0 c), (1, .int .i64 k), (5, .int .i64 0)]) (fun _ => True) (fun _ => 0) () trivial ⟨rfl, rfl, rfl, trivial⟩ (fun _ _ b n => ?_)
    refine KW.cnd rfl rfl (fun h => absurd h (by decide)) (fun _ => ?_)
    exact KW.retM rfl rfl rfl rfl (fun id hid => ⟨hid, rfl⟩) (fun H1 g => ⟨congrArg (Value.int .i64) (by simp [sz_Int64SSS, sum]), ml1' (.inl ⟨rfl, a, c, rfl, by cases he; exact ha⟩)⟩)
  · cases he
    refine SpecW.of0 Tryz.func50 rfl (by kernel_rfl) rfl (fun H hfin hfz => ?_)
    obtain ⟨ho1, ho2⟩ := hfz o (hW o h3)
    have hWl : ∀ id, W id → id < H.n := fun id hid => (hfz id (hW id hid)).1
    have h4 := ho2.trans h4
    refine KW.lpM rfl rfl (fun s : Nat × Ids × AH => [(0, .slice (some ⟨o, 0, some 1⟩) x.length c), (1, .int .i64 (k + sum ((x.map sz_Int64SS).take s.1))), (5, .int .i64 s.1)]) (fun s => s.2.1) (fun s => s.2.2) (fun s => [])
      (fun s => s.1 ≤ x.length ∧ (∀ id, id < H.n → s.2.1 id) ∧ (∀ id, id < H.n → (∀ j, ¬ Ws j id) → s.2.2.m id = H.m id) ∧ (∀ j y, x[j]? = some y → (s.1 ≤ j → M_Int64SS.R (Ws j) s.2.2 y ((bb.cells.drop (0 + j * 1)).take 1)) ∧ (j < s.1 → M_Int64SS.R (Ws j) s.2.2 (mk_Int64SS (k + sum ((x.map sz_Int64SS).take j)) y) ((bb.cells.drop (0 + j * 1)).take 1))))
      (fun s => x.length - s.1) (0, Low H.n, H) ⟨by omega, fun id hid => hid, fun id _ _ => rfl, fun j y hx' => ⟨fun _ => (M_Int64SS).same (fun id hid => (hfz id (hW id (h7 j id hid).1)).2) (h9 j y hx'), fun h => absurd h (by simp)⟩⟩ ⟨rfl, congrArg (Value.int .i64) (by simp [sum]), rfl, trivial⟩ rfl rfl rfl (fun s hi b n => ?_)
    obtain ⟨i, S1, A⟩ := s
    obtain ⟨hi0, hi1, hi2, hi3⟩ := hi
    simp only at hi0 hi1 hi2 hi3
    have hAo : A.m o = some bb := (hi2 o ho1 (fun j hj => (h7 j o hj).2 rfl)).trans h4
    refine KW.cnd rfl rfl (fun h => ?_) (fun h => ?_)
    · have hil : i < x.length := by omega
      obtain ⟨y, hy⟩ : ∃ y, x[i]? = some y := ⟨x[i], List.getElem?_eq_getElem hil⟩
      have hrow := (hi3 i y hy).1 (Nat.le_refl _)
      obtain ⟨ay, cy, hsv⟩ := mlform hrow
      rw [hsv] at hrow
      have hyl : (x.map sz_Int64SS)[i]? = some (sz_Int64SS y) := by simp [hy]
      have hsum := sum_take hyl
      have hsl := sum_le (l := x.map sz_Int64SS) (i + 1)
      refine KW.idx0 rfl rfl rfl rfl rfl rfl rfl rfl rfl (by omega) h ?_
      refine KW.ldC (hi1 o ho1) hAo (cell_of hsv) rfl rfl rfl rfl rfl rfl rfl ?_
      refine KW.callW (fun id hid => hi1 id (hWl id (h7 i id hid).1)) rfl rfl rfl rfl rfl (mark_Int64SS (k := k + sum ((x.map sz_Int64SS).take i)) (hB.each y (List.mem_of_getElem? hy)) (by constructor <;> omega) (fun id hid => hi1 id (hWl id (h7 i id hid).1)) hrow) (fun v H1 S' hn st hw hv => ?_)
      obtain ⟨rfl, hv⟩ := hv
      have st1 : ∀ id, id < H.n → S' id ∧ (¬ Ws i id → H1.m id = A.m id) := fun id hid => st id (hi1 id hid)
      refine KW.nxt rfl rfl (fun H' g => ⟨(i + 1, S', H1), ⟨by simp only; omega, fun id hid => (st1 id hid).1, fun id hid hno => ((st1 id hid).2 (hno i)).trans (hi2 id hid hno), fun j z hx' => ?_⟩, by simp only; omega, ⟨rfl, congrArg (Value.int .i64) (by simp only [hsum]; omega), congrArg (Value.int .i64) (inc64 (by omega)), trivial⟩, g⟩)
      simp only
      by_cases e : j = i
      · subst e
        rw [hy] at hx'
        cases hx'
        exact ⟨fun h => absurd h (by omega), fun _ => by rw [hsv]; exact hv⟩
      · have hsame : ∀ id, Ws j id → H1.m id = A.m id := fun id hid => (st1 id (hWl id (h7 j id hid).1)).2 (fun hc => e (h8 j i id hid hc))
        exact ⟨fun hj => (M_Int64SS).same hsame ((hi3 j z hx').1 (by omega)), fun hj => (M_Int64SS).same hsame ((hi3 j z hx').2 (by omega))⟩
    · obtain rfl : i = x.length := by simp only at h; omega
      refine KW.retW rfl rfl rfl rfl (fun H1 g => ?_) (fun id hid hw => ⟨hi1 id hid, hi2 id hid (fun j hj => hw (h7 j id hj).1)⟩) (fun H1 g => ⟨congrArg (Value.int .i64) ?_, ?_⟩)
      · rcases Nat.eq_zero_or_pos H.n with h | h
        · omega
        · have := (g.froz (H.n - 1) (hi1 _ (by omega))).1; have := g.n_; omega
      · show k + ((sum ((x.map sz_Int64SS).take x.length) : Nat) : Int) = _
        rw [List.take_of_length_le (by simp)]
      · have hl2 : (mk_Int64SSS k x).length = x.length := mks_len _ _ _ _
        have keep : ∀ id, id < H.n → H1.m id = A.m id := fun id hid => (g.froz id (hi1 id hid)).2
        refine ml1' (.inr ⟨o, c, bb, Ws, by rw [hl2], by rw [hl2]; exact h2, h3, (keep o ho1).trans hAo, h5, by rw [hl2]; exact h6, h7, h8, fun j z hx' => ?_⟩)
        have hj : j < x.length := by have := (List.getElem?_eq_some_iff.1 hx').1; omega
        obtain ⟨y, hy⟩ : ∃ y, x[j]? = some y := ⟨x[j], List.getElem?_eq_getElem hj⟩
        rw [mks_at k hy] at hx'
        cases hx'
        exact (M_Int64SS).same (fun id hid => keep id (hWl id (h7 j id hid).1)) ((hi3 j y hy).2 hj)
end
end Go.Proofs.YtijmkfnmdhpakaaGreat.Am
/- What the laws' own functions do at Deal: sizes, copies, equality, marks. Each holds under its own conditions. -/
set_option linter.unusedVariables false
set_option maxRecDepth 20000
namespace Go.Proofs.YtijmkfnmdhpakaaGreat.Am
open Go Go.RowKit Go.Proofs
abbrev T_Deal : Type := (T_Scheme) × (Int) × (List (List Int)) × (List (List (List Int)))
abbrev K_Deal : Kn T_Deal := Kn.pair (K_Scheme) (Kn.pair (KI) (Kn.pair (K_Int64SS) (K_Int64SSS)))
abbrev M_Deal : Kn T_Deal := Kn.mp (M_Scheme) (Kn.mp (KI) (Kn.mp (M_Int64SS) (M_Int64SSS)))
theorem le_Deal : KLe M_Deal K_Deal := KLe.pair (le_Scheme) (KLe.pair ((KLe.refl KI)) (KLe.pair (le_Int64SS) (le_Int64SSS)))
abbrev B_Deal (x : T_Deal) : Prop := B_Scheme x.1 ∧ I64 x.2.1 ∧ B_Int64SS x.2.2.1 ∧ B_Int64SSS x.2.2.2
abbrev W_Deal (x : T_Deal) : Prop := W_Scheme x.1 ∧ I64 x.2.1 ∧ W_Int64SS x.2.2.1 ∧ W_Int64SSS x.2.2.2
abbrev sz_Deal (x : T_Deal) : Nat := sz_Scheme x.1 + sz_Int64SS x.2.2.1 + sz_Int64SSS x.2.2.2
abbrev mk_Deal (k : Int) (x : T_Deal) : T_Deal := (mk_Scheme (k) x.1, x.2.1, mk_Int64SS (k + (sz_Scheme x.1 : Nat)) x.2.2.1, mk_Int64SSS (k + (sz_Scheme x.1 : Nat) + (sz_Int64SS x.2.2.1 : Nat)) x.2.2.2)
theorem size_Deal {x : T_Deal} (hB : B_Deal x) : sz_Deal x ≤ 4194304 := by have := size_Scheme hB.1; have := size_Int64SS hB.2.2.1; have := size_Int64SSS hB.2.2.2; simp only [sz_Deal]; omega
section
variable {S : Ids} {H0 : AH} {W : Ids} {left k : Int}
theorem form_Deal {x : T_Deal} {cs : List Value} (h : K_Deal.R S H0 x cs) : ∃ a1 c1 a2 c2 a3 c3 a4 c4, cs = [.int .i64 x.1.1, .slice a1 x.1.2.1.length c1, .int .i64 x.1.2.2.1, .int .i64 x.1.2.2.2.1, .slice a2 x.1.2.2.2.2.length c2, .int .i64 x.2.1, .slice a3 x.2.2.1.length c3, .slice a4 x.2.2.2.length c4] := by
  obtain ⟨e0, d0, rfl, h0, h0_⟩ := h
  obtain ⟨e1, d1, rfl, h1, h1_⟩ := h0_
  obtain ⟨e2, d2, rfl, h2, h2_⟩ := h1_
  have h3 := h2_
  obtain ⟨a1, c1, a2, c2, rfl⟩ := form_Scheme h0
  obtain rfl := KI_of h1
  obtain ⟨a3, c3, rfl⟩ := slform h2
  obtain ⟨a4, c4, rfl⟩ := slform h3
  exact ⟨a1, c1, a2, c2, a3, c3, a4, c4, rfl⟩
theorem formM_Deal {x : T_Deal} {cs : List Value} (h : M_Deal.R S H0 x cs) : ∃ a1 c1 a2 c2 a3 c3 a4 c4, cs = [.int .i64 x.1.1, .slice a1 x.1.2.1.length c1, .int .i64 x.1.2.2.1, .int .i64 x.1.2.2.2.1, .slice a2 x.1.2.2.2.2.length c2, .int .i64 x.2.1, .slice a3 x.2.2.1.length c3, .slice a4 x.2.2.2.length c4] := form_Deal (le_Deal.2 _ _ _ _ h)
theorem split_Deal {x : T_Deal} {cs : List Value} (h : K_Deal.R S H0 x cs) : ∃ a1 c1 a2 c2 a3 c3 a4 c4, cs = [.int .i64 x.1.1, .slice a1 x.1.2.1.length c1, .int .i64 x.1.2.2.1, .int .i64 x.1.2.2.2.1, .slice a2 x.1.2.2.2.2.length c2, .int .i64 x.2.1, .slice a3 x.2.2.1.length c3, .slice a4 x.2.2.2.length c4] ∧ K_Scheme.R S H0 x.1 [.int .i64 x.1.1, .slice a1 x.1.2.1.length c1, .int .i64 x.1.2.2.1, .int .i64 x.1.2.2.2.1, .slice a2 x.1.2.2.2.2.length c2] ∧ K_Int64SS.R S H0 x.2.2.1 [.slice a3 x.2.2.1.length c3] ∧ K_Int64SSS.R S H0 x.2.2.2 [.slice a4 x.2.2.2.length c4] := by
  obtain ⟨e0, d0, rfl, h0, h0_⟩ := h
  obtain ⟨e1, d1, rfl, h1, h1_⟩ := h0_
  obtain ⟨e2, d2, rfl, h2, h2_⟩ := h1_
  have h3 := h2_
  obtain ⟨a1, c1, a2, c2, rfl⟩ := form_Scheme h0
  obtain rfl := KI_of h1
  obtain ⟨a3, c3, rfl⟩ := slform h2
  obtain ⟨a4, c4, rfl⟩ := slform h3
  exact ⟨a1, c1, a2, c2, a3, c3, a4, c4, rfl, h0, h2, h3⟩
theorem splitM_Deal {x : T_Deal} {cs : List Value} (h : M_Deal.R S H0 x cs) : ∃ (a1 : Option Addr) (c1 : Nat) (a2 : Option Addr) (c2 : Nat) (a3 : Option Addr) (c3 : Nat) (a4 : Option Addr) (c4 : Nat) (X0 : Ids) (X2 : Ids) (X3 : Ids), cs = [.int .i64 x.1.1, .slice a1 x.1.2.1.length c1, .int .i64 x.1.2.2.1, .int .i64 x.1.2.2.2.1, .slice a2 x.1.2.2.2.2.length c2, .int .i64 x.2.1, .slice a3 x.2.2.1.length c3, .slice a4 x.2.2.2.length c4] ∧ M_Scheme.R X0 H0 x.1 [.int .i64 x.1.1, .slice a1 x.1.2.1.length c1, .int .i64 x.1.2.2.1, .int .i64 x.1.2.2.2.1, .slice a2 x.1.2.2.2.2.length c2] ∧ M_Int64SS.R X2 H0 x.2.2.1 [.slice a3 x.2.2.1.length c3] ∧ M_Int64SSS.R X3 H0 x.2.2.2 [.slice a4 x.2.2.2.length c4] ∧ (∀ id, X0 id → S id) ∧ (∀ id, X2 id → S id) ∧ (∀ id, X3 id → S id) ∧ (∀ id, X0 id → X2 id → False) ∧ (∀ id, X0 id → X3 id → False) ∧ (∀ id, X2 id → X3 id → False) := by
  obtain ⟨e0, d0, X0, Y0, rfl, i0, j0, q0, h0, h0_⟩ := h
  obtain ⟨e1, d1, X1, Y1, rfl, i1, j1, q1, h1, h1_⟩ := h0_
  obtain ⟨e2, d2, X2, Y2, rfl, i2, j2, q2, h2, h2_⟩ := h1_
  have h3 := h2_
  obtain ⟨a1, c1, a2, c2, rfl⟩ := formM_Scheme h0
  obtain rfl := KI_of h1
  obtain ⟨a3, c3, rfl⟩ := mlform h2
  obtain ⟨a4, c4, rfl⟩ := mlform h3
  exact ⟨a1, c1, a2, c2, a3, c3, a4, c4, X0, X2, Y2, rfl, h0, h2, h3, fun _ p => i0 _ p, fun _ p => j0 _ (j1 _ (i2 _ p)), fun _ p => j0 _ (j1 _ (j2 _ p)), fun _ o p => q0 _ o (j1 _ (i2 _ p)), fun _ o p => q0 _ o (j1 _ (j2 _ p)), fun _ o p => q2 _ o (p)⟩
theorem to_Deal {x : T_Deal} {cs : List Value} (hB : B_Deal x) (h : K_Deal.R S H0 x cs) : SpecM Tryz.prog S H0 10 [.agg cs.toArray] (fun n v H1 => ∃ cs, v = .agg cs.toArray ∧ M_Deal.R (New n H1.n) H1 x cs) := by
  obtain ⟨a1, c1, a2, c2, a3, c3, a4, c4, rfl, h0, h2, h3⟩ := split_Deal h
  refine SpecM.of1 Tryz.func10 rfl (by kernel_rfl) rfl (fun H _ => ?_)
  refine KW.callN1 rfl rfl rfl rfl rfl (to_Scheme hB.1 (On.R h0)) (fun v G0 S0 m0 _ _ hv => ?_)
  obtain ⟨w0, rfl, g0⟩ := hv
  obtain ⟨b0_0, d0_0, b0_1, d0_1, rfl⟩ := formM_Scheme g0
  refine KW.callN1 rfl rfl rfl rfl rfl (to_Int64SS hB.2.2.1 (On.R h2)) (fun v G2 S2 m2 _ _ hv => ?_)
  obtain ⟨b2, d2, rfl, g2⟩ := hv
  refine KW.callN1 rfl rfl rfl rfl rfl (to_Int64SSS hB.2.2.2 (On.R h3)) (fun v G3 S3 m3 _ _ hv => ?_)
  obtain ⟨b3, d3, rfl, g3⟩ := hv
  refine KW.retM1 rfl rfl rfl rfl (fun H1 g => ?_)
  refine ⟨_, rfl, ?_⟩
  have k3 : M_Int64SSS.R (New G2.n H1.n) H1 x.2.2.2 [.slice b3 x.2.2.2.length d3] := (M_Int64SSS).more (g.inn (H := G3) (fun _ p => by have := p.1; omega)) (g.keep g3)
  have k2 : (Kn.mp (M_Int64SS) (M_Int64SSS)).R (New G0.n H1.n) H1 (x.2.2) [.slice b2 x.2.2.1.length d2, .slice b3 x.2.2.2.length d3] := mpR (g.keep g2) k3 (g.inn (H := G2) (fun _ p => by have := p.1; omega)) (fun _ p => ⟨by have := p.1; have := m2; omega, p.2⟩) (fun _ o p => by have := o.2; have := p.1; omega)
  have k1 : (Kn.mp (KI) (Kn.mp (M_Int64SS) (M_Int64SSS))).R (New G0.n H1.n) H1 (x.2) [.int .i64 x.2.1, .slice b2 x.2.2.1.length d2, .slice b3 x.2.2.2.length d3] := mpR (X := None_) (show KI.R None_ H1 _ [.int .i64 x.2.1] from rfl) k2 (fun _ p => p.elim) (fun _ p => p) (fun _ p _ => p.elim)
  have k0 : (Kn.mp (M_Scheme) (Kn.mp (KI) (Kn.mp (M_Int64SS) (M_Int64SSS)))).R (New H.n H1.n) H1 (x) [.int .i64 x.1.1, .slice b0_0 x.1.2.1.length d0_0, .int .i64 x.1.2.2.1, .int .i64 x.1.2.2.2.1, .slice b0_1 x.1.2.2.2.2.length d0_1, .int .i64 x.2.1, .slice b2 x.2.2.1.length d2, .slice b3 x.2.2.2.length d3] := mpR (g.keep g0) k1 (g.inn (H := G0) (fun _ p => by have := p.1; omega)) (fun _ p => ⟨by have := p.1; have := m0; omega, p.2⟩) (fun _ o p => by have := o.2; have := p.1; omega)
  exact k0
theorem eq_Deal {x : T_Deal} {cs cs' : List Value} (hB : B_Deal x) (h : K_Deal.R S H0 x cs) (h' : K_Deal.R S H0 x cs') : Spec Tryz.prog S H0 14 [.agg cs.toArray, .agg cs'.toArray] (fun v => v = .bool true) := by
  obtain ⟨a1, c1, a2, c2, a3, c3, a4, c4, rfl, h0, h2, h3⟩ := split_Deal h
  obtain ⟨b1, d1, b2, d2, b3, d3, b4, d4, rfl, k0, k2, k3⟩ := split_Deal h'
  refine Spec.of1 Tryz.func14 rfl (by kernel_rfl) rfl (fun H _ => ?_)
  refine KW.callE rfl rfl rfl rfl rfl (eq_Scheme hB.1 (On.R h0) (On.R k0)) (fun _ _ => ?_)
  refine KW.cF rfl rfl (by first | (simp; done) | decide) ?_
  refine KW.cF rfl rfl (by first | (simp; done) | decide) ?_
  refine KW.callE rfl rfl rfl rfl rfl (eq_Int64SS hB.2.2.1 (On.R h2) (On.R k2)) (fun _ _ => ?_)
  refine KW.cF rfl rfl (by first | (simp; done) | decide) ?_
  refine KW.callE rfl rfl rfl rfl rfl (eq_Int64SSS hB.2.2.2 (On.R h3) (On.R k3)) (fun _ _ => ?_)
  refine KW.cF rfl rfl (by first | (simp; done) | decide) ?_
  exact KW.ret rfl rfl rfl rfl (rfl)
theorem sz_Deal' {x : T_Deal} {cs : List Value} (l0 : 0 ≤ left) (l1 : left ≤ 1048576) (hW : W_Deal x) (h : K_Deal.R S H0 x cs) : Spec Tryz.prog S H0 7 [.agg cs.toArray, .int .i64 left] (SzPost left (B_Deal x)) := by
  obtain ⟨a1, c1, a2, c2, a3, c3, a4, c4, rfl, h0, h2, h3⟩ := split_Deal h
  refine Spec.of1 Tryz.func7 rfl (by kernel_rfl) rfl (fun H _ => ?_)
  refine KW.call rfl rfl rfl rfl rfl (sz_Scheme' l0 l1 hW.1 (On.R h0)) (fun v _ _ hv => ?_)
  obtain ⟨r0, rfl, k0⟩ := hv
  refine KW.cnd rfl rfl (fun h => KW.ret rfl rfl rfl rfl ⟨-1, rfl, .inl rfl⟩) (fun h => ?_)
  have k0 := k0.resolve_left (by omega)
  refine KW.call rfl rfl rfl rfl rfl (sz_Int64SS' k0.1 (by have := k0.2.1; omega) hW.2.2.1 (On.R h2)) (fun v _ _ hv => ?_)
  obtain ⟨r2, rfl, k2⟩ := hv
  refine KW.cnd rfl rfl (fun h => KW.ret rfl rfl rfl rfl ⟨-1, rfl, .inl rfl⟩) (fun h => ?_)
  have k2 := k2.resolve_left (by omega)
  refine KW.call rfl rfl rfl rfl rfl (sz_Int64SSS' k2.1 (by have := k2.2.1; omega) hW.2.2.2 (On.R h3)) (fun v _ _ hv => ?_)
  obtain ⟨r3, rfl, k3⟩ := hv
  refine KW.cnd rfl rfl (fun h => KW.ret rfl rfl rfl rfl ⟨-1, rfl, .inl rfl⟩) (fun h => ?_)
  have k3 := k3.resolve_left (by omega)
  exact KW.ret rfl rfl rfl rfl (⟨_, rfl, .inr ⟨k3.1, by have := k0.2.1; have := k2.2.1; have := k3.2.1; omega, k0.2.2, hW.2.1, k2.2.2, k3.2.2⟩⟩)
theorem mark_Deal {x : T_Deal} {cs : List Value} (hB : B_Deal x) (hk : Mk k (sz_Deal x)) (hW : ∀ id, W id → S id) (h : M_Deal.R W H0 x cs) : SpecW Tryz.prog S H0 W 16 [.agg cs.toArray, .int .i64 k] (fun n v H1 => v = .int .i64 (k + (sz_Deal x : Nat)) ∧ M_Deal.R W H1 (mk_Deal k x) cs) := by
  obtain ⟨a1, c1, a2, c2, a3, c3, a4, c4, X0, X2, X3, rfl, h0, h2, h3, i0, i2, i3, q0_2, q0_3, q2_3⟩ := splitM_Deal h
  refine SpecW.of0 Tryz.func16 rfl (by kernel_rfl) rfl (fun H hfin hfz => ?_)
  have F0 : Fk M_Scheme X0 (Low H.n) H _ _ := ⟨(M_Scheme).same (fun id hid => (hfz id (hW id (i0 id hid))).2) h0, fun id hid => (hfz id (hW id (i0 id hid))).1⟩
  have F2 : Fk M_Int64SS X2 (Low H.n) H _ _ := ⟨(M_Int64SS).same (fun id hid => (hfz id (hW id (i2 id hid))).2) h2, fun id hid => (hfz id (hW id (i2 id hid))).1⟩
  have F3 : Fk M_Int64SSS X3 (Low H.n) H _ _ := ⟨(M_Int64SSS).same (fun id hid => (hfz id (hW id (i3 id hid))).2) h3, fun id hid => (hfz id (hW id (i3 id hid))).1⟩
  have T : ∀ id, id < H.n → Low H.n id ∧ (¬ W id → H.m id = H.m id) := fun id hid => ⟨hid, fun _ => rfl⟩
  refine KW.callW F0.i rfl rfl rfl rfl rfl (mark_Scheme hB.1 (k := k) (by have := hk.1; have := hk.2; simp only [sz_Deal] at this; constructor <;> omega) F0.i F0.r) (fun v H0 S0 m0 t0 w0 hv => ?_)
  obtain ⟨rfl, g0⟩ := hv
  have F0 : Fk M_Scheme X0 S0 H0 _ _ := ⟨g0, fun id hid => (t0 id (F0.i id hid)).1⟩
  have F2 := F2.w t0 (fun id p o => q0_2 id o p)
  have F3 := F3.w t0 (fun id p o => q0_3 id o p)
  have T : ∀ id, id < H.n → S0 id ∧ (¬ W id → H0.m id = H.m id) := fun id hid => ⟨(t0 id (T id hid).1).1, fun hw => ((t0 id (T id hid).1).2 (fun o => hw (i0 id o))).trans ((T id hid).2 hw)⟩
  refine KW.callW F2.i rfl rfl rfl rfl rfl (mark_Int64SS hB.2.2.1 (k := k + (sz_Scheme x.1 : Nat)) (by have := hk.1; have := hk.2; simp only [sz_Deal] at this; constructor <;> omega) F2.i F2.r) (fun v H2 S2 m2 t2 w2 hv => ?_)
  obtain ⟨rfl, g2⟩ := hv
  have F2 : Fk M_Int64SS X2 S2 H2 _ _ := ⟨g2, fun id hid => (t2 id (F2.i id hid)).1⟩
  have F0 := F0.w t2 (fun id p o => q0_2 id p o)
  have F3 := F3.w t2 (fun id p o => q2_3 id o p)
  have T : ∀ id, id < H.n → S2 id ∧ (¬ W id → H2.m id = H.m id) := fun id hid => ⟨(t2 id (T id hid).1).1, fun hw => ((t2 id (T id hid).1).2 (fun o => hw (i2 id o))).trans ((T id hid).2 hw)⟩
  refine KW.callW F3.i rfl rfl rfl rfl rfl (mark_Int64SSS hB.2.2.2 (k := k + (sz_Scheme x.1 : Nat) + (sz_Int64SS x.2.2.1 : Nat)) (by have := hk.1; have := hk.2; simp only [sz_Deal] at this; constructor <;> omega) F3.i F3.r) (fun v H3 S3 m3 t3 w3 hv => ?_)
  obtain ⟨rfl, g3⟩ := hv
  have F3 : Fk M_Int64SSS X3 S3 H3 _ _ := ⟨g3, fun id hid => (t3 id (F3.i id hid)).1⟩
  have F0 := F0.w t3 (fun id p o => q0_3 id p o)
  have F2 := F2.w t3 (fun id p o => q2_3 id p o)
  have T : ∀ id, id < H.n → S3 id ∧ (¬ W id → H3.m id = H.m id) := fun id hid => ⟨(t3 id (T id hid).1).1, fun hw => ((t3 id (T id hid).1).2 (fun o => hw (i3 id o))).trans ((T id hid).2 hw)⟩
  refine KW.retW rfl rfl rfl rfl (fun H1 g => by have := g.n_; omega) (fun id hid hw => ⟨(T id hid).1, (T id hid).2 hw⟩) (fun H1 g => ?_)
  have e : k + (sz_Scheme x.1 : Nat) + (sz_Int64SS x.2.2.1 : Nat) + (sz_Int64SSS x.2.2.2 : Nat) = k + ((sz_Deal x : Nat) : Int) := by simp only [sz_Deal]; omega
  refine ⟨congrArg (Value.int .i64) e, ?_⟩
  have G0 := (M_Scheme).same (H' := H1) (fun id hid => (g.froz id (F0.i id hid)).2) F0.r
  have G2 := (M_Int64SS).same (H' := H1) (fun id hid => (g.froz id (F2.i id hid)).2) F2.r
  have G3 := (M_Int64SSS).same (H' := H1) (fun id hid => (g.froz id (F3.i id hid)).2) F3.r
  have k3 : M_Int64SSS.R (fun id => X3 id) H1 (mk_Int64SSS (k + (sz_Scheme x.1 : Nat) + (sz_Int64SS x.2.2.1 : Nat)) x.2.2.2) [.slice a4 x.2.2.2.length c4] := G3
  have k2 : (Kn.mp (M_Int64SS) (M_Int64SSS)).R (fun id => X2 id ∨ X3 id) H1 ((mk_Int64SS (k + (sz_Scheme x.1 : Nat)) x.2.2.1), (mk_Int64SSS (k + (sz_Scheme x.1 : Nat) + (sz_Int64SS x.2.2.1 : Nat)) x.2.2.2)) [.slice a3 x.2.2.1.length c3, .slice a4 x.2.2.2.length c4] := mpR G2 k3 (fun _ p => .inl p) (fun _ p => .inr p) (fun _ o p => q2_3 _ o p)
  have k1 : (Kn.mp (KI) (Kn.mp (M_Int64SS) (M_Int64SSS))).R (fun id => X2 id ∨ X3 id) H1 (x.2.1, (mk_Int64SS (k + (sz_Scheme x.1 : Nat)) x.2.2.1), (mk_Int64SSS (k + (sz_Scheme x.1 : Nat) + (sz_Int64SS x.2.2.1 : Nat)) x.2.2.2)) [.int .i64 x.2.1, .slice a3 x.2.2.1.length c3, .slice a4 x.2.2.2.length c4] := mpR (X := None_) (show KI.R None_ H1 _ [.int .i64 x.2.1] from rfl) k2 (fun _ p => p.elim) (fun _ p => p) (fun _ p _ => p.elim)
  have k0 : (Kn.mp (M_Scheme) (Kn.mp (KI) (Kn.mp (M_Int64SS) (M_Int64SSS)))).R (fun id => X0 id ∨ X2 id ∨ X3 id) H1 ((mk_Scheme (k) x.1), x.2.1, (mk_Int64SS (k + (sz_Scheme x.1 : Nat)) x.2.2.1), (mk_Int64SSS (k + (sz_Scheme x.1 : Nat) + (sz_Int64SS x.2.2.1 : Nat)) x.2.2.2)) [.int .i64 x.1.1, .slice a1 x.1.2.1.length c1, .int .i64 x.1.2.2.1, .int .i64 x.1.2.2.2.1, .slice a2 x.1.2.2.2.2.length c2, .int .i64 x.2.1, .slice a3 x.2.2.1.length c3, .slice a4 x.2.2.2.length c4] := mpR G0 k1 (fun _ p => .inl p) (fun _ p => .inr p) (fun _ o p => by rcases p with p | p <;> first | exact q0_2 _ o p | exact q0_3 _ o p)
  exact (M_Deal).more (fun id p => by rcases p with p | p | p <;> first | exact i0 id p | exact i2 id p | exact i3 id p) k0
end
end Go.Proofs.YtijmkfnmdhpakaaGreat.Am
/- Contracts: valid schemes and deals, of the program and of the reference. Each holds under its own conditions. -/
set_option linter.unusedVariables false
set_option maxRecDepth 20000
namespace Go.Proofs.YtijmkfnmdhpakaaGreat.Am
open Go Go.RowKit Go.Proofs
structure OkSch (h : Int) (ow : List Int) (p c : Int) (rows : List (List Int)) : Prop where
  h1 : 1 ≤ h
  h7 : h ≤ 7
  mat : OkMat p c rows
  c1 : 1 ≤ c
  len : ow.length = rows.length
  own : ∀ x ∈ ow, 0 ≤ x ∧ x ≤ h - 1
section
variable {S : Ids} {H0 : AH}
theorem validScheme1 (h y : Int) (hh : 1 ≤ h ∧ h ≤ 7) {id : Nat} {b : Blk} {vs : List Value} (hb : b.cells = .int .i64 h :: vs) (hv : S id ∧ H0.m id = some b) : Spec Tryz.prog S H0 140 [.int .i64 y, .pointer (some ⟨id, 0, none⟩)] (fun v => v = .bool (!decide (0 ≤ y ∧ y ≤ h - 1))) := by
  refine Spec.of1 Tryz.func140 rfl (by kernel_rfl) rfl (fun H _ => ?_)
  obtain ⟨hS1, hm1⟩ := On.blk (S' := Low H.n) (H' := H) hv.1 hv.2
  obtain ⟨ty, rw, cs⟩ := b
  subst hb
  refine KW.ldP hS1 hm1 rfl rfl rfl rfl rfl rfl ?_
  refine KW.callE rfl rfl rfl rfl rfl (within _ _ _) (fun _ _ => ?_)
  have e : IntKind.i64.wrap (h - 1) = h - 1 := wr (by omega) (by omega)
  refine KW.ret rfl rfl rfl rfl ?_
  rw [e]; rfl
theorem validScheme (h p c : Int) (hp : I64 p) {a1 c1 a2 c2} {ow : List Int} {rows : List (List Int)} (hO : B_Int64S ow) (hB : B_Int64SS rows) (ho : KI.Sl S H0 (.slice a1 ow.length c1) ow) (hs : KI.sl.Sl S H0 (.slice a2 rows.length c2) rows) :
    Spec Tryz.prog S H0 108 [.agg #[.int .i64 h, .slice a1 ow.length c1, .int .i64 p, .int .i64 c, .slice a2 rows.length c2]] (fun v => v = .bool (tv (OkSch h ow p c rows))) := by
  refine Spec.of1 Tryz.func108 rfl (by kernel_rfl) rfl (fun H _ => ?_)
  refine KW.callE rfl rfl rfl rfl rfl (within _ _ _) (fun _ _ => ?_)
  refine KW.tstB rfl rfl (fun k1 => ?_) (fun k1 => ?_)
  · have k1 : 1 ≤ h ∧ h ≤ 7 := by simpa using k1
    refine KW.callE rfl rfl rfl rfl rfl (validMatrix p c hp hB hs.up) (fun _ _ => ?_)
    refine KW.tstB rfl rfl (fun k2 => ?_) (fun k2 => ?_)
    · have k2 := tv_iff.1 k2
      refine KW.tst rfl rfl (fun k3 => ?_) (fun k3 => ?_)
      · have k3 : 1 ≤ c := k3
        refine KW.tstB rfl rfl (fun k4 => ?_) (fun k4 => ?_)
        · have k4 : ow.length = rows.length := by simp at k4; omega
          have hO' : ow.length ≤ 1048576 := hO
          refine KW.callV1 rfl rfl rfl rfl rfl (fun H1 g _ => containsFuncI (p := fun y => !decide (0 ≤ y ∧ y ≤ h - 1)) (by omega) ho.up (fun S' H' o y _ => validScheme1 h y k1 rfl (g.var (j := 0) rfl))) (fun _ _ => ?_)
          refine KW.ret rfl rfl rfl rfl ?_
          show Value.bool (!tv (∃ x ∈ ow, (!decide (0 ≤ x ∧ x ≤ h - 1)) = true)) = _
          by_cases hx : OkSch h ow p c rows
          · rw [tv_true hx, tv_false (fun ⟨x, h1, h2⟩ => by have := hx.own x h1; simp at h2; omega)]; rfl
          · rw [tv_false hx, tv_true ?_]; · rfl
            refine Classical.byContradiction fun hc => hx ⟨k1.1, k1.2, k2, k3, k4, fun x h1 => ?_⟩
            refine Classical.byContradiction fun h2 => hc ⟨x, h1, by simp; omega⟩
        · have k4 : ow.length ≠ rows.length := by simp at k4; omega
          repeat first | refine KW.tT rfl rfl rfl ?_ | refine KW.tF rfl rfl rfl ?_
          exact KW.ret rfl rfl rfl rfl (by rw [tv_false (p := OkSch h ow p c rows) (fun hc => k4 hc.len)]; rfl)
      · have k3 : ¬ 1 ≤ c := k3
        repeat first | refine KW.tT rfl rfl rfl ?_ | refine KW.tF rfl rfl rfl ?_
        exact KW.ret rfl rfl rfl rfl (by rw [tv_false (p := OkSch h ow p c rows) (fun hc => k3 hc.c1)]; rfl)
    · repeat first | refine KW.tT rfl rfl rfl ?_ | refine KW.tF rfl rfl rfl ?_
      exact KW.ret rfl rfl rfl rfl (by rw [tv_false (p := OkSch h ow p c rows) (fun hc => by rw [tv_true hc.mat] at k2; cases k2)]; rfl)
  · have k1 : ¬ (1 ≤ h ∧ h ≤ 7) := by simp at k1; omega
    repeat first | refine KW.tT rfl rfl rfl ?_ | refine KW.tF rfl rfl rfl ?_
    exact KW.ret rfl rfl rfl rfl (by rw [tv_false (p := OkSch h ow p c rows) (fun hc => k1 ⟨hc.h1, hc.h7⟩)]; rfl)
theorem Has3.drop {S : Ids} {H : AH} {id k : Nat} {vs ws : List Value} (h : Has3 S H id k (vs ++ ws)) : Has3 S H id (k + vs.length) ws := by
  obtain ⟨h1, b, h2, h3⟩ := h
  exact ⟨h1, b, h2, fun i v hi => by rw [Nat.add_assoc]; exact h3 _ v (by rw [List.getElem?_append_right (by omega)]; simpa using hi)⟩
theorem Has3.take {S : Ids} {H : AH} {id k : Nat} {vs ws : List Value} (h : Has3 S H id k (vs ++ ws)) : Has3 S H id k vs := by
  obtain ⟨h1, b, h2, h3⟩ := h
  exact ⟨h1, b, h2, fun i v hi => h3 i v (by rw [List.getElem?_append_left (List.getElem?_eq_some_iff.1 hi).1]; exact hi)⟩
theorem Good.has {S0 : Ids} {H0 H1 : AH} {T : List Var} {n j id : Nat} {b : Blk} {vs : List Value} (g : Good S0 H0 T n H1) (hj : T[j]? = some (id, b)) (hb : b.cells = vs) : Has3 (Low H1.n) H1 id 0 vs := ⟨(g.blk hj).2, b, (g.blk hj).1, fun i v hi => by rw [hb, Nat.zero_add]; exact hi⟩
theorem l04Ok (h p c : Int) (hp : I64 p) {id k : Nat} {a1 c1 a2 c2} {ow : List Int} {rows : List (List Int)} (hO : B_Int64S ow) (hB : B_Int64SS rows) (hv : Has3 S H0 id k [.int .i64 h, .slice a1 ow.length c1, .int .i64 p, .int .i64 c, .slice a2 rows.length c2]) (ho : KI.Sl S H0 (.slice a1 ow.length c1) ow) (hs : KI.sl.Sl S H0 (.slice a2 rows.length c2) rows) :
    Spec Tryz.prog S H0 95 [.pointer (some ⟨id, k, none⟩)] (fun v => v = .bool (tv (OkSch h ow p c rows))) := by
  refine Spec.of1 Tryz.func95 rfl (by kernel_rfl) rfl (fun H _ => ?_)
  have hO' : ow.length ≤ 1048576 := hO
  have hv := hv.up (S' := Low H.n) (H' := H)
  have ho := ho.up (S' := Low H.n) (H' := H)
  have hs := hs.up (S' := Low H.n) (H' := H)
  refine KW.ldF 0 hv rfl rfl rfl rfl rfl rfl rfl rfl rfl ?_
  refine KW.callE rfl rfl rfl rfl rfl (l00In _ _ _) (fun _ _ => ?_)
  refine KW.tstB rfl rfl (fun k1 => ?_) (fun k1 => ?_)
  · have k1 : ¬ (1 ≤ h ∧ h ≤ 7) := by simp at k1; omega
    repeat first | refine KW.tT rfl rfl rfl ?_ | refine KW.tF rfl rfl rfl ?_
    first | refine KW.cT rfl rfl rfl ?_ | refine KW.cF rfl rfl rfl ?_
    exact KW.ret rfl rfl rfl rfl (by rw [tv_false (p := OkSch h ow p c rows) (fun hc => k1 ⟨hc.h1, hc.h7⟩)]; rfl)
  have k1 : 1 ≤ h ∧ h ≤ 7 := by simpa using k1
  refine KW.callE rfl rfl rfl rfl rfl (l03Ok p c hp hB (hv.drop (vs := [_, _])) hs) (fun _ _ => ?_)
  refine KW.tstB rfl rfl (fun k2 => ?_) (fun k2 => ?_)
  · repeat first | refine KW.tT rfl rfl rfl ?_ | refine KW.tF rfl rfl rfl ?_
    first | refine KW.cT rfl rfl rfl ?_ | refine KW.cF rfl rfl rfl ?_
    exact KW.ret rfl rfl rfl rfl (by rw [tv_false (p := OkSch h ow p c rows) (fun hc => by rw [tv_true hc.mat] at k2; cases k2)]; rfl)
  have k2 : OkMat p c rows := tv_iff.1 (by simpa using k2)
  refine KW.ldF 3 hv rfl rfl rfl rfl rfl rfl rfl rfl rfl ?_
  refine KW.tst rfl rfl (fun k3 => ?_) (fun k3 => ?_)
  · have k3 : c < 1 := k3
    repeat first | refine KW.tT rfl rfl rfl ?_ | refine KW.tF rfl rfl rfl ?_
    first | refine KW.cT rfl rfl rfl ?_ | refine KW.cF rfl rfl rfl ?_
    exact KW.ret rfl rfl rfl rfl (by rw [tv_false (p := OkSch h ow p c rows) (fun hc => by have := hc.c1; omega)]; rfl)
  have k3 : ¬ c < 1 := k3
  refine KW.ldF 1 hv rfl rfl rfl rfl rfl rfl rfl rfl rfl ?_
  refine KW.ldF 4 hv rfl rfl rfl rfl rfl rfl rfl rfl rfl ?_
  refine KW.cndB rfl rfl (fun k4 => ?_) (fun k4 => ?_)
  · have k4 : ow.length ≠ rows.length := by simp at k4; omega
    exact KW.ret rfl rfl rfl rfl (by rw [tv_false (p := OkSch h ow p c rows) (fun hc => k4 hc.len)]; rfl)
  have k4 : ow.length = rows.length := by simp at k4; omega
  refine KW.lp rfl rfl (fun i : Nat => [(0, .pointer (some ⟨id, k, none⟩)), (3, .int .i64 i)]) (fun i => i ≤ ow.length ∧ ∀ j, j < i → ∀ x, ow[j]? = some x → 0 ≤ x ∧ x ≤ h - 1) (fun i => ow.length - i) (0) (⟨by omega, fun j h => absurd h (by omega)⟩) ⟨rfl, rfl, trivial⟩ (fun i hi bE n => ?_)
  obtain ⟨hi, hj⟩ := hi
  refine KW.ldF 1 hv rfl rfl rfl rfl rfl rfl rfl rfl rfl ?_
  refine KW.cnd rfl rfl (fun k5 => ?_) (fun k5 => ?_)
  · refine KW.ldF 1 hv rfl rfl rfl rfl rfl rfl rfl rfl rfl ?_
    refine KW.getI ho rfl rfl rfl rfl rfl rfl rfl rfl rfl rfl rfl rfl rfl rfl rfl rfl (by omega) (k5) (fun y hy => ?_)
    have hy : ow[i]? = some y := hy
    refine KW.ldF 0 hv rfl rfl rfl rfl rfl rfl rfl rfl rfl ?_
    refine KW.callE rfl rfl rfl rfl rfl (l00In _ _ _) (fun _ _ => ?_)
    have e : IntKind.i64.wrap (h - 1) = h - 1 := wr (by omega) (by omega)
    rw [e]
    refine KW.cndB rfl rfl (fun k6 => ?_) (fun k6 => ?_)
    · exact KW.ret rfl rfl rfl rfl (by rw [tv_false (p := OkSch h ow p c rows) (fun hc => by have := hc.own y (List.mem_of_getElem? hy); simp at k6; omega)]; rfl)
    · refine KW.nxt rfl rfl (fun H' g => ⟨i + 1, ⟨by omega, upto hj (fun z hz => by rw [hy] at hz; cases hz; simpa using k6)⟩, by first | omega | (simp only; omega), ⟨rfl, congrArg (Value.int .i64) (inc64 (by omega)), trivial⟩, g⟩)
  · exact KW.ret rfl rfl rfl rfl (by rw [tv_true (p := OkSch h ow p c rows) ⟨k1.1, k1.2, k2, by omega, k4, all_of (fun j hjl => hj j (by omega))⟩]; rfl)
end
/-- Keys of an epoch. -/
def KeysOk (p : Int) (n : Nat) (kk : List (List Int)) : Prop := kk.length = n ∧ ∀ y ∈ kk, y.length = 2 ∧ Elems p y
structure OkDeal (h : Int) (ow : List Int) (p c : Int) (rows : List (List Int)) (s : Int) (bs : List (List Int)) (ks : List (List (List Int))) : Prop where
  sch : OkSch h ow p c rows
  sec : 0 ≤ s ∧ s ≤ p - 1
  bl : 1 ≤ bs.length ∧ bs.length ≤ 4
  kl : ks.length = bs.length
  bk : ∀ (e : Nat) b kk, bs[e]? = some b → ks[e]? = some kk → ((b.length : Int) = c - 1 ∧ Elems p b) ∧ KeysOk p rows.length kk
section
variable {S : Ids} {H0 : AH}
theorem validDeal (h p c s : Int) (hp : I64 p) {a1 c1 a2 c2 a3 c3 a4 c4} {ow : List Int} {rows bs : List (List Int)} {ks : List (List (List Int))} (hO : B_Int64S ow) (hB : B_Int64SS rows) (hBb : B_Int64SS bs) (hBk : B_Int64SSS ks)
    (ho : KI.Sl S H0 (.slice a1 ow.length c1) ow) (hs : KI.sl.Sl S H0 (.slice a2 rows.length c2) rows) (hb : KI.sl.Sl S H0 (.slice a3 bs.length c3) bs) (hk : KI.sl.sl.Sl S H0 (.slice a4 ks.length c4) ks) :
    Spec Tryz.prog S H0 72 [.agg #[.int .i64 h, .slice a1 ow.length c1, .int .i64 p, .int .i64 c, .slice a2 rows.length c2, .int .i64 s, .slice a3 bs.length c3, .slice a4 ks.length c4]] (fun v => v = .bool (tv (OkDeal h ow p c rows s bs ks))) := by
  refine Spec.of1 Tryz.func72 rfl (by kernel_rfl) rfl (fun H _ => ?_)
  have bl := hBb.len
  have kl := hBk.len
  refine KW.callE rfl rfl rfl rfl rfl (validScheme h p c hp hO hB ho.up hs.up) (fun _ _ => ?_)
  refine KW.tstB rfl rfl (fun k1 => ?_) (fun k1 => ?_)
  · repeat first | refine KW.tT rfl rfl rfl ?_ | refine KW.tF rfl rfl rfl ?_
    first | refine KW.cT rfl rfl rfl ?_ | refine KW.cF rfl rfl rfl ?_
    exact KW.ret rfl rfl rfl rfl (by rw [tv_false (p := OkDeal h ow p c rows s bs ks) (fun hc => by rw [tv_true hc.sch] at k1; cases k1)]; rfl)
  have k1 : OkSch h ow p c rows := tv_iff.1 (by simpa using k1)
  have hc12 := k1.mat.c1
  have hc1 := k1.c1
  refine KW.lit rfl rfl rfl rfl rfl rfl rfl rfl rfl rfl [.int .i64 s] rfl rfl (fun v hv => by simp at hv; subst hv; rfl) rfl ?_
  refine KW.callV1 rfl rfl rfl rfl rfl (fun H1 g _ => areElements p hp (xs := [s]) (by simp) (g.ints (j := 2) rfl rfl (by simp))) (fun _ _ => ?_)
  refine KW.tstB rfl rfl (fun k2 => ?_) (fun k2 => ?_)
  · repeat first | refine KW.tT rfl rfl rfl ?_ | refine KW.tF rfl rfl rfl ?_
    first | refine KW.cT rfl rfl rfl ?_ | refine KW.cF rfl rfl rfl ?_
    exact KW.ret rfl rfl rfl rfl (by rw [tv_false (p := OkDeal h ow p c rows s bs ks) (fun hc => by rw [tv_true ⟨k1.mat.pr, fun x hx => by rw [List.mem_singleton.1 hx]; exact hc.sec⟩] at k2; cases k2)]; rfl)
  have k2 : 0 ≤ s ∧ s ≤ p - 1 := (tv_iff.1 (by simpa using k2) : PrimeP p ∧ Elems p [s]).2 s (by simp)
  refine KW.callE rfl rfl rfl rfl rfl (within _ _ _) (fun _ _ => ?_)
  refine KW.tstB rfl rfl (fun k3 => ?_) (fun k3 => ?_)
  · have k3 : ¬ (1 ≤ bs.length ∧ bs.length ≤ 4) := by simp at k3; omega
    repeat first | refine KW.tT rfl rfl rfl ?_ | refine KW.tF rfl rfl rfl ?_
    first | refine KW.cT rfl rfl rfl ?_ | refine KW.cF rfl rfl rfl ?_
    exact KW.ret rfl rfl rfl rfl (by rw [tv_false (p := OkDeal h ow p c rows s bs ks) (fun hc => k3 hc.bl)]; rfl)
  have k3 : 1 ≤ bs.length ∧ bs.length ≤ 4 := by simp at k3; omega
  refine KW.cndB rfl rfl (fun k4 => ?_) (fun k4 => ?_)
  · exact KW.ret rfl rfl rfl rfl (by rw [tv_false (p := OkDeal h ow p c rows s bs ks) (fun hc => by rw [hc.kl] at k4; simp at k4)]; rfl)
  have k4 : ks.length = bs.length := by simp at k4; omega
  refine KW.lp rfl rfl (fun i : Nat => [(1, .pointer (some ⟨H.n, 0, some 0⟩)), (3, .pointer (some ⟨H.n + 1, 0, some 1⟩)), (41, .slice a3 bs.length c3), (42, .int .i64 bs.length), (43, .int .i64 i)]) (fun i => i ≤ bs.length ∧ ∀ j, j < i → ∀ b kk, bs[j]? = some b → ks[j]? = some kk → ((b.length : Int) = c - 1 ∧ Elems p b) ∧ KeysOk p rows.length kk) (fun i => bs.length - i) (0) (⟨by omega, fun j h => absurd h (by omega)⟩) ⟨rfl, rfl, rfl, rfl, rfl, trivial⟩ (fun i hi bE n => ?_)
  obtain ⟨hi, hj⟩ := hi
  refine KW.cnd rfl rfl (fun k5 => ?_) (fun k5 => ?_)
  · refine KW.getL hb.up rfl rfl rfl rfl rfl rfl rfl rfl rfl rfl rfl rfl rfl rfl rfl rfl (by omega) (k5) (fun y a' m' hy hsy => ?_)
    have hy : bs[i]? = some y := hy
    have hym := hBb.each y (List.mem_of_getElem? hy)
    obtain ⟨kk, hkk⟩ : ∃ kk, ks[i]? = some kk := ⟨ks[i]'(by omega), List.getElem?_eq_getElem (by omega)⟩
    have bad : ¬ (((y.length : Int) = c - 1 ∧ Elems p y) ∧ KeysOk p rows.length kk) → aout [Value.bool false] = .bool (tv (OkDeal h ow p c rows s bs ks)) := fun hx => by rw [tv_false (p := OkDeal h ow p c rows s bs ks) (fun hc => hx (hc.bk i y kk hy hkk))]; rfl
    have e : IntKind.i64.wrap (c - 1) = c - 1 := wr (by omega) (by omega)
    refine KW.tstB rfl rfl (fun k6 => ?_) (fun k6 => ?_)
    · rw [e] at k6
      repeat first | refine KW.tT rfl rfl rfl ?_ | refine KW.tF rfl rfl rfl ?_
      first | refine KW.cT rfl rfl rfl ?_ | refine KW.cF rfl rfl rfl ?_
      exact KW.ret rfl rfl rfl rfl (bad (fun hc => by rw [hc.1.1] at k6; simp at k6))
    rw [e] at k6
    have k6 : (y.length : Int) = c - 1 := by simpa using k6
    refine KW.callE rfl rfl rfl rfl rfl (areElements p hp (by omega) hsy) (fun _ _ => ?_)
    refine KW.tstB rfl rfl (fun k7 => ?_) (fun k7 => ?_)
    · repeat first | refine KW.tT rfl rfl rfl ?_ | refine KW.tF rfl rfl rfl ?_
      first | refine KW.cT rfl rfl rfl ?_ | refine KW.cF rfl rfl rfl ?_
      exact KW.ret rfl rfl rfl rfl (bad (fun hc => by rw [tv_true ⟨k1.mat.pr, hc.1.2⟩] at k7; cases k7))
    have k7 : Elems p y := (tv_iff.1 (by simpa using k7) : PrimeP p ∧ Elems p y).2
    refine KW.getL hk.up rfl rfl rfl rfl rfl rfl rfl rfl rfl rfl rfl rfl rfl rfl rfl rfl (by omega) (by omega) (fun kk1 a'' m'' hkk1 hskk => ?_)
    have hkk1 : ks[i]? = some kk1 := hkk1
    rw [hkk] at hkk1
    cases hkk1
    have hkB := hBk.each kk (List.mem_of_getElem? hkk)
    have hkl := hkB.len
    refine KW.cndB rfl rfl (fun k8 => ?_) (fun k8 => ?_)
    · exact KW.ret rfl rfl rfl rfl (bad (fun hc => by rw [hc.2.1] at k8; simp at k8))
    have k8 : kk.length = rows.length := by simp at k8; omega
    refine KW.getL hk.up rfl rfl rfl rfl rfl rfl rfl rfl rfl rfl rfl rfl rfl rfl rfl rfl (by omega) (by omega) (fun kk1 a'' m'' hkk1 hskk => ?_)
    have hkk1 : ks[i]? = some kk1 := hkk1
    rw [hkk] at hkk1
    cases hkk1
    refine KW.lp rfl rfl (fun q : Nat => [(1, .pointer (some ⟨H.n, 0, some 0⟩)), (3, .pointer (some ⟨H.n + 1, 0, some 1⟩)), (41, .slice a3 bs.length c3), (42, .int .i64 bs.length), (43, .int .i64 i), (77, .slice a'' kk.length m''), (78, .int .i64 kk.length), (79, .int .i64 q)]) (fun q => q ≤ kk.length ∧ ∀ j, j < q → ∀ x, kk[j]? = some x → x.length = 2 ∧ Elems p x) (fun q => kk.length - q) (0) (⟨by omega, fun j h => absurd h (by omega)⟩) ⟨rfl, rfl, rfl, rfl, rfl, rfl, rfl, rfl, trivial⟩ (fun q hi bE n => ?_)
    obtain ⟨hq, hqj⟩ := hi
    refine KW.cnd rfl rfl (fun k9 => ?_) (fun k9 => ?_)
    · refine KW.getL hskk rfl rfl rfl rfl rfl rfl rfl rfl rfl rfl rfl rfl rfl rfl rfl rfl (by omega) (k9) (fun z a3' m3' hz hsz => ?_)
      have hz : kk[q]? = some z := hz
      have hzm := List.mem_of_getElem? hz
      refine KW.tstB rfl rfl (fun k10 => ?_) (fun k10 => ?_)
      · repeat first | refine KW.tT rfl rfl rfl ?_ | refine KW.tF rfl rfl rfl ?_
        first | refine KW.cT rfl rfl rfl ?_ | refine KW.cF rfl rfl rfl ?_
        exact KW.ret rfl rfl rfl rfl (bad (fun hc => by rw [(hc.2.2 z hzm).1] at k10; simp at k10))
      have k10 : z.length = 2 := by simp at k10; omega
      refine KW.callE rfl rfl rfl rfl rfl (areElements p hp (by omega) hsz) (fun _ _ => ?_)
      refine KW.cndB rfl rfl (fun k11 => ?_) (fun k11 => ?_)
      · exact KW.ret rfl rfl rfl rfl (bad (fun hc => by rw [tv_true ⟨k1.mat.pr, (hc.2.2 z hzm).2⟩] at k11; cases k11))
      have k11 : Elems p z := (tv_iff.1 (by simpa using k11) : PrimeP p ∧ Elems p z).2
      refine KW.nxt rfl rfl (fun H' g => ⟨q + 1, ⟨by omega, upto hqj (fun x hx => by rw [hz] at hx; cases hx; exact ⟨k10, k11⟩)⟩, by first | omega | (simp only; omega), ⟨rfl, rfl, rfl, rfl, rfl, rfl, rfl, congrArg (Value.int .i64) (inc64 (by omega)), trivial⟩, g⟩)
    · refine KW.nxt rfl rfl (fun H' g => ⟨i + 1, ⟨by omega, upto hj (fun b kk1 hb1 hk1 => by rw [hy] at hb1; rw [hkk] at hk1; cases hb1; cases hk1; exact ⟨⟨k6, k7⟩, k8, all_of (fun j hjl => hqj j (by omega))⟩)⟩, by first | omega | (simp only; omega), ⟨rfl, rfl, rfl, rfl, congrArg (Value.int .i64) (inc64 (by omega)), trivial⟩, g⟩)
  · exact KW.ret rfl rfl rfl rfl (by rw [tv_true (p := OkDeal h ow p c rows s bs ks) ⟨k1, k2, k3, k4, fun e b kk h1 h2 => hj e (by have := (List.getElem?_eq_some_iff.1 h1).1; omega) b kk h1 h2⟩]; rfl)
theorem l08Keys (p : Int) (hp : PrimeP p) {id k : Nat} {v0 : Value} {a c} {kk : List (List Int)} {vs : List Value} {aw : Option Addr} {cw w : Nat} (hB : B_Int64SS kk) (hv : Has3 S H0 id k (v0 :: .slice aw w cw :: .int .i64 p :: vs)) (hk : KI.sl.Sl S H0 (.slice a kk.length c) kk) :
    Spec Tryz.prog S H0 98 [.pointer (some ⟨id, k, none⟩), .slice a kk.length c] (fun v => v = .bool (tv (KeysOk p w kk))) := by
  refine Spec.of1 Tryz.func98 rfl (by kernel_rfl) rfl (fun H _ => ?_)
  have hv := hv.up (S' := Low H.n) (H' := H)
  have kl := hB.len
  refine KW.lp rfl rfl (fun i : Nat => [(0, .pointer (some ⟨id, k, none⟩)), (1, .slice a kk.length c), (5, .int .i64 i)]) (fun i => i ≤ kk.length ∧ ∀ j, j < i → ∀ x, kk[j]? = some x → x.length = 2 ∧ Elems p x) (fun i => kk.length - i) (0) (⟨by omega, fun j h => absurd h (by omega)⟩) ⟨rfl, rfl, rfl, trivial⟩ (fun i hi bE n => ?_)
  obtain ⟨hi, hj⟩ := hi
  refine KW.cnd rfl rfl (fun k1 => ?_) (fun k1 => ?_)
  · refine KW.ldF 2 hv rfl rfl rfl rfl rfl rfl rfl rfl rfl ?_
    refine KW.getL hk.up rfl rfl rfl rfl rfl rfl rfl rfl rfl rfl rfl rfl rfl rfl rfl rfl (by omega) (k1) (fun y a' m' hy hsy => ?_)
    have hy : kk[i]? = some y := hy
    refine KW.callE rfl rfl rfl rfl rfl (l03Row p 2 (by unfold I64; have := hp.1; have := hp.2.1; omega) (hB.each y (List.mem_of_getElem? hy)) hsy) (fun _ _ => ?_)
    refine KW.cndB rfl rfl (fun k2 => ?_) (fun k2 => ?_)
    · exact KW.ret rfl rfl rfl rfl (by rw [tv_false (p := KeysOk p w kk) (fun hc => by rw [tv_true ⟨by have := (hc.2 y (List.mem_of_getElem? hy)).1; omega, (hc.2 y (List.mem_of_getElem? hy)).2⟩] at k2; cases k2)]; rfl)
    have k2 := tv_iff.1 (by simpa using k2)
    refine KW.nxt rfl rfl (fun H' g => ⟨i + 1, ⟨by omega, upto hj (fun x hx => by rw [hy] at hx; cases hx; exact ⟨by have := k2.1; omega, k2.2⟩)⟩, by first | omega | (simp only; omega), ⟨rfl, rfl, congrArg (Value.int .i64) (inc64 (by omega)), trivial⟩, g⟩)
  · refine KW.ldF 1 hv rfl rfl rfl rfl rfl rfl rfl rfl rfl ?_
    refine KW.ret rfl rfl rfl rfl ?_
    show Value.bool (((kk.length : Nat) : Int) == ((w : Nat) : Int)) = _
    congr 1
    by_cases hx : kk.length = w
    · rw [tv_true (p := KeysOk p w kk) ⟨hx, all_of (fun j hjl => hj j (by omega))⟩, hx]; simp
    · rw [tv_false (p := KeysOk p w kk) (fun hc => hx hc.1)]; simp; omega
theorem l08Ok (h p c s : Int) (hp : I64 p) {id k : Nat} {a1 c1 a2 c2 a3 c3 a4 c4} {ow : List Int} {rows bs : List (List Int)} {ks : List (List (List Int))} (hO : B_Int64S ow) (hB : B_Int64SS rows) (hBb : B_Int64SS bs) (hBk : B_Int64SSS ks)
    (hv : Has3 S H0 id k [.int .i64 h, .slice a1 ow.length c1, .int .i64 p, .int .i64 c, .slice a2 rows.length c2, .int .i64 s, .slice a3 bs.length c3, .slice a4 ks.length c4])
    (ho : KI.Sl S H0 (.slice a1 ow.length c1) ow) (hs : KI.sl.Sl S H0 (.slice a2 rows.length c2) rows) (hb : KI.sl.Sl S H0 (.slice a3 bs.length c3) bs) (hk : KI.sl.sl.Sl S H0 (.slice a4 ks.length c4) ks) :
    Spec Tryz.prog S H0 67 [.pointer (some ⟨id, k, none⟩)] (fun v => v = .bool (tv (OkDeal h ow p c rows s bs ks))) := by
  refine Spec.of1 Tryz.func67 rfl (by kernel_rfl) rfl (fun H _ => ?_)
  have bl := hBb.len
  have kl := hBk.len
  have hv := hv.up (S' := Low H.n) (H' := H)
  refine KW.callE rfl rfl rfl rfl rfl (l04Ok h p c hp hO hB (hv.take (vs := [_, _, _, _, _])) ho.up hs.up) (fun _ _ => ?_)
  refine KW.tstB rfl rfl (fun k1 => ?_) (fun k1 => ?_)
  · repeat first | refine KW.tT rfl rfl rfl ?_ | refine KW.tF rfl rfl rfl ?_
    first | refine KW.cT rfl rfl rfl ?_ | refine KW.cF rfl rfl rfl ?_
    exact KW.ret rfl rfl rfl rfl (by rw [tv_false (p := OkDeal h ow p c rows s bs ks) (fun hc => by rw [tv_true hc.sch] at k1; cases k1)]; rfl)
  have k1 : OkSch h ow p c rows := tv_iff.1 (by simpa using k1)
  have hc12 := k1.mat.c1
  have hc1 := k1.c1
  have hp31 := k1.mat.pr.2.1
  have hp2 := k1.mat.pr.1
  have ep : IntKind.i64.wrap (p - 1) = p - 1 := wr (by omega) (by omega)
  have ec : IntKind.i64.wrap (c - 1) = c - 1 := wr (by omega) (by omega)
  refine KW.ldF 5 hv rfl rfl rfl rfl rfl rfl rfl rfl rfl ?_
  refine KW.ldF 2 hv rfl rfl rfl rfl rfl rfl rfl rfl rfl ?_
  refine KW.callE rfl rfl rfl rfl rfl (l00In _ _ _) (fun _ _ => ?_)
  rw [ep]
  refine KW.tstB rfl rfl (fun k2 => ?_) (fun k2 => ?_)
  · repeat first | refine KW.tT rfl rfl rfl ?_ | refine KW.tF rfl rfl rfl ?_
    first | refine KW.cT rfl rfl rfl ?_ | refine KW.cF rfl rfl rfl ?_
    exact KW.ret rfl rfl rfl rfl (by rw [tv_false (p := OkDeal h ow p c rows s bs ks) (fun hc => by have := hc.sec; simp at k2; omega)]; rfl)
  have k2 : 0 ≤ s ∧ s ≤ p - 1 := by simpa using k2
  refine KW.ldF 6 hv rfl rfl rfl rfl rfl rfl rfl rfl rfl ?_
  refine KW.callE rfl rfl rfl rfl rfl (l00In _ _ _) (fun _ _ => ?_)
  refine KW.tstB rfl rfl (fun k3 => ?_) (fun k3 => ?_)
  · repeat first | refine KW.tT rfl rfl rfl ?_ | refine KW.tF rfl rfl rfl ?_
    first | refine KW.cT rfl rfl rfl ?_ | refine KW.cF rfl rfl rfl ?_
    exact KW.ret rfl rfl rfl rfl (by rw [tv_false (p := OkDeal h ow p c rows s bs ks) (fun hc => by have := hc.bl; simp at k3; omega)]; rfl)
  have k3 : 1 ≤ bs.length ∧ bs.length ≤ 4 := by simp at k3; omega
  refine KW.ldF 7 hv rfl rfl rfl rfl rfl rfl rfl rfl rfl ?_
  refine KW.ldF 6 hv rfl rfl rfl rfl rfl rfl rfl rfl rfl ?_
  refine KW.cndB rfl rfl (fun k4 => ?_) (fun k4 => ?_)
  · exact KW.ret rfl rfl rfl rfl (by rw [tv_false (p := OkDeal h ow p c rows s bs ks) (fun hc => by rw [hc.kl] at k4; simp at k4)]; rfl)
  have k4 : ks.length = bs.length := by simp at k4; omega
  refine KW.lp rfl rfl (fun i : Nat => [(0, .pointer (some ⟨id, k, none⟩)), (3, .int .i64 i)]) (fun i => i ≤ bs.length ∧ ∀ j, j < i → ∀ b kk, bs[j]? = some b → ks[j]? = some kk → ((b.length : Int) = c - 1 ∧ Elems p b) ∧ KeysOk p rows.length kk) (fun i => bs.length - i) (0) (⟨by omega, fun j h => absurd h (by omega)⟩) ⟨rfl, rfl, trivial⟩ (fun i hi bE n => ?_)
  obtain ⟨hi, hj⟩ := hi
  refine KW.ldF 6 hv rfl rfl rfl rfl rfl rfl rfl rfl rfl ?_
  refine KW.cnd rfl rfl (fun k5 => ?_) (fun k5 => ?_)
  · refine KW.ldF 2 hv rfl rfl rfl rfl rfl rfl rfl rfl rfl ?_
    refine KW.ldF 3 hv rfl rfl rfl rfl rfl rfl rfl rfl rfl ?_
    refine KW.ldF 6 hv rfl rfl rfl rfl rfl rfl rfl rfl rfl ?_
    refine KW.getL hb.up rfl rfl rfl rfl rfl rfl rfl rfl rfl rfl rfl rfl rfl rfl rfl rfl (by omega) (k5) (fun y a' m' hy hsy => ?_)
    have hy : bs[i]? = some y := hy
    have hym := hBb.each y (List.mem_of_getElem? hy)
    obtain ⟨kk, hkk⟩ : ∃ kk, ks[i]? = some kk := ⟨ks[i]'(by omega), List.getElem?_eq_getElem (by omega)⟩
    have bad : ¬ (((y.length : Int) = c - 1 ∧ Elems p y) ∧ KeysOk p rows.length kk) → aout [Value.bool false] = .bool (tv (OkDeal h ow p c rows s bs ks)) := fun hx => by rw [tv_false (p := OkDeal h ow p c rows s bs ks) (fun hc => hx (hc.bk i y kk hy hkk))]; rfl
    refine KW.callE rfl rfl rfl rfl rfl (l03Row p _ (by unfold I64; omega) (by omega) hsy) (fun _ _ => ?_)
    rw [ec]
    refine KW.tstB rfl rfl (fun k6 => ?_) (fun k6 => ?_)
    · repeat first | refine KW.tT rfl rfl rfl ?_ | refine KW.tF rfl rfl rfl ?_
      first | refine KW.cT rfl rfl rfl ?_ | refine KW.cF rfl rfl rfl ?_
      exact KW.ret rfl rfl rfl rfl (bad (fun hc => by rw [tv_true hc.1] at k6; cases k6))
    have k6 := tv_iff.1 (by simpa using k6)
    refine KW.ldF 7 hv rfl rfl rfl rfl rfl rfl rfl rfl rfl ?_
    refine KW.getL hk.up rfl rfl rfl rfl rfl rfl rfl rfl rfl rfl rfl rfl rfl rfl rfl rfl (by omega) (by omega) (fun kk1 a'' m'' hkk1 hskk => ?_)
    have hkk1 : ks[i]? = some kk1 := hkk1
    rw [hkk] at hkk1
    cases hkk1
    refine KW.callE rfl rfl rfl rfl rfl (l08Keys p k1.mat.pr (hBk.each kk (List.mem_of_getElem? hkk)) hv hskk) (fun _ _ => ?_)
    refine KW.cndB rfl rfl (fun k7 => ?_) (fun k7 => ?_)
    · exact KW.ret rfl rfl rfl rfl (by rw [k1.len] at k7; exact bad (fun hc => by rw [tv_true hc.2] at k7; cases k7))
    rw [k1.len] at k7
    have k7 := tv_iff.1 (by simpa using k7)
    refine KW.nxt rfl rfl (fun H' g => ⟨i + 1, ⟨by omega, upto hj (fun b kk1 hb1 hk1 => by rw [hy] at hb1; rw [hkk] at hk1; cases hb1; cases hk1; exact ⟨k6, k7⟩)⟩, by first | omega | (simp only; omega), ⟨rfl, congrArg (Value.int .i64) (inc64 (by omega)), trivial⟩, g⟩)
  · exact KW.ret rfl rfl rfl rfl (by rw [tv_true (p := OkDeal h ow p c rows s bs ks) ⟨k1, k2, k3, k4, fun e b kk h1 h2 => hj e (by have := (List.getElem?_eq_some_iff.1 h1).1; omega) b kk h1 h2⟩]; rfl)
end
end Go.Proofs.YtijmkfnmdhpakaaGreat.Am
/- Contracts: ValidDeal, as the law asks them. Each holds under its own conditions. -/
set_option linter.unusedVariables false
set_option maxRecDepth 20000
namespace Go.Proofs.YtijmkfnmdhpakaaGreat.Am
open Go Go.RowKit Go.Proofs
/-- A deal that is valid. -/
def DealOk (x : T_Deal) : Prop := OkDeal x.1.1 x.1.2.1 x.1.2.2.1 x.1.2.2.2.1 x.1.2.2.2.2 x.2.1 x.2.2.1 x.2.2.2
section
variable {S : Ids} {H0 : AH}
theorem split2_Deal {x : T_Deal} {cs : List Value} (h : K_Deal.R S H0 x cs) : ∃ a1 c1 a2 c2 a3 c3 a4 c4, cs = [.int .i64 x.1.1, .slice a1 x.1.2.1.length c1, .int .i64 x.1.2.2.1, .int .i64 x.1.2.2.2.1, .slice a2 x.1.2.2.2.2.length c2, .int .i64 x.2.1, .slice a3 x.2.2.1.length c3, .slice a4 x.2.2.2.length c4] ∧
    KI.Sl S H0 (.slice a1 x.1.2.1.length c1) x.1.2.1 ∧ KI.sl.Sl S H0 (.slice a2 x.1.2.2.2.2.length c2) x.1.2.2.2.2 ∧ KI.sl.Sl S H0 (.slice a3 x.2.2.1.length c3) x.2.2.1 ∧ KI.sl.sl.Sl S H0 (.slice a4 x.2.2.2.length c4) x.2.2.2 := by
  obtain ⟨a1, c1, a2, c2, a3, c3, a4, c4, rfl, h0, h2, h3⟩ := split_Deal h
  obtain ⟨b1, d1, b2, d2, e0, k1, k2⟩ := split_Scheme h0
  cases e0
  obtain ⟨b3, d3, e1, k3⟩ := split_Matrix k2
  cases e1
  exact ⟨a1, c1, a2, c2, a3, c3, a4, c4, rfl, sl1 k1, sl1 k3, sl1 h2, sl1 h3⟩
noncomputable def r0_ValidDeal (x : T_Deal) : Bool := tv (DealOk x)
theorem impl_ValidDeal {x : T_Deal} {cs : List Value} (hB : B_Deal x) (h : K_Deal.R S H0 x cs) : Spec Tryz.prog S H0 72 [.agg cs.toArray] (fun v => v = .bool (tv (DealOk x))) := by
  obtain ⟨a1, c1, a2, c2, a3, c3, a4, c4, rfl, h1, h2, h3, h4⟩ := split2_Deal h
  exact validDeal _ _ _ _ hB.1.2.2.1 hB.1.2.1 hB.1.2.2.2.2 hB.2.2.1 hB.2.2.2 h1 h2 h3 h4
end
end Go.Proofs.YtijmkfnmdhpakaaGreat.Am
/- Contracts: families and their validity. Each holds under its own conditions. -/
set_option linter.unusedVariables false
set_option maxRecDepth 20000
namespace Go.Proofs.YtijmkfnmdhpakaaGreat.Am
open Go Go.RowKit Go.Proofs
section
variable {S : Ids} {H0 : AH}
theorem l00Rises (lo hi : Int) {a c} {xs : List Int} (hl : xs.length ≤ 1048576) (hs : (Kn.int .i64).Sl S H0 (.slice a xs.length c) xs) : Spec Tryz.prog S H0 80 [.slice a xs.length c, .int .i64 lo, .int .i64 hi] (fun v => v = .bool (tv (Rises lo hi xs))) := by
  refine Spec.of Tryz.func80 rfl (by kernel_rfl) rfl (fun H hfin hfz => ?_)
  have hs := hs.to hfz
  refine KW.lp rfl rfl (fun i : Nat => [(0, .slice a xs.length c), (1, .int .i64 lo), (2, .int .i64 hi), (7, .int .i64 i)]) (fun i => i ≤ xs.length ∧ ∀ j, j < i → RiseAt lo hi xs j) (fun i => xs.length - i) 0 ⟨by omega, fun j h => absurd h (by omega)⟩ ⟨rfl, rfl, rfl, rfl, trivial⟩ (fun i hi' b n => ?_)
  obtain ⟨hi', hr⟩ := hi'
  have e1 := inc64 (i := i) (by omega)
  have bad : i < xs.length → ¬ RiseAt lo hi xs i → aout [Value.bool false] = .bool (tv (Rises lo hi xs)) := fun hi hx => by
    rw [tv_false (fun hc => hx (hc i (by omega)))]; rfl
  refine KW.cnd rfl rfl (fun h => ?_) (fun h => KW.ret rfl rfl rfl rfl ?_)
  · refine KW.getI hs rfl rfl rfl rfl rfl rfl rfl rfl rfl rfl rfl rfl rfl rfl rfl rfl (by omega) h (fun y hy => ?_)
    have hy : xs.getD i 0 = y := getD_of hy
    refine KW.callE rfl rfl rfl rfl rfl (l00In _ _ _) (fun n' _ => ?_)
    refine KW.tstB rfl rfl (fun h1 => ?_) (fun h1 => ?_)
    · simp at h1
      refine KW.cndB rfl rfl (fun h => KW.ret rfl rfl rfl rfl (bad (by omega) (fun hx => ?_))) (fun h => absurd h (by decide))
      have := hx.1; omega
    · have h1 : lo ≤ y ∧ y ≤ hi := by simpa using h1
      refine KW.tst rfl rfl (fun h2 => ?_) (fun h2 => ?_)
      · have e2 : IntKind.i64.wrap ((i : Int) - 1) = ((i - 1 : Nat) : Int) := by rw [wr (by omega) (by omega)]; omega
        refine KW.getI hs rfl rfl rfl rfl rfl rfl rfl rfl rfl rfl rfl rfl rfl rfl rfl rfl (by rw [e2]; omega) (by rw [e2]; omega) (fun z hz => ?_)
        rw [e2] at hz
        have hz : xs.getD (i - 1) 0 = z := getD_of hz
        refine KW.getI hs rfl rfl rfl rfl rfl rfl rfl rfl rfl rfl rfl rfl rfl rfl rfl rfl (by omega) (by omega) (fun y1 hy1 => ?_)
        obtain rfl : y = y1 := hy.symm.trans (getD_of hy1)
        refine KW.cnd rfl rfl (fun h3 => KW.ret rfl rfl rfl rfl (bad (by omega) (fun hx => ?_))) (fun h3 => ?_)
        · have := hx.2 (by omega); omega
        · exact KW.nxt rfl rfl (fun H g => ⟨i + 1, ⟨by omega, upto hr ⟨by omega, fun _ => by omega⟩⟩, by omega, ⟨rfl, rfl, rfl, congrArg (Value.int .i64) e1, trivial⟩, g⟩)
      · refine KW.cndB rfl rfl (fun h => absurd h (by decide)) (fun _ => ?_)
        exact KW.nxt rfl rfl (fun H g => ⟨i + 1, ⟨by omega, upto hr ⟨by omega, fun _ => by omega⟩⟩, by omega, ⟨rfl, rfl, rfl, congrArg (Value.int .i64) e1, trivial⟩, g⟩)
  · rw [tv_true (p := Rises lo hi xs) (fun j hj => hr j (by omega))]; rfl
theorem l01Group (m : Int) {a c} {xs : List Int} (hl : xs.length ≤ 1048576) (hm : -9223372036854775807 ≤ m ∧ m ≤ 9223372036854775807) (hs : (Kn.int .i64).Sl S H0 (.slice a xs.length c) xs) : Spec Tryz.prog S H0 51 [.int .i64 m, .slice a xs.length c] (fun v => v = .bool (tv (Rises 0 (m - 1) xs))) := by
  refine Spec.of Tryz.func51 rfl (by kernel_rfl) rfl (fun H hfin hfz => ?_)
  have e : IntKind.i64.wrap (m - 1) = m - 1 := wr (by omega) (by omega)
  refine KW.callE rfl rfl rfl rfl rfl (by have := l00Rises 0 (IntKind.i64.wrap (m - 1)) hl (hs.to hfz); rw [e] at this ⊢; exact this) (fun n' _ => ?_)
  exact KW.ret rfl rfl rfl rfl rfl
end
end Go.Proofs.YtijmkfnmdhpakaaGreat.Am
/- Contracts: valid families. Each holds under its own conditions. -/
set_option linter.unusedVariables false
set_option maxRecDepth 20000
namespace Go.Proofs.YtijmkfnmdhpakaaGreat.Am
open Go Go.RowKit Go.Proofs
section
variable {S : Ids} {H0 : AH}
theorem Sml.at_ {gs : List (List Int)} (h : Sml gs) {i : Nat} {g : List Int} (hg : gs[i]? = some g) : g.length ≤ 1048576 := h.each g (List.mem_of_getElem? hg)
end
end Go.Proofs.YtijmkfnmdhpakaaGreat.Am
/- Contracts: the program's check of families, and the codes. Each holds under its own conditions. -/
set_option linter.unusedVariables false
set_option maxRecDepth 20000
namespace Go.Proofs.YtijmkfnmdhpakaaGreat.Am
open Go Go.RowKit Go.Proofs
section
variable {S : Ids} {H0 : AH}
def ImpAt (m : Int) (gs : List (List Int)) (i : Nat) : Prop := GrpAt m gs i ∧ ∀ j, j < i → ¬ Sub gs i j ∧ ¬ Sub gs j i
theorem fam_of_imp {m : Int} {gs : List (List Int)} (h1 : 1 ≤ m ∧ m ≤ 7) (h : ∀ i, i < gs.length → ImpAt m gs i) : FamOk m gs :=
  ⟨h1.1, h1.2, fun i hi => (h i hi).1, fun i hi j hj hne => by
    rcases Nat.lt_or_ge j i with hlt | hge
    · exact ((h i hi).2 j hlt).1
    · exact ((h j hj).2 i (by omega)).2⟩
theorem imp_of_fam {m : Int} {gs : List (List Int)} (h : FamOk m gs) (i : Nat) (hi : i < gs.length) : ImpAt m gs i :=
  ⟨h.grp i hi, fun j hj => ⟨h.free i hi j (by omega) (by omega), h.free j (by omega) i hi (by omega)⟩⟩
/-- The code of a family. -/
noncomputable def codeF (h : Int) (gs : List (List Int)) : Int := if tv (FamOk h gs) = true then (if h > 5 then 3 else if gs.length = 0 then 4 else if (gs.getD 0 []).length = 0 then 4 else 0) else 1
noncomputable def fitC (m u : Int) (l : List Int) (h : Int) (gs : List (List Int)) : Int := if tv (OkR m u l) = true then (if codeF h gs = 0 then (if m = h then 0 else 2) else codeF h gs) else 1
end
end Go.Proofs.YtijmkfnmdhpakaaGreat.Am
/- Contracts: which sets open, and the program's search for a misfit. Each holds under its own conditions. -/
set_option linter.unusedVariables false
set_option maxRecDepth 20000
namespace Go.Proofs.YtijmkfnmdhpakaaGreat.Am
open Go Go.RowKit Go.Proofs
theorem Fz.trans {S : Ids} {H0 H H' : AH} (h : Fz S H0 H) (k : Fz (Low H.n) H H') : Fz S H0 H' := fun id hid => by
  obtain ⟨h1, h2⟩ := h id hid
  obtain ⟨h3, h4⟩ := k id h1
  exact ⟨h3, h4.trans h2⟩
section
variable {S : Ids} {H0 : AH}
/-- A function value that tells something of each element. -/
def Tells {α : Type} (P : Program) (S : Ids) (H0 : AH) (d : Kn α) (xs : List (List α)) (g : FuncId) (cap : List Value) (p : List α → Bool) : Prop :=
  ∀ H', Fz S H0 H' → ∀ x a c, x ∈ xs → d.Sl (Low H'.n) H' (.slice a x.length c) x → Spec P (Low H'.n) H' g (.slice a x.length c :: cap) (fun v => v = .bool (p x))
theorem Tells.to {α : Type} {P : Program} {d : Kn α} {xs : List (List α)} {g : FuncId} {cap : List Value} {p : List α → Bool} {H : AH} (h : Tells P S H0 d xs g cap p) (hf : Fz S H0 H) : Tells P (Low H.n) H d xs g cap p := fun H' hf' => h H' (hf.trans hf')
theorem indexFunc2 {a c} {xs : List (List Int)} {g : FuncId} {id k : Nat} {sp : Option Nat} {p : List Int → Bool} (hl : xs.length ≤ 1048576) (hs : (Kn.int .i64).sl.Sl S H0 (.slice a xs.length c) xs) (hp : Tells Tryz.prog S H0 (Kn.int .i64) xs g [.pointer (some ⟨id, k, none⟩)] p) :
    Spec Tryz.prog S H0 171 [.slice a xs.length c, .func (.func g) #[] #[.pointer (some ⟨id, k, sp⟩)]] (fun v => ∃ r : Int, v = .int .i64 r ∧ (r ≥ 0 ↔ ∃ x ∈ xs, p x = true)) := by
  refine Spec.of Tryz.func171 rfl (by kernel_rfl) rfl (fun H hfin hfz => ?_)
  have hs := hs.to hfz
  have hp := hp.to hfz
  refine KW.lp rfl rfl (fun i : Nat => [(0, .slice a xs.length c), (1, .func (.func g) #[] #[.pointer (some ⟨id, k, sp⟩)]), (7, .int .i64 xs.length), (8, .int .i64 i)]) (fun i => i ≤ xs.length ∧ ∀ j, j < i → ∀ x, xs[j]? = some x → p x = false) (fun i => xs.length - i) 0 ⟨by omega, fun j h => absurd h (by omega)⟩ ⟨rfl, rfl, rfl, rfl, trivial⟩ (fun i hi b n => ?_)
  obtain ⟨hi, hj⟩ := hi
  refine KW.cnd rfl rfl (fun h => ?_) (fun h => KW.ret rfl rfl rfl rfl ⟨-1, rfl, ?_⟩)
  · refine KW.getL hs rfl rfl rfl rfl rfl rfl rfl rfl rfl rfl rfl rfl rfl rfl rfl rfl (by omega) h (fun x ax cx hx hsx => ?_)
    have hx : xs[i]? = some x := hx
    have hmem := List.mem_of_getElem? hx
    refine KW.callE rfl rfl rfl rfl rfl (hp H (fun id h => ⟨h, rfl⟩) x ax cx hmem hsx) (fun _ _ => ?_)
    refine KW.cndB rfl rfl (fun h2 => KW.ret rfl rfl rfl rfl ⟨(i : Int), rfl, ?_⟩) (fun h2 => ?_)
    · exact ⟨fun _ => ⟨x, hmem, h2⟩, fun _ => by omega⟩
    · exact KW.nxt rfl rfl (fun H g' => ⟨i + 1, ⟨by omega, upto hj (fun y hy => by rw [hx] at hy; cases hy; exact h2)⟩, by omega, ⟨rfl, rfl, rfl, congrArg (Value.int .i64) (inc64 (by omega)), trivial⟩, g'⟩)
  · refine ⟨fun h => absurd h (by decide), fun ⟨x, hx, hpx⟩ => ?_⟩
    obtain ⟨j, hjx⟩ := List.getElem?_of_mem hx
    have := hj j (by have := (List.getElem?_eq_some_iff.1 hjx).1; omega) x hjx
    rw [hpx] at this; cases this
theorem containsFunc2 {a c} {xs : List (List Int)} {g : FuncId} {id k : Nat} {sp : Option Nat} {p : List Int → Bool} (hl : xs.length ≤ 1048576) (hs : (Kn.int .i64).sl.Sl S H0 (.slice a xs.length c) xs) (hp : Tells Tryz.prog S H0 (Kn.int .i64) xs g [.pointer (some ⟨id, k, none⟩)] p) :
    Spec Tryz.prog S H0 160 [.slice a xs.length c, .func (.func g) #[] #[.pointer (some ⟨id, k, sp⟩)]] (fun v => v = .bool (tv (∃ x ∈ xs, p x = true))) := by
  refine Spec.of Tryz.func160 rfl (by kernel_rfl) rfl (fun H hfin hfz => ?_)
  refine KW.call rfl rfl rfl rfl rfl (indexFunc2 hl (hs.to hfz) (hp.to hfz)) (fun v n' _ hv => ?_)
  obtain ⟨r, rfl, hr⟩ := hv
  refine KW.ret rfl rfl rfl rfl ?_
  show Value.bool (decide (r ≥ 0)) = _
  rw [tv_dec, tv_congr hr]
/-- The set c has all holders of a group. -/
def Opens (gs : List (List Int)) (c : Nat) : Prop := ∃ g ∈ gs, c &&& bitsOf g = bitsOf g
/-- All groups are of holders below m. -/
def Below' (m : Nat) (gs : List (List Int)) : Prop := ∀ g ∈ gs, ∀ x ∈ g, 0 ≤ x ∧ x < (m : Int)
theorem below_bits {m : Nat} (hm : m ≤ 7) {gs : List (List Int)} (hb : Below' m gs) {g : List Int} (hg : g ∈ gs) : bitsOf g < 128 := by
  have h3 : bitsOf g < 2 ^ 7 := bitsOf_lt (fun x hx => by have := hb g hg x hx; omega)
  have h4 : (2 : Nat) ^ 7 = 128 := by decide
  omega
theorem FamOk.below {m : Int} {gs : List (List Int)} (h : FamOk m gs) : Below' m.toNat gs := fun g hg x hx => by
  obtain ⟨i, hi⟩ := List.getElem?_of_mem hg
  have h1 := (h.grp i (List.getElem?_eq_some_iff.1 hi).1).1
  rw [getDL_of hi] at h1
  exact rises_bound h.h1 h1 x hx
end
end Go.Proofs.YtijmkfnmdhpakaaGreat.Am
/- Contracts: the program's search for a misfit. Each holds under its own conditions. -/
set_option linter.unusedVariables false
set_option maxRecDepth 20000
namespace Go.Proofs.YtijmkfnmdhpakaaGreat.Am
open Go Go.RowKit Go.Proofs
def Grow (l : List Int) (u : Int) (gs : List (List Int)) (a b : Nat) : Prop := a &&& b = a ∧ ¬ Opens gs a ∧ Opens gs b ∧ l.getD b 0 < l.getD a 0 + u
def Meet (l : List Int) (u : Int) (gs : List (List Int)) (a b : Nat) : Prop := Opens gs a ∧ Opens gs b ∧ ¬ Opens gs (a &&& b) ∧ l.getD a 0 + l.getD b 0 < l.getD (a ||| b) 0 + l.getD (a &&& b) 0 + u
def Mis (l : List Int) (u : Int) (gs : List (List Int)) (a b : Nat) : Prop := Grow l u gs a b ∨ Meet l u gs a b
/-- The first misfit, or that there is none. -/
def Fst (l : List Int) (u : Int) (gs : List (List Int)) (a b : Nat) (f : Bool) : Prop :=
  (f = true ∧ a < l.length ∧ b < l.length ∧ Mis l u gs a b ∧ (∀ a', a' < a → ∀ b', b' < l.length → ¬ Mis l u gs a' b') ∧ ∀ b', b' < b → ¬ Mis l u gs a b') ∨
  (f = false ∧ a = 0 ∧ b = 0 ∧ ∀ a', a' < l.length → ∀ b', b' < l.length → ¬ Mis l u gs a' b')
theorem Fst.one {l : List Int} {u : Int} {gs : List (List Int)} {a b a' b' : Nat} {f f' : Bool} (h : Fst l u gs a b f) (k : Fst l u gs a' b' f') : a = a' ∧ b = b' ∧ f = f' := by
  rcases h with ⟨rfl, h1, h2, h3, h4, h5⟩ | ⟨rfl, rfl, rfl, h4⟩ <;> rcases k with ⟨rfl, k1, k2, k3, k4, k5⟩ | ⟨rfl, rfl, rfl, k4⟩
  · have ha : a = a' := by
      rcases Nat.lt_trichotomy a a' with h | h | h
      · exact absurd h3 (k4 a h b h2)
      · exact h
      · exact absurd k3 (h4 a' h b' k2)
    subst ha
    refine ⟨rfl, ?_, rfl⟩
    rcases Nat.lt_trichotomy b b' with h | h | h
    · exact absurd h3 (k5 b h)
    · exact h
    · exact absurd k3 (h5 b' h)
  · exact absurd h3 (k4 a h1 b h2)
  · exact absurd k3 (h4 a' k1 b' k2)
  · exact ⟨rfl, rfl, rfl⟩
section
variable {S : Ids} {H0 : AH}
end
end Go.Proofs.YtijmkfnmdhpakaaGreat.Am
/- Contracts: the reference's table of what opens, and its search for a misfit. Each holds under its own conditions. -/
set_option linter.unusedVariables false
set_option maxRecDepth 20000
namespace Go.Proofs.YtijmkfnmdhpakaaGreat.Am
open Go Go.RowKit Go.Proofs
theorem bool_sl {xs : List Bool} {S : Ids} {H : AH} {id c : Nat} {b : Blk} (hS : S id) (hb : H.m id = some b) (hc : b.cells = xs.map Value.bool) (hl : xs.length ≤ c) : Kn.bool.Sl S H (.slice (some ⟨id, 0, some 1⟩) xs.length c) xs := by
  refine .inr ⟨id, 0, c, b, rfl, hl, hS, hb, by rw [hc]; simp [Kn.bool], fun i x hx => ?_⟩
  obtain ⟨hi, rfl⟩ := List.getElem?_eq_some_iff.1 hx
  show _ = _
  rw [hc]
  show ((xs.map Value.bool).drop (0 + i * 1)).take 1 = _
  rw [List.take_one, Nat.zero_add, Nat.mul_one, List.head?_drop]
  simp [hi]
noncomputable def tabO (gs : List (List Int)) (n : Nat) : List Bool := (List.range n).map fun q => tv (Opens gs q)
theorem tabO_len (gs : List (List Int)) (n : Nat) : (tabO gs n).length = n := by simp [tabO]
theorem tabO_at {gs : List (List Int)} {n q : Nat} (h : q < n) {y : Bool} (hy : (tabO gs n)[q]? = some y) : y = tv (Opens gs q) := by
  unfold tabO at hy
  rw [List.getElem?_map, List.getElem?_range h] at hy
  simpa using hy.symm
theorem tabO_next (gs : List (List Int)) (n : Nat) : tabO gs (n + 1) = tabO gs n ++ [tv (Opens gs n)] := by simp [tabO, List.range_succ]
section
variable {S : Ids} {H0 : AH}
end
end Go.Proofs.YtijmkfnmdhpakaaGreat.Am
/- Contracts: FitsFamily, of the program and of the reference. Each holds under its own conditions. -/
set_option linter.unusedVariables false
set_option maxRecDepth 20000
namespace Go.Proofs.YtijmkfnmdhpakaaGreat.Am
open Go Go.RowKit Go.Proofs
/-- What both return. -/
noncomputable def fitsB (m u : Int) (l : List Int) (h : Int) (gs : List (List Int)) : Bool := if fitC m u l h gs = 0 then tv (∀ a, a < l.length → ∀ b, b < l.length → ¬ Mis l u gs a b) else false
noncomputable def fitsV (m u : Int) (l : List Int) (h : Int) (gs : List (List Int)) : Value := .tuple #[.bool (fitsB m u l h gs), .int .i64 (fitC m u l h gs)]
theorem fits_no {m u : Int} {l : List Int} {h : Int} {gs : List (List Int)} (e : ¬ fitC m u l h gs = 0) : fitsV m u l h gs = .tuple #[.bool false, .int .i64 (fitC m u l h gs)] := by unfold fitsV fitsB; rw [if_neg e]
theorem fits_yes {m u : Int} {l : List Int} {h : Int} {gs : List (List Int)} (e : fitC m u l h gs = 0) : fitsV m u l h gs = .tuple #[.bool (tv (∀ a, a < l.length → ∀ b, b < l.length → ¬ Mis l u gs a b)), .int .i64 0] := by unfold fitsV fitsB; rw [if_pos e, e]
theorem fitC_zero {m u : Int} {l : List Int} {h : Int} {gs : List (List Int)} (e : fitC m u l h gs = 0) : OkR m u l ∧ FamOk h gs ∧ m = h := by
  unfold fitC at e
  by_cases h1 : tv (OkR m u l) = true
  · rw [if_pos h1] at e
    by_cases h2 : codeF h gs = 0
    · rw [if_pos h2] at e
      by_cases h3 : m = h
      · refine ⟨tv_iff.1 h1, ?_, h3⟩
        unfold codeF at h2
        by_cases h4 : tv (FamOk h gs) = true
        · exact tv_iff.1 h4
        · rw [if_neg h4] at h2; omega
      · rw [if_neg h3] at e; omega
    · rw [if_neg h2] at e; omega
  · rw [if_neg h1] at e; omega
theorem Fst.none_ {l : List Int} {u : Int} {gs : List (List Int)} {a b : Nat} {f : Bool} (h : Fst l u gs a b f) : (!f) = tv (∀ a, a < l.length → ∀ b, b < l.length → ¬ Mis l u gs a b) := by
  rcases h with ⟨rfl, h1, h2, h3, _⟩ | ⟨rfl, _, _, h4⟩
  · rw [tv_false (fun hc => hc a h1 b h2 h3)]; rfl
  · rw [tv_true h4]; rfl
section
variable {S : Ids} {H0 : AH}
end
end Go.Proofs.YtijmkfnmdhpakaaGreat.Am
/- Contracts: sets as groups, marks on ranks and families. Each holds under its own conditions. -/
set_option linter.unusedVariables false
set_option maxRecDepth 20000
namespace Go.Proofs.YtijmkfnmdhpakaaGreat.Am
open Go Go.RowKit Go.Proofs
section
variable {P : Program} {S : Ids} {H0 : AH} {Q : PostC} {k k1 : List It} {e e1 : Env} {T T1 : List Var} {n n1 : Nat} {l1 r1 : List Nat} {d1 : Tmp}
theorem KW.shr {o : Oper} {dr : Bool} {t u : TypeId} {x y : Operand} {ik kk : IntKind} {j : Int} {v : Int} (h : Go1 P k e T n (.op o dr) k1 e1 T1 n1 l1 r1) (hlr : l1 = r1) (ho : o.op = .binOp .shr t x y u) (hd : o.dst = some d1) (hx : ev e1 x = .int ik v) (hy : ev e1 y = .int kk j) (hb : ik.bits = 64) (a m : Nat) (hv : v = a) (hj : j = m) (hm : m ≤ 63)
    (hk : KW P S H0 Q n1 T1 k1 (put1 e1 d1 (.int ik ((a / 2 ^ m : Nat) : Int)))) : KW P S H0 Q n T k e := by
  refine KW.pure h hlr ho hd rfl _ ?_ hk
  subst hj hv
  simp only [pop, hx, hy, abin, ashift]
  rw [if_neg (by omega), hb]
  have e1 : min (m : Int).toNat 64 = m := by omega
  rw [e1]
  congr 2
  rw [Int.fdiv_eq_ediv_of_nonneg _ (by exact Int.pow_nonneg (by decide))]
  exact_mod_cast rfl
end
/-- The holders below n that are in a set. -/
def hold (x n : Nat) : List Int := ((List.range n).filter fun i => x.testBit i).map fun (i : Nat) => (i : Int)
theorem hold_next (x n : Nat) : hold x (n + 1) = if x.testBit n = true then hold x n ++ [(n : Int)] else hold x n := by
  unfold hold
  rw [List.range_succ, List.filter_append, List.map_append]
  by_cases h : x.testBit n = true
  · simp [h]
  · have h : x.testBit n = false := by simpa using h
    simp [h]
theorem hold_len (x n : Nat) : (hold x n).length ≤ n := by
  unfold hold
  rw [List.length_map]
  exact Nat.le_trans (List.length_filter_le _ _) (by simp)
theorem hold_up {x m : Nat} (hx : x < 2 ^ m) : ∀ d, hold x (m + d) = hold x m
  | 0 => rfl
  | d + 1 => by
    rw [← Nat.add_assoc, hold_next, if_neg (by rw [Nat.testBit_lt_two_pow (Nat.lt_of_lt_of_le hx (Nat.pow_le_pow_right (by decide) (by omega)))]; decide)]
    exact hold_up hx d
theorem bit_is {x h : Nat} : (((x / 2 ^ h) &&& 1 : Nat) == 1) = x.testBit h := by
  rw [Nat.testBit_eq_decide_div_mod_eq, Nat.and_one_is_mod]
  rfl
section
variable {S : Ids} {H0 : AH}
theorem has {x h : Nat} (hx : x < 4611686018427387904) (hh : h ≤ 63) : Spec Tryz.prog S H0 127 [.int .u64 x, .int .i64 h] (fun v => v = .bool (x.testBit h)) := by
  refine Spec.of Tryz.func127 rfl (by kernel_rfl) rfl (fun H hfin hfz => ?_)
  refine KW.shr rfl rfl rfl rfl rfl rfl rfl x h rfl rfl hh ?_
  refine KW.ret rfl rfl rfl rfl ?_
  show Value.bool (IntKind.u64.wrap ((BitVec.ofInt IntKind.u64.bits ((x / 2 ^ h : Nat) : Int) &&& BitVec.ofInt IntKind.u64.bits ((1 : Nat) : Int)).toNat : Int) == ((1 : Nat) : Int)) = _
  rw [and_u64 (Nat.lt_of_le_of_lt (Nat.div_le_self _ _) hx) (by decide), ← bit_is]
  congr 1
  generalize x / 2 ^ h &&& 1 = q
  by_cases e : q = 1
  · subst e; rfl
  · rw [show (q == 1) = false from by simpa using e]
    simp only [beq_eq_false_iff_ne, ne_eq]
    omega
end
end Go.Proofs.YtijmkfnmdhpakaaGreat.Am
/- Contracts: rows held, products, shares, values and tags, of the program and of the reference. Each holds under its own conditions. -/
set_option linter.unusedVariables false
set_option maxRecDepth 20000
namespace Go.Proofs.YtijmkfnmdhpakaaGreat.Am
open Go Go.RowKit Go.Proofs
/-- The places below n of which q tells true. -/
def rowsP (q : Nat → Bool) (n : Nat) : List Int := ((List.range n).filter q).map fun (i : Nat) => (i : Int)
theorem rowsP_next (q : Nat → Bool) (n : Nat) : rowsP q (n + 1) = if q n = true then rowsP q n ++ [(n : Int)] else rowsP q n := by
  unfold rowsP
  rw [List.range_succ, List.filter_append, List.map_append]
  by_cases hc : q n = true
  · simp [hc]
  · have hc : q n = false := by simpa using hc
    simp [hc]
theorem rowsP_len (q : Nat → Bool) (n : Nat) : (rowsP q n).length ≤ n := by
  unfold rowsP
  rw [List.length_map]
  exact Nat.le_trans (List.length_filter_le _ _) (by simp)
theorem rowsP_mem {q : Nat → Bool} {n : Nat} {x : Int} (hx : x ∈ rowsP q n) : 0 ≤ x ∧ x < n := by
  unfold rowsP at hx
  obtain ⟨i, hi, rfl⟩ := List.mem_map.1 hx
  have := List.mem_range.1 (List.mem_filter.1 hi).1
  omega
theorem rowsP_congr {q q' : Nat → Bool} {n : Nat} (h : ∀ i, i < n → q i = q' i) : rowsP q n = rowsP q' n := by
  unfold rowsP
  congr 1
  exact List.filter_congr fun i hi => h i (List.mem_range.1 hi)
abbrev rowsOf (ow : List Int) (h : Int) : List Int := rowsP (fun i => decide (ow.getD i 0 = h)) ow.length
/-- Sums of products. -/
def dotN (a b : List Int) : Nat → Int
  | 0 => 0
  | n + 1 => dotN a b n + a.getD n 0 * b.getD n 0
def dotS (p : Int) (a b : List Int) : Int := dotN a b a.length % p
theorem elem_at {p : Int} {a : List Int} (h : Elems p a) (hp : 2 ≤ p) (i : Nat) : 0 ≤ a.getD i 0 ∧ a.getD i 0 ≤ p - 1 := by
  rcases Nat.lt_or_ge i a.length with hi | hi
  · rw [List.getD_eq_getElem?_getD, List.getElem?_eq_getElem hi]
    exact h _ (List.getElem_mem hi)
  · rw [List.getD_eq_getElem?_getD, List.getElem?_eq_none hi]
    show 0 ≤ (0 : Int) ∧ (0 : Int) ≤ p - 1
    omega
theorem mul_small {p x y : Int} (hp : p ≤ 31) (hx : 0 ≤ x ∧ x ≤ p - 1) (hy : 0 ≤ y ∧ y ≤ p - 1) : 0 ≤ x * y ∧ x * y ≤ 900 := by
  refine ⟨Int.mul_nonneg hx.1 hy.1, ?_⟩
  have h1 : x * y ≤ 30 * 30 := Int.mul_le_mul (by omega) (by omega) hy.1 (by omega)
  omega
theorem dotN_in {p : Int} {a b : List Int} (hp : PrimeP p) (ha : Elems p a) (hb : Elems p b) : ∀ n, 0 ≤ dotN a b n ∧ dotN a b n ≤ 900 * n
  | 0 => by simp [dotN]
  | n + 1 => by
    have h1 := dotN_in hp ha hb n
    have h2 := mul_small hp.2.1 (elem_at ha hp.1 n) (elem_at hb hp.1 n)
    simp only [dotN]
    omega
def shares (p : Int) (rows : List (List Int)) (all : List Int) : List Int := rows.map fun r => dotS p r all
theorem map_take_succ {α β : Type} (f : α → β) {xs : List α} {i : Nat} {x : α} (h : xs[i]? = some x) : (xs.take (i + 1)).map f = (xs.take i).map f ++ [f x] := by
  obtain ⟨hi, rfl⟩ := List.getElem?_eq_some_iff.1 h
  rw [List.take_succ_eq_append_getElem hi, List.map_append]; rfl
section
variable {S : Ids} {H0 : AH}
theorem dot (p : Int) (hp : PrimeP p) {a1 c1 a2 c2} {a b : List Int} (hl : a.length = b.length) (h12 : a.length ≤ 1048576) (ea : Elems p a) (eb : Elems p b) (ha : KI.Sl S H0 (.slice a1 a.length c1) a) (hb : KI.Sl S H0 (.slice a2 b.length c2) b) :
    Spec Tryz.prog S H0 133 [.int .i64 p, .slice a1 a.length c1, .slice a2 b.length c2] (fun v => v = .int .i64 (dotS p a b)) := by
  refine Spec.of1 Tryz.func133 rfl (by kernel_rfl) rfl (fun H _ => ?_)
  refine KW.lp rfl rfl (fun i : Nat => [(0, .int .i64 p), (2, .slice a2 b.length c2), (7, .int .i64 (dotN a b i)), (10, .slice a1 a.length c1), (11, .int .i64 a.length), (12, .int .i64 i)]) (fun i => i ≤ a.length) (fun i => a.length - i) (0) (by omega) ⟨rfl, rfl, rfl, rfl, rfl, rfl, trivial⟩ (fun i hi bE n => ?_)
  refine KW.cnd rfl rfl (fun h => ?_) (fun h => ?_)
  · refine KW.getI ha.up rfl rfl rfl rfl rfl rfl rfl rfl rfl rfl rfl rfl rfl rfl rfl rfl (by omega) (h) (fun x hx => ?_)
    refine KW.getI hb.up rfl rfl rfl rfl rfl rfl rfl rfl rfl rfl rfl rfl rfl rfl rfl rfl (by omega) (by omega) (fun y hy => ?_)
    have hx : a.getD i 0 = x := getD_of hx
    have hy : b.getD i 0 = y := getD_of hy
    have h1 := dotN_in hp ea eb i
    have h2 := mul_small hp.2.1 (elem_at ea hp.1 i) (elem_at eb hp.1 i)
    have e : dotN a b (i + 1) = dotN a b i + a.getD i 0 * b.getD i 0 := rfl
    rw [hx, hy] at h2 e
    have e2 : Value.int .i64 (IntKind.i64.wrap (dotN a b i + IntKind.i64.wrap (x * y))) = .int .i64 (dotN a b (i + 1)) := by
      rw [wr (x := x * y) (by omega) (by omega), wr (by omega) (by omega), e]
    refine KW.nxt rfl rfl (fun H' g => ⟨i + 1, by omega, by first | omega | (simp only; omega), ⟨rfl, rfl, e2, rfl, rfl, congrArg (Value.int .i64) (inc64 (by omega)), trivial⟩, g⟩)
  · obtain rfl : i = a.length := by omega
    have h1 := dotN_in hp ea eb a.length
    refine KW.rem rfl rfl rfl rfl rfl rfl (h1.1) (by have := hp.1; omega) ?_
    exact KW.ret rfl rfl rfl rfl (rfl)
theorem l03Dot (p : Int) (hp : PrimeP p) {a1 c1 a2 c2} {a b : List Int} (hl : a.length = b.length) (h12 : a.length ≤ 1048576) (ea : Elems p a) (eb : Elems p b) (ha : KI.Sl S H0 (.slice a1 a.length c1) a) (hb : KI.Sl S H0 (.slice a2 b.length c2) b) :
    Spec Tryz.prog S H0 126 [.int .i64 p, .slice a1 a.length c1, .slice a2 b.length c2] (fun v => v = .int .i64 (dotS p a b)) := by
  refine Spec.of1 Tryz.func126 rfl (by kernel_rfl) rfl (fun H _ => ?_)
  refine KW.lp rfl rfl (fun i : Nat => [(0, .int .i64 p), (1, .slice a1 a.length c1), (2, .slice a2 b.length c2), (7, .int .i64 (dotN a b i)), (8, .int .i64 i)]) (fun i => i ≤ a.length) (fun i => a.length - i) (0) (by omega) ⟨rfl, rfl, rfl, rfl, rfl, trivial⟩ (fun i hi bE n => ?_)
  refine KW.cnd rfl rfl (fun h => ?_) (fun h => ?_)
  · refine KW.getI ha.up rfl rfl rfl rfl rfl rfl rfl rfl rfl rfl rfl rfl rfl rfl rfl rfl (by omega) (h) (fun x hx => ?_)
    refine KW.getI hb.up rfl rfl rfl rfl rfl rfl rfl rfl rfl rfl rfl rfl rfl rfl rfl rfl (by omega) (by omega) (fun y hy => ?_)
    have hx : a.getD i 0 = x := getD_of hx
    have hy : b.getD i 0 = y := getD_of hy
    have h1 := dotN_in hp ea eb i
    have h2 := mul_small hp.2.1 (elem_at ea hp.1 i) (elem_at eb hp.1 i)
    have e : dotN a b (i + 1) = dotN a b i + a.getD i 0 * b.getD i 0 := rfl
    rw [hx, hy] at h2 e
    have e2 : Value.int .i64 (IntKind.i64.wrap (dotN a b i + IntKind.i64.wrap (x * y))) = .int .i64 (dotN a b (i + 1)) := by
      rw [wr (x := x * y) (by omega) (by omega), wr (by omega) (by omega), e]
    refine KW.nxt rfl rfl (fun H' g => ⟨i + 1, by omega, by first | omega | (simp only; omega), ⟨rfl, rfl, rfl, e2, congrArg (Value.int .i64) (inc64 (by omega)), trivial⟩, g⟩)
  · obtain rfl : i = a.length := by omega
    have h1 := dotN_in hp ea eb a.length
    refine KW.rem rfl rfl rfl rfl rfl rfl (h1.1) (by have := hp.1; omega) ?_
    exact KW.ret rfl rfl rfl rfl (rfl)
/-- What a maker of a list of numbers yields. -/
def MkL (xs : List Int) (n : Nat) (v : Value) (H1 : AH) : Prop := ∃ a c, v = .slice a xs.length c ∧ KI.Ml (New n H1.n) H1 (.slice a xs.length c) xs
theorem MkL.of {S0 : Ids} {H0 H1 : AH} {T : List Var} {n j id n0 : Nat} {ty : TypeId} {xs : List Int} (g : Good S0 H0 T n H1) (hj : T[j]? = some (id, ⟨ty, true, xs.map (Value.int .i64)⟩)) (hn : n0 ≤ id) : MkL xs n0 (.slice (some ⟨id, 0, some 1⟩) xs.length xs.length) H1 :=
  ⟨_, _, rfl, int_ml ⟨hn, (g.blk hj).2⟩ (g.blk hj).1 rfl rfl (Nat.le_refl _)⟩
theorem rowsHeld (h p c : Int) (x : Nat) (hx : x < 4611686018427387904) {a1 c1} {v2 : Option Addr} {n2 c2 : Nat} {ow : List Int} (hO : B_Int64S ow) (hown : ∀ x ∈ ow, 0 ≤ x ∧ x ≤ h - 1) (hh : h ≤ 7) (ho : KI.Sl S H0 (.slice a1 ow.length c1) ow) :
    SpecM Tryz.prog S H0 92 [.agg #[.int .i64 h, .slice a1 ow.length c1, .int .i64 p, .int .i64 c, .slice v2 n2 c2], .int .u64 (x : Int)] (MkL (rowsP (fun i => x.testBit (ow.getD i 0).toNat) ow.length)) := by
  refine SpecM.of1 Tryz.func92 rfl (by kernel_rfl) rfl (fun H _ => ?_)
  have hO' : ow.length ≤ 1048576 := hO
  refine KW.lit rfl rfl rfl rfl rfl rfl rfl rfl rfl rfl [] rfl rfl (fun v hv => by simp at hv) rfl ?_
  refine KW.lpM rfl rfl (fun s : Nat × Nat => [(1, .int .u64 (x : Int)), (5, .slice (some ⟨s.2, 0, some 1⟩) (rowsP (fun i => x.testBit (ow.getD i 0).toNat) s.1).length (rowsP (fun i => x.testBit (ow.getD i 0).toNat) s.1).length), (10, .slice a1 ow.length c1), (11, .int .i64 ow.length), (12, .int .i64 s.1)]) (fun s => Low H.n) (fun s => H) (fun s => [(H.n, ⟨_, true, _⟩), (s.2, ⟨_, true, (rowsP (fun i => x.testBit (ow.getD i 0).toNat) s.1).map (Value.int .i64)⟩)]) (fun s => s.1 ≤ ow.length) (fun s => ow.length - s.1) ((0, H.n + 1)) (by simp) ⟨rfl, rfl, rfl, rfl, rfl, trivial⟩ rfl rfl (rfl) (fun s hi bE n => ?_)
  obtain ⟨q, o⟩ := s
  simp only at hi
  have hq : (rowsP (fun i => x.testBit (ow.getD i 0).toNat) q).length ≤ q := rowsP_len _ q
  refine KW.cnd rfl rfl (fun k1 => ?_) (fun k1 => ?_)
  · refine KW.getI ho.up rfl rfl rfl rfl rfl rfl rfl rfl rfl rfl rfl rfl rfl rfl rfl rfl (by omega) (k1) (fun y hy => ?_)
    have hy' : ow[q]? = some y := hy
    have hyb := hown y (List.mem_of_getElem? hy')
    obtain ⟨z, rfl⟩ : ∃ z : Nat, y = z := ⟨y.toNat, by omega⟩
    have hyd : ow.getD q 0 = z := getD_of hy'
    have e := rowsP_next (fun i => x.testBit (ow.getD i 0).toNat) q
    simp only [hyd, Int.toNat_natCast] at e
    refine KW.callE rfl rfl rfl rfl rfl (has (x := x) (h := z) hx (by omega)) (fun _ _ => ?_)
    refine KW.cndB rfl rfl (fun k2 => ?_) (fun k2 => ?_)
    · rw [if_pos k2] at e
      refine KW.app1 (xs := (rowsP (fun i => x.testBit (ow.getD i 0).toNat) q).map (Value.int .i64)) (v := .int .i64 q) 1 2 rfl rfl rfl rfl rfl rfl rfl rfl rfl rfl rfl rfl rfl rfl rfl rfl rfl rfl rfl rfl rfl rfl rfl (by simp) (by show (_ + 1) * 8 ≤ _; first | omega | (simp only; omega)) (by first | omega | (simp only; omega)) ?_
      refine KW.nxt rfl rfl (fun H' g => ⟨(q + 1, _), by simp only; omega, by first | omega | (simp only; omega), ⟨rfl, by simp only [e, List.length_append, List.length_singleton]; rfl, rfl, rfl, congrArg (Value.int .i64) (inc64 (by omega)), trivial⟩, g.eqT (by simp only [e, List.map_append]; rfl)⟩)
    · rw [if_neg (by rw [k2]; decide)] at e
      refine KW.nxt rfl rfl (fun H' g => ⟨(q + 1, o), by simp only; omega, by first | omega | (simp only; omega), ⟨rfl, by simp only [e]; rfl, rfl, rfl, congrArg (Value.int .i64) (inc64 (by omega)), trivial⟩, g.eqT (by simp only [e])⟩)
  · obtain rfl : q = ow.length := by simp only at k1; omega
    refine KW.retM1 rfl rfl rfl rfl (fun H1 g => MkL.of g (j := 1) rfl (g.ge (H1 := H) (j := 1) rfl))
theorem l00Has (n0 : Int) {a c} {xs : List Int} (hl : xs.length ≤ 1048576) (hs : KI.Sl S H0 (.slice a xs.length c) xs) : Spec Tryz.prog S H0 159 [.slice a xs.length c, .int .i64 n0] (fun v => v = .bool (decide (n0 ∈ xs))) := by
  refine Spec.of1 Tryz.func159 rfl (by kernel_rfl) rfl (fun H _ => ?_)
  refine KW.lp rfl rfl (fun i : Nat => [(0, .slice a xs.length c), (1, .int .i64 n0), (5, .int .i64 i)]) (fun i => i ≤ xs.length ∧ ∀ j, j < i → ∀ x, xs[j]? = some x → x ≠ n0) (fun i => xs.length - i) (0) (⟨by omega, fun j h => absurd h (by omega)⟩) ⟨rfl, rfl, rfl, trivial⟩ (fun i hi bE n => ?_)
  obtain ⟨hi, hj⟩ := hi
  refine KW.cnd rfl rfl (fun k1 => ?_) (fun k1 => ?_)
  · refine KW.getI hs.up rfl rfl rfl rfl rfl rfl rfl rfl rfl rfl rfl rfl rfl rfl rfl rfl (by omega) (k1) (fun y hy => ?_)
    have hy : xs[i]? = some y := hy
    refine KW.cndB rfl rfl (fun k2 => ?_) (fun k2 => ?_)
    · have k2 : y = n0 := by simpa using k2
      exact KW.ret rfl rfl rfl rfl (by rw [← k2, decide_eq_true (List.mem_of_getElem? hy)]; rfl)
    · have k2 : y ≠ n0 := by simpa using k2
      refine KW.nxt rfl rfl (fun H' g => ⟨i + 1, ⟨by omega, upto hj (fun z hz => by rw [hy] at hz; cases hz; exact k2)⟩, by first | omega | (simp only; omega), ⟨rfl, rfl, congrArg (Value.int .i64) (inc64 (by omega)), trivial⟩, g⟩)
  · exact KW.ret rfl rfl rfl rfl (by rw [decide_eq_false (fun hm => all_of (fun j hjl => hj j (by omega)) n0 hm rfl)]; rfl)
theorem l04Held (h p c : Int) {id k : Nat} {a1 c1 a c2} {ow g0 : List Int} {v2 : Value} (hO : B_Int64S ow) (hG : g0.length ≤ 1048576) (hv : Has3 S H0 id k [.int .i64 h, .slice a1 ow.length c1, .int .i64 p, .int .i64 c, v2]) (ho : KI.Sl S H0 (.slice a1 ow.length c1) ow) (hg : KI.Sl S H0 (.slice a g0.length c2) g0) :
    SpecM Tryz.prog S H0 137 [.pointer (some ⟨id, k, none⟩), .slice a g0.length c2] (MkL (rowsP (fun i => decide (ow.getD i 0 ∈ g0)) ow.length)) := by
  refine SpecM.of1 Tryz.func137 rfl (by kernel_rfl) rfl (fun H _ => ?_)
  have hO' : ow.length ≤ 1048576 := hO
  have hv := hv.up (S' := Low H.n) (H' := H)
  refine KW.lit rfl rfl rfl rfl rfl rfl rfl rfl rfl rfl [] rfl rfl (fun v hv => by simp at hv) rfl ?_
  refine KW.lpM rfl rfl (fun s : Nat × Nat => [(0, .pointer (some ⟨id, k, none⟩)), (1, .slice a g0.length c2), (5, .slice (some ⟨s.2, 0, some 1⟩) (rowsP (fun i => decide (ow.getD i 0 ∈ g0)) s.1).length (rowsP (fun i => decide (ow.getD i 0 ∈ g0)) s.1).length), (6, .int .i64 s.1)]) (fun s => Low H.n) (fun s => H) (fun s => [(s.2, ⟨_, true, (rowsP (fun i => decide (ow.getD i 0 ∈ g0)) s.1).map (Value.int .i64)⟩)]) (fun s => s.1 ≤ ow.length) (fun s => ow.length - s.1) ((0, H.n)) (by simp) ⟨rfl, rfl, rfl, rfl, trivial⟩ rfl rfl (rfl) (fun s hi bE n => ?_)
  obtain ⟨q, o⟩ := s
  simp only at hi
  have hq : (rowsP (fun i => decide (ow.getD i 0 ∈ g0)) q).length ≤ q := rowsP_len _ q
  refine KW.ldF 1 hv rfl rfl rfl rfl rfl rfl rfl rfl rfl ?_
  refine KW.cnd rfl rfl (fun k1 => ?_) (fun k1 => ?_)
  · refine KW.ldF 1 hv rfl rfl rfl rfl rfl rfl rfl rfl rfl ?_
    refine KW.getI ho.up rfl rfl rfl rfl rfl rfl rfl rfl rfl rfl rfl rfl rfl rfl rfl rfl (by omega) (k1) (fun y hy => ?_)
    have hy' : ow[q]? = some y := hy
    have hyd : ow.getD q 0 = y := getD_of hy'
    have e := rowsP_next (fun i => decide (ow.getD i 0 ∈ g0)) q
    simp only [hyd] at e
    refine KW.callE rfl rfl rfl rfl rfl (l00Has y hG hg.up) (fun _ _ => ?_)
    refine KW.cndB rfl rfl (fun k2 => ?_) (fun k2 => ?_)
    · rw [if_pos k2] at e
      refine KW.app1 (xs := (rowsP (fun i => decide (ow.getD i 0 ∈ g0)) q).map (Value.int .i64)) (v := .int .i64 q) 0 1 rfl rfl rfl rfl rfl rfl rfl rfl rfl rfl rfl rfl rfl rfl rfl rfl rfl rfl rfl rfl rfl rfl rfl (by simp) (by show (_ + 1) * 8 ≤ _; first | omega | (simp only; omega)) (by first | omega | (simp only; omega)) ?_
      refine KW.nxt rfl rfl (fun H' g => ⟨(q + 1, _), by simp only; omega, by first | omega | (simp only; omega), ⟨rfl, rfl, by simp only [e, List.length_append, List.length_singleton]; rfl, congrArg (Value.int .i64) (inc64 (by omega)), trivial⟩, g.eqT (by simp only [e, List.map_append]; rfl)⟩)
    · rw [if_neg (by rw [k2]; decide)] at e
      refine KW.nxt rfl rfl (fun H' g => ⟨(q + 1, o), by simp only; omega, by first | omega | (simp only; omega), ⟨rfl, rfl, by simp only [e]; rfl, congrArg (Value.int .i64) (inc64 (by omega)), trivial⟩, g.eqT (by simp only [e])⟩)
  · obtain rfl : q = ow.length := by simp only at k1; omega
    refine KW.retM1 rfl rfl rfl rfl (fun H1 g => MkL.of g (j := 0) rfl (g.ge (H1 := H) (j := 0) rfl))
end
end Go.Proofs.YtijmkfnmdhpakaaGreat.Am
/- Contracts: shares, values, tags; copies and equality of rows. Each holds under its own conditions. -/
set_option linter.unusedVariables false
set_option maxRecDepth 20000
namespace Go.Proofs.YtijmkfnmdhpakaaGreat.Am
open Go Go.RowKit Go.Proofs
theorem elems_cons {p s : Int} {bl : List Int} (hs : 0 ≤ s ∧ s ≤ p - 1) (hb : Elems p bl) : Elems p (s :: bl) := fun x hx => by
  rcases List.mem_cons.1 hx with rfl | h
  · exact hs
  · exact hb x h
section
variable {S : Ids} {H0 : AH}
theorem sharesOf (h p c s : Int) {a1 c1 a2 c2 a3 c3} {ow bl : List Int} {rows : List (List Int)} (hO : B_Int64S ow) (hB : B_Int64SS rows) (hk : OkSch h ow p c rows) (hs : 0 ≤ s ∧ s ≤ p - 1) (hbl : (bl.length : Int) = c - 1) (hbe : Elems p bl)
    (h1 : KI.Sl S H0 (.slice a1 ow.length c1) ow) (h2 : KI.sl.Sl S H0 (.slice a2 rows.length c2) rows) (h3 : KI.Sl S H0 (.slice a3 bl.length c3) bl) :
    SpecM Tryz.prog S H0 144 [.agg #[.int .i64 h, .slice a1 ow.length c1, .int .i64 p, .int .i64 c, .slice a2 rows.length c2], .int .i64 s, .slice a3 bl.length c3] (fun n v H1 => ∃ v', v = .tuple #[v', .int .i64 0] ∧ MkL (shares p rows (s :: bl)) n v' H1) := by
  refine SpecM.of1 Tryz.func144 rfl (by kernel_rfl) rfl (fun H _ => ?_)
  have hp : I64 p := by unfold I64; have := hk.mat.pr.1; have := hk.mat.pr.2.1; omega
  have hc12 := hk.mat.c1
  have hc1 := hk.c1
  have hrl := hk.mat.len
  have ec : IntKind.i64.wrap (c - 1) = c - 1 := wr (by omega) (by omega)
  refine KW.callE rfl rfl rfl rfl rfl (validScheme h p c hp hO hB h1.up h2.up) (fun _ _ => ?_)
  rw [tv_true hk]
  refine KW.cF rfl rfl (by first | (simp; done) | decide) ?_
  refine KW.lit rfl rfl rfl rfl rfl rfl rfl rfl rfl rfl [.int .i64 s] rfl rfl (fun v hv => by simp at hv; subst hv; rfl) rfl ?_
  refine KW.callV1 rfl rfl rfl rfl rfl (fun H1 g _ => areElements p hp (xs := [s]) (by simp) (g.ints (j := 1) rfl rfl (by simp))) (fun _ _ => ?_)
  rw [tv_true (p := PrimeP p ∧ Elems p [s]) ⟨hk.mat.pr, fun x hx => by rw [List.mem_singleton.1 hx]; exact hs⟩]
  refine KW.tF rfl rfl (by first | (simp; done) | decide) ?_
  refine KW.callE rfl rfl rfl rfl rfl (areElements p hp (by omega) h3.up) (fun _ _ => ?_)
  rw [tv_true (p := PrimeP p ∧ Elems p bl) ⟨hk.mat.pr, hbe⟩]
  refine KW.tF rfl rfl (by first | (simp; done) | decide) ?_
  refine KW.cndB rfl rfl (fun k1 => ?_) (fun k1 => ?_)
  · rw [ec, hbl] at k1; simp at k1
  refine KW.lit rfl rfl rfl rfl rfl rfl rfl rfl rfl rfl [.int .i64 s] rfl rfl (fun v hv => by simp at hv; subst hv; rfl) rfl ?_
  refine KW.appV 2 rfl rfl rfl rfl rfl rfl rfl rfl rfl rfl (fun H1 g => acells_I h3.up g) (by simp) (by simp) (fun v hv => by obtain ⟨_, _, rfl⟩ := List.mem_map.1 hv; rfl) (by show (_ + _) * 8 ≤ _; simp only [List.length_cons, List.length_nil]; omega) (by simp only [List.length_cons, List.length_nil]; omega) (show 1 + bl.length = (s :: bl).length from by simp; omega) (fun oa _ _ => ?_)
  refine KW.lit rfl rfl rfl rfl rfl rfl rfl rfl rfl rfl [] rfl rfl (fun v hv => by simp at hv) rfl ?_
  refine KW.fact (p := ¬ oa < H.n) (fun _ g => (g.vars 2 _ rfl).2.2) (fun hoa => ?_)
  refine KW.lpM rfl rfl (fun q : Nat × Nat => [(3, .pointer (some ⟨H.n, 0, some 0⟩)), (8, .slice (some ⟨oa, 0, some 1⟩) (s :: bl).length (s :: bl).length), (9, .slice (some ⟨q.2, 0, some 1⟩) (shares p (rows.take q.1) (s :: bl)).length (shares p (rows.take q.1) (s :: bl)).length), (46, .slice a2 rows.length c2), (47, .int .i64 rows.length), (48, .int .i64 q.1)]) (fun q => Low H.n) (fun q => H) (fun q => [_, _, (oa, ⟨_, true, (s :: bl).map (Value.int .i64)⟩), (q.2, ⟨_, true, (shares p (rows.take q.1) (s :: bl)).map (Value.int .i64)⟩)]) (fun q => q.1 ≤ rows.length) (fun q => rows.length - q.1) ((0, _)) (by simp) ⟨rfl, rfl, rfl, rfl, rfl, rfl, trivial⟩ rfl rfl (rfl) (fun q hi bE n => ?_)
  obtain ⟨q, o⟩ := q
  simp only at hi
  have hq : (shares p (rows.take q) (s :: bl)).length ≤ q := by unfold shares; rw [List.length_map, List.length_take]; omega
  refine KW.cnd rfl rfl (fun k2 => ?_) (fun k2 => ?_)
  · refine KW.getL h2.up rfl rfl rfl rfl rfl rfl rfl rfl rfl rfl rfl rfl rfl rfl rfl rfl (by omega) (k2) (fun y a' m' hy hsy => ?_)
    have hy : rows[q]? = some y := hy
    have hym := hk.mat.row y (List.mem_of_getElem? hy)
    refine KW.callV1 rfl rfl rfl rfl rfl (fun H1 g _ => dot p hk.mat.pr (by simp; omega) (by omega) hym.2 (elems_cons hs hbe) hsy.up (g.ints (j := 2) rfl rfl (Nat.le_refl _))) (fun _ _ => ?_)
    have e : shares p (rows.take (q + 1)) (s :: bl) = shares p (rows.take q) (s :: bl) ++ [dotS p y (s :: bl)] := map_take_succ _ hy
    refine KW.app1 (xs := (shares p (rows.take q) (s :: bl)).map (Value.int .i64)) (v := .int .i64 (dotS p y (s :: bl))) 3 4 rfl rfl rfl rfl rfl rfl rfl rfl rfl rfl rfl rfl rfl rfl rfl rfl rfl rfl rfl rfl rfl rfl rfl (by simp) (by show (_ + 1) * 8 ≤ _; first | omega | (simp only; omega)) (by first | omega | (simp only; omega)) ?_
    refine KW.nxt rfl rfl (fun H' g => ⟨(q + 1, _), by simp only; omega, by first | omega | (simp only; omega), ⟨rfl, rfl, by simp only [e, List.length_append, List.length_singleton]; rfl, rfl, rfl, congrArg (Value.int .i64) (inc64 (by omega)), trivial⟩, g.eqT (by simp only [e, List.map_append]; rfl)⟩)
  · obtain rfl : q = rows.length := by simp only at k2; omega
    rw [List.take_of_length_le (Nat.le_refl _)]
    refine KW.retM1 rfl rfl rfl rfl (fun H1 g => ⟨_, rfl, MkL.of g (j := 3) rfl (g.ge (H1 := H) (j := 3) rfl)⟩)
theorem l04Shares (h p c s : Int) {id k : Nat} {a1 c1 a2 c2 a3 c3} {ow bl : List Int} {rows : List (List Int)} (hB : B_Int64SS rows) (hk : OkSch h ow p c rows) (hs : 0 ≤ s ∧ s ≤ p - 1) (hbl : (bl.length : Int) = c - 1) (hbe : Elems p bl)
    (hv : Has3 S H0 id k [.int .i64 h, .slice a1 ow.length c1, .int .i64 p, .int .i64 c, .slice a2 rows.length c2]) (h2 : KI.sl.Sl S H0 (.slice a2 rows.length c2) rows) (h3 : KI.Sl S H0 (.slice a3 bl.length c3) bl) :
    SpecM Tryz.prog S H0 136 [.pointer (some ⟨id, k, none⟩), .int .i64 s, .slice a3 bl.length c3] (MkL (shares p rows (s :: bl))) := by
  refine SpecM.of1 Tryz.func136 rfl (by kernel_rfl) rfl (fun H _ => ?_)
  have hv := hv.up (S' := Low H.n) (H' := H)
  have hc12 := hk.mat.c1
  have hc1 := hk.c1
  have hrl := hk.mat.len
  refine KW.lit rfl rfl rfl rfl rfl rfl rfl rfl rfl rfl [.int .i64 s] rfl rfl (fun v hv => by simp at hv; subst hv; rfl) rfl ?_
  refine KW.appV 0 rfl rfl rfl rfl rfl rfl rfl rfl rfl rfl (fun H1 g => acells_I h3.up g) (by simp) (by simp) (fun v hv => by obtain ⟨_, _, rfl⟩ := List.mem_map.1 hv; rfl) (by show (_ + _) * 8 ≤ _; simp only [List.length_cons, List.length_nil]; omega) (by simp only [List.length_cons, List.length_nil]; omega) (show 1 + bl.length = (s :: bl).length from by simp; omega) (fun oa _ _ => ?_)
  refine KW.lit rfl rfl rfl rfl rfl rfl rfl rfl rfl rfl [] rfl rfl (fun v hv => by simp at hv) rfl ?_
  refine KW.lpM rfl rfl (fun q : Nat × Nat => [(0, .pointer (some ⟨id, k, none⟩)), (7, .slice (some ⟨oa, 0, some 1⟩) (s :: bl).length (s :: bl).length), (8, .slice (some ⟨q.2, 0, some 1⟩) (shares p (rows.take q.1) (s :: bl)).length (shares p (rows.take q.1) (s :: bl)).length), (9, .int .i64 q.1)]) (fun q => Low H.n) (fun q => H) (fun q => [(oa, ⟨_, true, (s :: bl).map (Value.int .i64)⟩), (q.2, ⟨_, true, (shares p (rows.take q.1) (s :: bl)).map (Value.int .i64)⟩)]) (fun q => q.1 ≤ rows.length) (fun q => rows.length - q.1) ((0, _)) (by simp) ⟨rfl, rfl, rfl, rfl, trivial⟩ rfl rfl (rfl) (fun q hi bE n => ?_)
  obtain ⟨q, o⟩ := q
  simp only at hi
  have hq : (shares p (rows.take q) (s :: bl)).length ≤ q := by unfold shares; rw [List.length_map, List.length_take]; omega
  refine KW.ldF 4 hv rfl rfl rfl rfl rfl rfl rfl rfl rfl ?_
  refine KW.cnd rfl rfl (fun k2 => ?_) (fun k2 => ?_)
  · refine KW.ldF 2 hv rfl rfl rfl rfl rfl rfl rfl rfl rfl ?_
    refine KW.ldF 4 hv rfl rfl rfl rfl rfl rfl rfl rfl rfl ?_
    refine KW.getL h2.up rfl rfl rfl rfl rfl rfl rfl rfl rfl rfl rfl rfl rfl rfl rfl rfl (by omega) (k2) (fun y a' m' hy hsy => ?_)
    have hy : rows[q]? = some y := hy
    have hym := hk.mat.row y (List.mem_of_getElem? hy)
    refine KW.callV1 rfl rfl rfl rfl rfl (fun H1 g _ => l03Dot p hk.mat.pr (by simp; omega) (by omega) hym.2 (elems_cons hs hbe) hsy.up (g.ints (j := 0) rfl rfl (Nat.le_refl _))) (fun _ _ => ?_)
    have e : shares p (rows.take (q + 1)) (s :: bl) = shares p (rows.take q) (s :: bl) ++ [dotS p y (s :: bl)] := map_take_succ _ hy
    refine KW.app1 (xs := (shares p (rows.take q) (s :: bl)).map (Value.int .i64)) (v := .int .i64 (dotS p y (s :: bl))) 1 2 rfl rfl rfl rfl rfl rfl rfl rfl rfl rfl rfl rfl rfl rfl rfl rfl rfl rfl rfl rfl rfl rfl rfl (by simp) (by show (_ + 1) * 8 ≤ _; first | omega | (simp only; omega)) (by first | omega | (simp only; omega)) ?_
    refine KW.nxt rfl rfl (fun H' g => ⟨(q + 1, _), by simp only; omega, by first | omega | (simp only; omega), ⟨rfl, rfl, by simp only [e, List.length_append, List.length_singleton]; rfl, congrArg (Value.int .i64) (inc64 (by omega)), trivial⟩, g.eqT (by simp only [e, List.map_append]; rfl)⟩)
  · obtain rfl : q = rows.length := by simp only at k2; omega
    rw [List.take_of_length_le (Nat.le_refl _)]
    refine KW.retM1 rfl rfl rfl rfl (fun H1 g => MkL.of g (j := 1) rfl (g.ge (H1 := H) (j := 1) rfl))
end
/-- The shares of the rows of a holder. -/
def valsOf (p : Int) (rows : List (List Int)) (ow : List Int) (s : Int) (bl : List Int) (j : Int) : List Int := (rowsOf ow j).map fun i => (shares p rows (s :: bl)).getD i.toNat 0
theorem rows_bit {ow : List Int} (h : ∀ x ∈ ow, 0 ≤ x) (j : Nat) : rowsP (fun i => (2 ^ j : Nat).testBit (ow.getD i 0).toNat) ow.length = rowsOf ow j := rowsP_congr fun i hi => by
  have h1 : 0 ≤ ow.getD i 0 := by rw [List.getD_eq_getElem?_getD, List.getElem?_eq_getElem hi]; exact h _ (List.getElem_mem hi)
  rw [Nat.testBit_two_pow]
  exact decide_eq_decide.2 ⟨fun h => by omega, fun h => by omega⟩
theorem rows_one (ow : List Int) (j : Int) : rowsP (fun i => decide (ow.getD i 0 ∈ [j])) ow.length = rowsOf ow j := rowsP_congr fun i hi => by simp
theorem dotS_in {p : Int} {a b : List Int} (hp : PrimeP p) : 0 ≤ dotS p a b ∧ dotS p a b ≤ p - 1 := by
  unfold dotS
  have h1 := hp.1
  have := Int.emod_nonneg (dotN a b a.length) (show p ≠ 0 by omega)
  have := Int.emod_lt_of_pos (dotN a b a.length) (show 0 < p by omega)
  omega
theorem shares_in {p : Int} {rows : List (List Int)} {all : List Int} (hp : PrimeP p) : Elems p (shares p rows all) := fun x hx => by
  obtain ⟨r, _, rfl⟩ := List.mem_map.1 hx
  exact dotS_in hp
theorem vals_in {p s j : Int} {rows : List (List Int)} {ow bl : List Int} (hp : PrimeP p) : Elems p (valsOf p rows ow s bl j) := fun x hx => by
  obtain ⟨i, _, rfl⟩ := List.mem_map.1 hx
  exact elem_at (shares_in hp) hp.1 _
theorem vals_len {p s j : Int} {rows : List (List Int)} {ow bl : List Int} : (valsOf p rows ow s bl j).length = (rowsOf ow j).length := by simp [valsOf]
/-- The tags of values for the rows R, by the keys kk. -/
def tagAt (p : Int) (kk : List (List Int)) (R vals : List Int) (k : Nat) : Int := ((kk.getD (R.getD k 0).toNat []).getD 0 0 * vals.getD k 0 + (kk.getD (R.getD k 0).toNat []).getD 1 0) % p
def tagsOf (p : Int) (kk : List (List Int)) (R vals : List Int) : List Int := (List.range R.length).map (tagAt p kk R vals)
theorem range_map_succ {α : Type} (f : Nat → α) (n : Nat) : (List.range (n + 1)).map f = (List.range n).map f ++ [f n] := by rw [List.range_succ, List.map_append]; rfl
section
variable {S : Ids} {H0 : AH}
theorem values (h p c s : Int) (e j : Nat) {a1 c1 a2 c2 a3 c3} {a4 : Option Addr} {n4 c4 : Nat} {ow bl : List Int} {rows bs : List (List Int)} (hO : B_Int64S ow) (hB : B_Int64SS rows) (hk : OkSch h ow p c rows) (hs : 0 ≤ s ∧ s ≤ p - 1) (he : bs[e]? = some bl) (hbl : (bl.length : Int) = c - 1) (hbe : Elems p bl) (hj : j ≤ 6)
    (h1 : KI.Sl S H0 (.slice a1 ow.length c1) ow) (h2 : KI.sl.Sl S H0 (.slice a2 rows.length c2) rows) (h3 : KI.sl.Sl S H0 (.slice a3 bs.length c3) bs) :
    SpecM Tryz.prog S H0 116 [.agg #[.int .i64 h, .slice a1 ow.length c1, .int .i64 p, .int .i64 c, .slice a2 rows.length c2, .int .i64 s, .slice a3 bs.length c3, .slice a4 n4 c4], .int .i64 e, .int .i64 j] (MkL (valsOf p rows ow s bl j)) := by
  refine SpecM.of1 Tryz.func116 rfl (by kernel_rfl) rfl (fun H _ => ?_)
  have hrl := hk.mat.len
  have hol := hk.len
  have hel := (List.getElem?_eq_some_iff.1 he).1
  refine KW.getL h3.up rfl rfl rfl rfl rfl rfl rfl rfl rfl rfl rfl rfl rfl rfl rfl rfl (by omega) (by omega) (fun y a' m' hy hsy => ?_)
  have hy : bs[e]? = some y := hy
  rw [he] at hy
  cases hy
  refine KW.callN1 rfl rfl rfl rfl rfl (sharesOf h p c s hO hB hk hs hbl hbe h1.up h2.up hsy) (fun v HA SA mA _ _ hv => ?_)
  obtain ⟨v', rfl, a5, c5, rfl, hA⟩ := hv
  refine KW.lit rfl rfl rfl rfl rfl rfl rfl rfl rfl rfl [] rfl rfl (fun v hv => by simp at hv) rfl ?_
  refine KW.shlU rfl rfl rfl rfl rfl rfl j rfl (by omega) ?_
  have hp := small_pow (m := j) (by omega)
  refine KW.callN1 rfl rfl rfl rfl rfl (rowsHeld h p c (2 ^ j) (by omega) hO hk.own hk.h7 h1.up) (fun v HR SR mR _ _ hv => ?_)
  obtain ⟨a6, c6, rfl, hR⟩ := hv
  rw [rows_bit (fun x hx => (hk.own x hx).1)] at hR ⊢
  have hRl : (rowsOf ow j).length ≤ ow.length := rowsP_len _ _
  have hRm : ∀ x ∈ rowsOf ow j, 0 ≤ x ∧ x < ow.length := fun x hx => rowsP_mem hx
  have hval : valsOf p rows ow s bl j = (rowsOf ow j).map fun i => (shares p rows (s :: bl)).getD i.toNat 0 := rfl
  rw [hval]
  have hsl : (shares p rows (s :: bl)).length = rows.length := by simp [shares]
  obtain ⟨R, hRe⟩ : ∃ R, rowsOf ow j = R := ⟨_, rfl⟩
  rw [hRe] at hR hRl hRm ⊢
  obtain ⟨A, hAe⟩ : ∃ A, shares p rows (s :: bl) = A := ⟨_, rfl⟩
  rw [hAe] at hA hsl ⊢
  refine KW.lpM rfl rfl (fun q : Nat × Nat => [(7, .slice a5 A.length c5), (9, .slice (some ⟨q.2, 0, some 1⟩) ((R.take q.1).map fun i => A.getD i.toNat 0).length ((R.take q.1).map fun i => A.getD i.toNat 0).length), (30, .slice a6 R.length c6), (31, .int .i64 R.length), (32, .int .i64 q.1)]) (fun q => SR) (fun q => HR) (fun q => [_, (q.2, ⟨_, true, ((R.take q.1).map fun i => A.getD i.toNat 0).map (Value.int .i64)⟩)]) (fun q => q.1 ≤ R.length) (fun q => R.length - q.1) ((0, _)) (by simp) ⟨rfl, rfl, rfl, rfl, rfl, trivial⟩ rfl rfl (rfl) (fun q hi bE n => ?_)
  obtain ⟨q, o⟩ := q
  simp only at hi
  have hq : ((R.take q).map fun i => A.getD i.toNat 0).length ≤ q := by rw [List.length_map, List.length_take]; omega
  refine KW.cnd rfl rfl (fun k2 => ?_) (fun k2 => ?_)
  · refine KW.getI hR.ups rfl rfl rfl rfl rfl rfl rfl rfl rfl rfl rfl rfl rfl rfl rfl rfl (by omega) (k2) (fun x hx => ?_)
    have hx : R[q]? = some x := hx
    have hxm := hRm x (List.mem_of_getElem? hx)
    refine KW.getI hA.ups rfl rfl rfl rfl rfl rfl rfl rfl rfl rfl rfl rfl rfl rfl rfl rfl (by omega) (by omega) (fun y hy => ?_)
    have hy : A.getD x.toNat 0 = y := getD_of hy
    have e1 := map_take_succ (fun i : Int => A.getD i.toNat 0) hx
    rw [hy] at e1
    refine KW.app1 (xs := ((R.take q).map fun i => A.getD i.toNat 0).map (Value.int .i64)) (v := .int .i64 y) 1 2 rfl rfl rfl rfl rfl rfl rfl rfl rfl rfl rfl rfl rfl rfl rfl rfl rfl rfl rfl rfl rfl rfl rfl (by simp) (by show (_ + 1) * 8 ≤ _; first | omega | (simp only; omega)) (by first | omega | (simp only; omega)) ?_
    refine KW.nxt rfl rfl (fun H' g => ⟨(q + 1, _), by simp only; omega, by first | omega | (simp only; omega), ⟨rfl, by simp only [e1, List.length_append, List.length_singleton]; rfl, rfl, rfl, congrArg (Value.int .i64) (inc64 (by omega)), trivial⟩, g.eqT (by simp only [e1, List.map_append]; rfl)⟩)
  · obtain rfl : q = R.length := by simp only at k2; omega
    rw [List.take_of_length_le (Nat.le_refl _)]
    refine KW.retM1 rfl rfl rfl rfl (fun H1 g => MkL.of g (j := 1) rfl (g.ge (H1 := H) (j := 1) rfl))
theorem l08Values (h p c s : Int) (e j : Nat) {id k : Nat} {a1 c1 a2 c2 a3 c3} {v4 : Value} {ow bl : List Int} {rows bs : List (List Int)} (hO : B_Int64S ow) (hB : B_Int64SS rows) (hk : OkSch h ow p c rows) (hs : 0 ≤ s ∧ s ≤ p - 1) (he : bs[e]? = some bl) (hbl : (bl.length : Int) = c - 1) (hbe : Elems p bl)
    (hv : Has3 S H0 id k [.int .i64 h, .slice a1 ow.length c1, .int .i64 p, .int .i64 c, .slice a2 rows.length c2, .int .i64 s, .slice a3 bs.length c3, v4])
    (h1 : KI.Sl S H0 (.slice a1 ow.length c1) ow) (h2 : KI.sl.Sl S H0 (.slice a2 rows.length c2) rows) (h3 : KI.sl.Sl S H0 (.slice a3 bs.length c3) bs) :
    SpecM Tryz.prog S H0 102 [.pointer (some ⟨id, k, none⟩), .int .i64 e, .int .i64 j] (MkL (valsOf p rows ow s bl j)) := by
  refine SpecM.of1 Tryz.func102 rfl (by kernel_rfl) rfl (fun H _ => ?_)
  have hv := hv.up (S' := Low H.n) (H' := H)
  have hrl := hk.mat.len
  have hol := hk.len
  have hel := (List.getElem?_eq_some_iff.1 he).1
  refine KW.ldF 5 hv rfl rfl rfl rfl rfl rfl rfl rfl rfl ?_
  refine KW.ldF 6 hv rfl rfl rfl rfl rfl rfl rfl rfl rfl ?_
  refine KW.getL h3.up rfl rfl rfl rfl rfl rfl rfl rfl rfl rfl rfl rfl rfl rfl rfl rfl (by omega) (by omega) (fun y a' m' hy hsy => ?_)
  have hy : bs[e]? = some y := hy
  rw [he] at hy
  cases hy
  refine KW.callN1 rfl rfl rfl rfl rfl (l04Shares h p c s hB hk hs hbl hbe (hv.take (vs := [_, _, _, _, _])) h2.up hsy) (fun v HA SA mA _ _ hv => ?_)
  obtain ⟨a5, c5, rfl, hA⟩ := hv
  refine KW.lit rfl rfl rfl rfl rfl rfl rfl rfl rfl rfl [.int .i64 j] rfl rfl (fun v hv => by simp at hv; subst hv; rfl) rfl ?_
  refine KW.callNV1 rfl rfl rfl rfl rfl (fun H1 g _ => l04Held h p c (g0 := [(j : Int)]) hO (by simp) ((hv.take (vs := [_, _, _, _, _])).up) h1.up (g.ints (j := 0) rfl rfl (by simp))) (fun v HR SR mR _ _ hv => ?_)
  obtain ⟨a6, c6, rfl, hR⟩ := hv
  rw [rows_one] at hR ⊢
  refine KW.lit rfl rfl rfl rfl rfl rfl rfl rfl rfl rfl [] rfl rfl (fun v hv => by simp at hv) rfl ?_
  have hRl : (rowsOf ow j).length ≤ ow.length := rowsP_len _ _
  have hRm : ∀ x ∈ rowsOf ow j, 0 ≤ x ∧ x < ow.length := fun x hx => rowsP_mem hx
  have hval : valsOf p rows ow s bl j = (rowsOf ow j).map fun i => (shares p rows (s :: bl)).getD i.toNat 0 := rfl
  rw [hval]
  have hsl : (shares p rows (s :: bl)).length = rows.length := by simp [shares]
  obtain ⟨R, hRe⟩ : ∃ R, rowsOf ow j = R := ⟨_, rfl⟩
  rw [hRe] at hR hRl hRm ⊢
  obtain ⟨A, hAe⟩ : ∃ A, shares p rows (s :: bl) = A := ⟨_, rfl⟩
  rw [hAe] at hA hsl ⊢
  refine KW.lpM rfl rfl (fun q : Nat × Nat => [(7, .slice a5 A.length c5), (8, .slice a6 R.length c6), (9, .slice (some ⟨q.2, 0, some 1⟩) ((R.take q.1).map fun i => A.getD i.toNat 0).length ((R.take q.1).map fun i => A.getD i.toNat 0).length), (10, .int .i64 q.1)]) (fun q => SR) (fun q => HR) (fun q => [_, (q.2, ⟨_, true, ((R.take q.1).map fun i => A.getD i.toNat 0).map (Value.int .i64)⟩)]) (fun q => q.1 ≤ R.length) (fun q => R.length - q.1) ((0, _)) (by simp) ⟨rfl, rfl, rfl, rfl, trivial⟩ rfl rfl (rfl) (fun q hi bE n => ?_)
  obtain ⟨q, o⟩ := q
  simp only at hi
  have hq : ((R.take q).map fun i => A.getD i.toNat 0).length ≤ q := by rw [List.length_map, List.length_take]; omega
  refine KW.cnd rfl rfl (fun k2 => ?_) (fun k2 => ?_)
  · refine KW.getI hR.ups rfl rfl rfl rfl rfl rfl rfl rfl rfl rfl rfl rfl rfl rfl rfl rfl (by omega) (k2) (fun x hx => ?_)
    have hx : R[q]? = some x := hx
    have hxm := hRm x (List.mem_of_getElem? hx)
    refine KW.getI hA.ups rfl rfl rfl rfl rfl rfl rfl rfl rfl rfl rfl rfl rfl rfl rfl rfl (by omega) (by omega) (fun y hy => ?_)
    have hy : A.getD x.toNat 0 = y := getD_of hy
    have e1 := map_take_succ (fun i : Int => A.getD i.toNat 0) hx
    rw [hy] at e1
    refine KW.app1 (xs := ((R.take q).map fun i => A.getD i.toNat 0).map (Value.int .i64)) (v := .int .i64 y) 1 2 rfl rfl rfl rfl rfl rfl rfl rfl rfl rfl rfl rfl rfl rfl rfl rfl rfl rfl rfl rfl rfl rfl rfl (by simp) (by show (_ + 1) * 8 ≤ _; first | omega | (simp only; omega)) (by first | omega | (simp only; omega)) ?_
    refine KW.nxt rfl rfl (fun H' g => ⟨(q + 1, _), by simp only; omega, by first | omega | (simp only; omega), ⟨rfl, rfl, by simp only [e1, List.length_append, List.length_singleton]; rfl, congrArg (Value.int .i64) (inc64 (by omega)), trivial⟩, g.eqT (by simp only [e1, List.map_append]; rfl)⟩)
  · obtain rfl : q = R.length := by simp only at k2; omega
    rw [List.take_of_length_le (Nat.le_refl _)]
    refine KW.retM1 rfl rfl rfl rfl (fun H1 g => MkL.of g (j := 1) rfl (g.ge (H1 := H) (j := 1) rfl))
theorem tag_val {p k0 k1 v : Int} (hp : PrimeP p) (h0 : 0 ≤ k0 ∧ k0 ≤ p - 1) (h1 : 0 ≤ k1 ∧ k1 ≤ p - 1) (hv : 0 ≤ v ∧ v ≤ p - 1) : IntKind.i64.wrap (IntKind.i64.wrap (k0 * v) + k1) = k0 * v + k1 ∧ 0 ≤ k0 * v + k1 := by
  have h2 := mul_small hp.2.1 h0 hv
  have h3 := hp.2.1
  rw [wr (x := k0 * v) (by omega) (by omega), wr (by omega) (by omega)]
  exact ⟨rfl, by omega⟩
theorem tags (h p c s : Int) (e j : Nat) {a1 c1 a2 c2 a4 c4 a5 c5} {a3 : Option Addr} {n3 c3 : Nat} {ow vals : List Int} {rows kk : List (List Int)} {ks : List (List (List Int))} (hO : B_Int64S ow) (hBk : B_Int64SSS ks) (hk : OkSch h ow p c rows) (he : ks[e]? = some kk) (hkk : KeysOk p rows.length kk) (hj : j ≤ 6) (hvl : vals.length = (rowsOf ow j).length) (hve : Elems p vals)
    (h1 : KI.Sl S H0 (.slice a1 ow.length c1) ow) (h4 : KI.sl.sl.Sl S H0 (.slice a4 ks.length c4) ks) (h5 : KI.Sl S H0 (.slice a5 vals.length c5) vals) :
    SpecM Tryz.prog S H0 118 [.agg #[.int .i64 h, .slice a1 ow.length c1, .int .i64 p, .int .i64 c, .slice a2 rows.length c2, .int .i64 s, .slice a3 n3 c3, .slice a4 ks.length c4], .int .i64 e, .int .i64 j, .slice a5 vals.length c5] (MkL (tagsOf p kk (rowsOf ow j) vals)) := by
  refine SpecM.of1 Tryz.func118 rfl (by kernel_rfl) rfl (fun H _ => ?_)
  have hrl := hk.mat.len
  have hol := hk.len
  have hel := (List.getElem?_eq_some_iff.1 he).1
  have hpr := hk.mat.pr
  refine KW.lit rfl rfl rfl rfl rfl rfl rfl rfl rfl rfl [] rfl rfl (fun v hv => by simp at hv) rfl ?_
  refine KW.shlU rfl rfl rfl rfl rfl rfl j rfl (by omega) ?_
  have hp := small_pow (m := j) (by omega)
  refine KW.callN1 rfl rfl rfl rfl rfl (rowsHeld h p c (2 ^ j) (by omega) hO hk.own hk.h7 h1.up) (fun v HR SR mR _ _ hv => ?_)
  obtain ⟨a6, c6, rfl, hR⟩ := hv
  rw [rows_bit (fun x hx => (hk.own x hx).1)] at hR ⊢
  have hRl : (rowsOf ow j).length ≤ ow.length := rowsP_len _ _
  have hRm : ∀ x ∈ rowsOf ow j, 0 ≤ x ∧ x < ow.length := fun x hx => rowsP_mem hx
  obtain ⟨R, hRe⟩ : ∃ R, rowsOf ow j = R := ⟨_, rfl⟩
  rw [hRe] at hR hRl hRm hvl ⊢
  refine KW.lpM rfl rfl (fun q : Nat × Nat => [(1, .int .i64 e), (3, .slice a5 vals.length c5), (4, .pointer (some ⟨H.n, 0, some 0⟩)), (9, .slice (some ⟨q.2, 0, some 1⟩) ((List.range q.1).map (tagAt p kk R vals)).length ((List.range q.1).map (tagAt p kk R vals)).length), (18, .slice a6 R.length c6), (19, .int .i64 R.length), (20, .int .i64 q.1)]) (fun q => SR) (fun q => HR) (fun q => [(H.n, ⟨40, true, [.int .i64 h, .slice a1 ow.length c1, .int .i64 p, .int .i64 c, .slice a2 rows.length c2, .int .i64 s, .slice a3 n3 c3, .slice a4 ks.length c4]⟩), (q.2, ⟨_, true, ((List.range q.1).map (tagAt p kk R vals)).map (Value.int .i64)⟩)]) (fun q => q.1 ≤ R.length) (fun q => R.length - q.1) ((0, _)) (by simp) ⟨rfl, rfl, rfl, rfl, rfl, rfl, rfl, trivial⟩ rfl rfl (rfl) (fun q hi bE n => ?_)
  obtain ⟨q, o⟩ := q
  simp only at hi
  have hq : ((List.range q).map (tagAt p kk R vals)).length ≤ q := by simp
  refine KW.cnd rfl rfl (fun k2 => ?_) (fun k2 => ?_)
  · refine KW.getI hR.ups rfl rfl rfl rfl rfl rfl rfl rfl rfl rfl rfl rfl rfl rfl rfl rfl (by omega) (k2) (fun x hx => ?_)
    have hx : R[q]? = some x := hx
    have hxm := hRm x (List.mem_of_getElem? hx)
    refine KW.getL h4.up rfl rfl rfl rfl rfl rfl rfl rfl rfl rfl rfl rfl rfl rfl rfl rfl (by omega) (by omega) (fun kk' b1 d1 hk1 hs1 => ?_)
    have hk1 : ks[e]? = some kk' := hk1
    rw [he] at hk1
    cases hk1
    have hkl := hkk.1
    refine KW.getL hs1 rfl rfl rfl rfl rfl rfl rfl rfl rfl rfl rfl rfl rfl rfl rfl rfl (by omega) (by omega) (fun ky b2 d2 hk2 hs2 => ?_)
    have hk2 : kk[x.toNat]? = some ky := hk2
    have hky := hkk.2 ky (List.mem_of_getElem? hk2)
    have hkyl := hky.1
    refine KW.getI hs2 rfl rfl rfl rfl rfl rfl rfl rfl rfl rfl rfl rfl rfl rfl rfl rfl (by omega) (by omega) (fun k0 hk0 => ?_)
    refine KW.getI h5.up rfl rfl rfl rfl rfl rfl rfl rfl rfl rfl rfl rfl rfl rfl rfl rfl (by omega) (by omega) (fun v hv => ?_)
    refine KW.getI hs2 rfl rfl rfl rfl rfl rfl rfl rfl rfl rfl rfl rfl rfl rfl rfl rfl (by omega) (by omega) (fun k1 hk1' => ?_)
    have ek0 : ky.getD 0 0 = k0 := getD_of hk0
    have ek1 : ky.getD 1 0 = k1 := getD_of hk1'
    have ev : vals.getD q 0 = v := getD_of hv
    have eR : R.getD q 0 = x := getD_of hx
    have ekk : kk.getD x.toNat [] = ky := by rw [List.getD_eq_getElem?_getD, hk2]; rfl
    have et : tagAt p kk R vals q = (k0 * v + k1) % p := by unfold tagAt; rw [eR, ekk, ek0, ek1, ev]
    obtain ⟨ew, e0⟩ := tag_val hpr (ek0 ▸ elem_at hky.2 hpr.1 0) (ek1 ▸ elem_at hky.2 hpr.1 1) (ev ▸ elem_at hve hpr.1 q)
    refine KW.rem rfl rfl rfl rfl rfl rfl (by rw [ew]; exact e0) (by have := hpr.1; omega) ?_
    rw [ew, ← et]
    have e1 := range_map_succ (tagAt p kk R vals) q
    refine KW.app1 (xs := ((List.range q).map (tagAt p kk R vals)).map (Value.int .i64)) (v := .int .i64 (tagAt p kk R vals q)) 1 2 rfl rfl rfl rfl rfl rfl rfl rfl rfl rfl rfl rfl rfl rfl rfl rfl rfl rfl rfl rfl rfl rfl rfl (by simp) (by show (_ + 1) * 8 ≤ _; first | omega | (simp only; omega)) (by first | omega | (simp only; omega)) ?_
    refine KW.nxt rfl rfl (fun H' g => ⟨(q + 1, _), by simp only; omega, by first | omega | (simp only; omega), ⟨rfl, rfl, rfl, by simp only [e1, List.length_append, List.length_singleton]; rfl, rfl, rfl, congrArg (Value.int .i64) (inc64 (by omega)), trivial⟩, g.eqT (by simp only [e1, List.map_append]; rfl)⟩)
  · obtain rfl : q = R.length := by simp only at k2; omega
    refine KW.retM1 rfl rfl rfl rfl (fun H1 g => MkL.of g (j := 1) rfl (g.ge (H1 := H) (j := 1) rfl))
theorem l08Tags (h p c s : Int) (e j : Nat) {id k : Nat} {a1 c1 a4 c4 a5 c5} {v2 v3 : Value} {ow vals : List Int} {rows kk : List (List Int)} {ks : List (List (List Int))} (hO : B_Int64S ow) (hBk : B_Int64SSS ks) (hk : OkSch h ow p c rows) (he : ks[e]? = some kk) (hkk : KeysOk p rows.length kk) (hvl : vals.length = (rowsOf ow j).length) (hve : Elems p vals)
    (hv : Has3 S H0 id k [.int .i64 h, .slice a1 ow.length c1, .int .i64 p, .int .i64 c, v2, .int .i64 s, v3, .slice a4 ks.length c4])
    (h1 : KI.Sl S H0 (.slice a1 ow.length c1) ow) (h4 : KI.sl.sl.Sl S H0 (.slice a4 ks.length c4) ks) (h5 : KI.Sl S H0 (.slice a5 vals.length c5) vals) :
    SpecM Tryz.prog S H0 104 [.pointer (some ⟨id, k, none⟩), .int .i64 e, .int .i64 j, .slice a5 vals.length c5] (MkL (tagsOf p kk (rowsOf ow j) vals)) := by
  refine SpecM.of1 Tryz.func104 rfl (by kernel_rfl) rfl (fun H _ => ?_)
  have hv := hv.up (S' := Low H.n) (H' := H)
  have hrl := hk.mat.len
  have hol := hk.len
  have hel := (List.getElem?_eq_some_iff.1 he).1
  have hpr := hk.mat.pr
  refine KW.lit rfl rfl rfl rfl rfl rfl rfl rfl rfl rfl [.int .i64 j] rfl rfl (fun v hv => by simp at hv; subst hv; rfl) rfl ?_
  refine KW.callNV1 rfl rfl rfl rfl rfl (fun H1 g _ => l04Held h p c (g0 := [(j : Int)]) hO (by simp) ((hv.take (vs := [_, _, _, _, _])).up) h1.up (g.ints (j := 0) rfl rfl (by simp))) (fun v HR SR mR _ _ hv => ?_)
  obtain ⟨a6, c6, rfl, hR⟩ := hv
  rw [rows_one] at hR ⊢
  refine KW.lit rfl rfl rfl rfl rfl rfl rfl rfl rfl rfl [] rfl rfl (fun v hv => by simp at hv) rfl ?_
  have hRl : (rowsOf ow j).length ≤ ow.length := rowsP_len _ _
  have hRm : ∀ x ∈ rowsOf ow j, 0 ≤ x ∧ x < ow.length := fun x hx => rowsP_mem hx
  obtain ⟨R, hRe⟩ : ∃ R, rowsOf ow j = R := ⟨_, rfl⟩
  rw [hRe] at hR hRl hRm hvl ⊢
  have hv := hv.up (S' := SR) (H' := HR)
  refine KW.lpM rfl rfl (fun q : Nat × Nat => [(0, .pointer (some ⟨id, k, none⟩)), (1, .int .i64 e), (3, .slice a5 vals.length c5), (9, .slice a6 R.length c6), (10, .slice (some ⟨q.2, 0, some 1⟩) ((List.range q.1).map (tagAt p kk R vals)).length ((List.range q.1).map (tagAt p kk R vals)).length), (11, .int .i64 q.1)]) (fun q => SR) (fun q => HR) (fun q => [_, (q.2, ⟨_, true, ((List.range q.1).map (tagAt p kk R vals)).map (Value.int .i64)⟩)]) (fun q => q.1 ≤ R.length) (fun q => R.length - q.1) ((0, _)) (by simp) ⟨rfl, rfl, rfl, rfl, rfl, rfl, trivial⟩ rfl rfl (rfl) (fun q hi bE n => ?_)
  obtain ⟨q, o⟩ := q
  simp only at hi
  have hq : ((List.range q).map (tagAt p kk R vals)).length ≤ q := by simp
  refine KW.cnd rfl rfl (fun k2 => ?_) (fun k2 => ?_)
  · refine KW.ldF 7 hv rfl rfl rfl rfl rfl rfl rfl rfl rfl ?_
    refine KW.getL h4.up rfl rfl rfl rfl rfl rfl rfl rfl rfl rfl rfl rfl rfl rfl rfl rfl (by omega) (by omega) (fun kk' b1 d1 hk1 hs1 => ?_)
    have hk1 : ks[e]? = some kk' := hk1
    rw [he] at hk1
    cases hk1
    have hkl := hkk.1
    refine KW.getI hR.ups rfl rfl rfl rfl rfl rfl rfl rfl rfl rfl rfl rfl rfl rfl rfl rfl (by omega) (k2) (fun x hx => ?_)
    have hx : R[q]? = some x := hx
    have hxm := hRm x (List.mem_of_getElem? hx)
    refine KW.getL hs1 rfl rfl rfl rfl rfl rfl rfl rfl rfl rfl rfl rfl rfl rfl rfl rfl (by omega) (by omega) (fun ky b2 d2 hk2 hs2 => ?_)
    have hk2 : kk[x.toNat]? = some ky := hk2
    have hky := hkk.2 ky (List.mem_of_getElem? hk2)
    have hkyl := hky.1
    refine KW.getI hs2 rfl rfl rfl rfl rfl rfl rfl rfl rfl rfl rfl rfl rfl rfl rfl rfl (by omega) (by omega) (fun k0 hk0 => ?_)
    refine KW.getI h5.up rfl rfl rfl rfl rfl rfl rfl rfl rfl rfl rfl rfl rfl rfl rfl rfl (by omega) (by omega) (fun v hv' => ?_)
    refine KW.getI hs2 rfl rfl rfl rfl rfl rfl rfl rfl rfl rfl rfl rfl rfl rfl rfl rfl (by omega) (by omega) (fun k1 hk1' => ?_)
    refine KW.ldF 2 hv rfl rfl rfl rfl rfl rfl rfl rfl rfl ?_
    have ek0 : ky.getD 0 0 = k0 := getD_of hk0
    have ek1 : ky.getD 1 0 = k1 := getD_of hk1'
    have ev : vals.getD q 0 = v := getD_of hv'
    have eR : R.getD q 0 = x := getD_of hx
    have ekk : kk.getD x.toNat [] = ky := by rw [List.getD_eq_getElem?_getD, hk2]; rfl
    have et : tagAt p kk R vals q = (k0 * v + k1) % p := by unfold tagAt; rw [eR, ekk, ek0, ek1, ev]
    obtain ⟨ew, e0⟩ := tag_val hpr (ek0 ▸ elem_at hky.2 hpr.1 0) (ek1 ▸ elem_at hky.2 hpr.1 1) (ev ▸ elem_at hve hpr.1 q)
    refine KW.rem rfl rfl rfl rfl rfl rfl (by rw [ew]; exact e0) (by have := hpr.1; omega) ?_
    rw [ew, ← et]
    have e1 := range_map_succ (tagAt p kk R vals) q
    refine KW.app1 (xs := ((List.range q).map (tagAt p kk R vals)).map (Value.int .i64)) (v := .int .i64 (tagAt p kk R vals q)) 1 2 rfl rfl rfl rfl rfl rfl rfl rfl rfl rfl rfl rfl rfl rfl rfl rfl rfl rfl rfl rfl rfl rfl rfl (by simp) (by show (_ + 1) * 8 ≤ _; first | omega | (simp only; omega)) (by first | omega | (simp only; omega)) ?_
    refine KW.nxt rfl rfl (fun H' g => ⟨(q + 1, _), by simp only; omega, by first | omega | (simp only; omega), ⟨rfl, rfl, rfl, rfl, by simp only [e1, List.length_append, List.length_singleton]; rfl, congrArg (Value.int .i64) (inc64 (by omega)), trivial⟩, g.eqT (by simp only [e1, List.map_append]; rfl)⟩)
  · obtain rfl : q = R.length := by simp only at k2; omega
    refine KW.retM1 rfl rfl rfl rfl (fun H1 g => MkL.of g (j := 1) rfl (g.ge (H1 := H) (j := 1) rfl))
end
end Go.Proofs.YtijmkfnmdhpakaaGreat.Am
/- Contracts: values, tags and lies of a deal, of the program and of the reference. Each holds under its own conditions. -/
set_option linter.unusedVariables false
set_option maxRecDepth 20000
namespace Go.Proofs.YtijmkfnmdhpakaaGreat.Am
open Go Go.RowKit Go.Proofs
/-- The code of a deal, an epoch and a holder. -/
noncomputable def codeD (x : T_Deal) (e j : Int) : Int := if tv (DealOk x) = true then (if (0 ≤ e ∧ e ≤ (x.2.2.1.length : Int) - 1) ∧ (0 ≤ j ∧ j ≤ x.1.1 - 1) then 0 else 2) else 1
abbrev blD (x : T_Deal) (e : Int) : List Int := x.2.2.1.getD e.toNat []
abbrev kkD (x : T_Deal) (e : Int) : List (List Int) := x.2.2.2.getD e.toNat []
/-- A deal at an epoch and a holder. -/
structure DealAt (x : T_Deal) (e j : Int) (E J : Nat) : Prop where
  ee : e = E
  jj : j = J
  j6 : J ≤ 6
  sch : OkSch x.1.1 x.1.2.1 x.1.2.2.1 x.1.2.2.2.1 x.1.2.2.2.2
  sec : 0 ≤ x.2.1 ∧ x.2.1 ≤ x.1.2.2.1 - 1
  hb : x.2.2.1[E]? = some (blD x e)
  hk : x.2.2.2[E]? = some (kkD x e)
  bl : ((blD x e).length : Int) = x.1.2.2.2.1 - 1 ∧ Elems x.1.2.2.1 (blD x e)
  key : KeysOk x.1.2.2.1 x.1.2.2.2.2.length (kkD x e)
theorem codeD_ok {x : T_Deal} {e j : Int} (h : codeD x e j = 0) : ∃ E J, DealAt x e j E J := by
  unfold codeD at h
  split at h
  · rename_i hd
    have hd : DealOk x := tv_iff.1 hd
    split at h
    · rename_i hr
      have hbl := hd.bl
      have hkl := hd.kl
      have h7 := hd.sch.h7
      have h1 : x.2.2.1[e.toNat]? = some (blD x e) := by
        show _ = some (x.2.2.1.getD e.toNat [])
        rw [List.getD_eq_getElem?_getD, List.getElem?_eq_getElem (by omega)]; rfl
      have h2 : x.2.2.2[e.toNat]? = some (kkD x e) := by
        show _ = some (x.2.2.2.getD e.toNat [])
        rw [List.getD_eq_getElem?_getD, List.getElem?_eq_getElem (by omega)]; rfl
      have h3 := hd.bk _ _ _ h1 h2
      exact ⟨e.toNat, j.toNat, by omega, by omega, by omega, hd.sch, hd.sec, h1, h2, h3.1, h3.2⟩
    · cases h
  · cases h
def valsD (x : T_Deal) (e j : Int) : List Int := valsOf x.1.2.2.1 x.1.2.2.2.2 x.1.2.1 x.2.1 (blD x e) j
def tagsD (x : T_Deal) (e j : Int) (vals : List Int) : List Int := tagsOf x.1.2.2.1 (kkD x e) (rowsOf x.1.2.1 j) vals
def lieOf (p : Int) (vals : List Int) (lie : Int) : List Int := match vals with
  | [] => []
  | v :: vs => ((v + lie) % p) :: vs
theorem lie_len {p : Int} {vals : List Int} {lie : Int} : (lieOf p vals lie).length = vals.length := by cases vals <;> rfl
theorem lie_in {p : Int} {vals : List Int} {lie : Int} (hp : PrimeP p) (h : Elems p vals) : Elems p (lieOf p vals lie) := fun x hx => by
  cases vals with
  | nil => exact h x hx
  | cons v vs =>
    rcases List.mem_cons.1 hx with rfl | hx
    · have h1 := hp.1
      have := Int.emod_nonneg (v + lie) (show p ≠ 0 by omega)
      have := Int.emod_lt_of_pos (v + lie) (show 0 < p by omega)
      omega
    · exact h x (List.mem_cons_of_mem _ hx)
section
variable {S : Ids} {H0 : AH}
theorem valuesD (x : T_Deal) (e j : Int) {E J : Nat} (hd : DealAt x e j E J) {cs : List Value} (hB : B_Deal x) (h : K_Deal.R S H0 x cs) : SpecM Tryz.prog S H0 116 [.agg cs.toArray, .int .i64 e, .int .i64 j] (MkL (valsD x e j)) := by
  obtain ⟨a1, c1, a2, c2, a3, c3, a4, c4, rfl, h1, h2, h3, h4⟩ := split2_Deal h
  have := values x.1.1 x.1.2.2.1 x.1.2.2.2.1 x.2.1 E J (c2 := c2) (a4 := a4) (n4 := x.2.2.2.length) (c4 := c4) hB.1.2.1 hB.1.2.2.2.2 hd.sch hd.sec hd.hb hd.bl.1 hd.bl.2 hd.j6 h1 h2 h3
  rw [hd.ee, hd.jj]
  rw [hd.ee] at this
  exact this
theorem l08ValuesD (x : T_Deal) (e j : Int) {E J : Nat} (hd : DealAt x e j E J) {id k : Nat} {cs : List Value} (hB : B_Deal x) (hv : Has3 S H0 id k cs) (h : K_Deal.R S H0 x cs) : SpecM Tryz.prog S H0 102 [.pointer (some ⟨id, k, none⟩), .int .i64 e, .int .i64 j] (MkL (valsD x e j)) := by
  obtain ⟨a1, c1, a2, c2, a3, c3, a4, c4, rfl, h1, h2, h3, h4⟩ := split2_Deal h
  have := l08Values x.1.1 x.1.2.2.1 x.1.2.2.2.1 x.2.1 E J hB.1.2.1 hB.1.2.2.2.2 hd.sch hd.sec hd.hb hd.bl.1 hd.bl.2 hv h1 h2 h3
  rw [hd.ee, hd.jj]
  rw [hd.ee] at this
  exact this
theorem tagsDD (x : T_Deal) (e j : Int) {E J : Nat} (hd : DealAt x e j E J) {cs : List Value} (hB : B_Deal x) (h : K_Deal.R S H0 x cs) {vals : List Int} {a c} (hl : vals.length = (rowsOf x.1.2.1 j).length) (he : Elems x.1.2.2.1 vals) (hs : KI.Sl S H0 (.slice a vals.length c) vals) : SpecM Tryz.prog S H0 118 [.agg cs.toArray, .int .i64 e, .int .i64 j, .slice a vals.length c] (MkL (tagsD x e j vals)) := by
  obtain ⟨a1, c1, a2, c2, a3, c3, a4, c4, rfl, h1, h2, h3, h4⟩ := split2_Deal h
  have := tags x.1.1 x.1.2.2.1 x.1.2.2.2.1 x.2.1 E J (a2 := a2) (c2 := c2) (a3 := a3) (n3 := x.2.2.1.length) (c3 := c3) hB.1.2.1 hB.2.2.2 hd.sch hd.hk hd.key hd.j6 (by rw [← hd.jj]; exact hl) he h1 h4 hs
  unfold tagsD
  rw [hd.ee, hd.jj]
  rw [hd.ee] at this
  exact this
theorem l08TagsD (x : T_Deal) (e j : Int) {E J : Nat} (hd : DealAt x e j E J) {id k : Nat} {cs : List Value} (hB : B_Deal x) (hv : Has3 S H0 id k cs) (h : K_Deal.R S H0 x cs) {vals : List Int} {a c} (hl : vals.length = (rowsOf x.1.2.1 j).length) (he : Elems x.1.2.2.1 vals) (hs : KI.Sl S H0 (.slice a vals.length c) vals) : SpecM Tryz.prog S H0 104 [.pointer (some ⟨id, k, none⟩), .int .i64 e, .int .i64 j, .slice a vals.length c] (MkL (tagsD x e j vals)) := by
  obtain ⟨a1, c1, a2, c2, a3, c3, a4, c4, rfl, h1, h2, h3, h4⟩ := split2_Deal h
  have := l08Tags x.1.1 x.1.2.2.1 x.1.2.2.2.1 x.2.1 E J hB.1.2.1 hB.2.2.2 hd.sch hd.hk hd.key (by rw [← hd.jj]; exact hl) he hv h1 h4 hs
  unfold tagsD
  rw [hd.ee, hd.jj]
  rw [hd.ee] at this
  exact this
/-- A list and a code. -/
def MkLC (xs : List Int) (code : Int) (n : Nat) (v : Value) (H1 : AH) : Prop := ∃ a c, v = .tuple #[.slice a xs.length c, .int .i64 code] ∧ M_Int64S.R (New n H1.n) H1 xs [.slice a xs.length c]
theorem MkLC.nil {code : Int} {n : Nat} {H1 : AH} {v : Value} (hv : v = .tuple #[.slice none 0 0, .int .i64 code]) : MkLC [] code n v H1 := ⟨none, 0, hv, ml1' (.inl ⟨rfl, _, _, rfl, fun _ => rfl⟩)⟩
theorem MkLC.nil' {code : Int} {n id : Nat} {H1 : AH} {v : Value} (hv : v = .tuple #[.slice (some ⟨id, 0, some 1⟩) 0 0, .int .i64 code]) : MkLC [] code n v H1 := ⟨_, 0, hv, ml1' (.inl ⟨rfl, _, _, rfl, fun h => by cases h⟩)⟩
/-- What a callee has made is handed on. -/
theorem Good.made {S0 : Ids} {H0 H1 H2 : AH} {T : List Var} {n lo m : Nat} {xs : List Int} {a : Option Addr} {c : Nat} (g : Good S0 H0 T n H2) [o : On (New m H1.n) H1 S0 H0] (hm : lo ≤ m) (h : KI.Ml (New m H1.n) H1 (.slice a xs.length c) xs) : KI.Ml (New lo H2.n) H2 (.slice a xs.length c) xs :=
  Kn.Ml.st h (g.out (fun id hid => by have := hid.1; omega)).st
noncomputable def r1_DealValues (x : T_Deal) (e j : Int) : Int := codeD x e j
noncomputable def r1_DealTags (x : T_Deal) (e j : Int) : Int := codeD x e j
noncomputable def r0_DealValues (x : T_Deal) (e j : Int) : List Int := if codeD x e j = 0 then valsD x e j else []
noncomputable def r0_DealTags (x : T_Deal) (e j : Int) : List Int := if codeD x e j = 0 then tagsD x e j (valsD x e j) else []
theorem bound_DealValues {x : T_Deal} (e j : Int) (he : I64 e) (hj : I64 j) (hB : B_Deal x) : B_Int64S (r0_DealValues x e j) := by
  unfold r0_DealValues
  split
  · rename_i hc
    obtain ⟨E, J, hd⟩ := codeD_ok hc
    show (valsD x e j).length ≤ 1048576
    have h1 : (valsD x e j).length = (rowsOf x.1.2.1 j).length := vals_len
    have h2 : (rowsOf x.1.2.1 j).length ≤ x.1.2.1.length := rowsP_len _ _
    have h3 : x.1.2.1.length ≤ 1048576 := hB.1.2.1
    omega
  · show 0 ≤ _; omega
theorem bound_DealTags {x : T_Deal} (e j : Int) (he : I64 e) (hj : I64 j) (hB : B_Deal x) : B_Int64S (r0_DealTags x e j) := by
  unfold r0_DealTags
  split
  · show (tagsD x e j _).length ≤ 1048576
    have h1 : (tagsD x e j (valsD x e j)).length = (rowsOf x.1.2.1 j).length := by simp [tagsD, tagsOf]
    have h2 : (rowsOf x.1.2.1 j).length ≤ x.1.2.1.length := rowsP_len _ _
    have h3 : x.1.2.1.length ≤ 1048576 := hB.1.2.1
    omega
  · show 0 ≤ _; omega
end
end Go.Proofs.YtijmkfnmdhpakaaGreat.Am
/- Contracts: copies and equality of rows; lies. Each holds under its own conditions. -/
set_option linter.unusedVariables false
set_option linter.unusedSimpArgs false
set_option maxRecDepth 20000
namespace Go.Proofs.YtijmkfnmdhpakaaGreat.Am
open Go Go.RowKit Go.Proofs
section
variable {S : Ids} {H0 : AH}
theorem l00Own {a c} {xs : List Int} (hl : xs.length ≤ 1048576) (hs : KI.Sl S H0 (.slice a xs.length c) xs) : SpecM Tryz.prog S H0 106 [.slice a xs.length c] (MkL xs) := by
  refine SpecM.of1 Tryz.func106 rfl (by kernel_rfl) rfl (fun H _ => ?_)
  refine KW.lit rfl rfl rfl rfl rfl rfl rfl rfl rfl rfl [] rfl rfl (fun v hv => by simp at hv) rfl ?_
  refine KW.appV 0 rfl rfl rfl rfl rfl rfl rfl rfl rfl rfl (fun H1 g => acells_I hs.up g) (by simp) (by simp) (fun v hv => by obtain ⟨_, _, rfl⟩ := List.mem_map.1 hv; rfl) (by show (_ + _) * 8 ≤ _; simp only [List.length_cons, List.length_nil]; omega) (by simp only [List.length_cons, List.length_nil]; omega) (show 0 + xs.length = xs.length from by omega) (fun oa _ _ => ?_)
  refine KW.retM1 rfl rfl rfl rfl (fun H1 g => MkL.of g (j := 0) rfl (g.ge (H1 := H) (j := 0) rfl))
theorem cloneI {a c} {xs : List Int} (hl : xs.length ≤ 1048576) (hs : KI.Sl S H0 (.slice a xs.length c) xs) : SpecM Tryz.prog S H0 84 [.slice a xs.length c] (MkL xs) := by
  refine SpecM.of1 Tryz.func84 rfl (by kernel_rfl) rfl (fun H _ => ?_)
  refine KW.cndB rfl rfl (fun h => ?_) (fun h => ?_)
  · have ha : a = none := by cases a with
      | none => rfl
      | some a => simp at h
    have hx : xs = [] := by
      rcases hs with ⟨hx, _⟩ | ⟨id, k, c1, b, h1, _⟩
      · exact hx
      · rw [ha] at h1; cases h1
    subst hx
    refine KW.retM1 rfl rfl rfl rfl (fun H1 g => ⟨none, 0, rfl, .inl ⟨rfl, _, _, rfl, fun _ => rfl⟩⟩)
  · refine KW.lit rfl rfl rfl rfl rfl rfl rfl rfl rfl rfl [] rfl rfl (fun v hv => by simp at hv) rfl ?_
    refine KW.appV 0 rfl rfl rfl rfl rfl rfl rfl rfl rfl rfl (fun H1 g => acells_I hs.up g) (by simp) (by simp) (fun v hv => by obtain ⟨_, _, rfl⟩ := List.mem_map.1 hv; rfl) (by show (_ + _) * 8 ≤ _; simp only [List.length_cons, List.length_nil]; omega) (by simp only [List.length_cons, List.length_nil]; omega) (show 0 + xs.length = xs.length from by omega) (fun oa _ _ => ?_)
    refine KW.retM1 rfl rfl rfl rfl (fun H1 g => MkL.of g (j := 0) rfl (g.ge (H1 := H) (j := 0) rfl))
theorem equalI {a c a' c'} {xs ys : List Int} (hl : xs.length ≤ 1048576) (hs : KI.Sl S H0 (.slice a xs.length c) xs) (hs' : KI.Sl S H0 (.slice a' ys.length c') ys) : Spec Tryz.prog S H0 143 [.slice a xs.length c, .slice a' ys.length c'] (fun v => v = .bool (tv (xs = ys))) := by
  refine Spec.of1 Tryz.func143 rfl (by kernel_rfl) rfl (fun H _ => ?_)
  refine KW.cndB rfl rfl (fun h => ?_) (fun h => ?_)
  · exact KW.ret rfl rfl rfl rfl (by rw [tv_false (fun hc => by rw [hc] at h; simp at h)]; rfl)
  have h : xs.length = ys.length := by simp at h; omega
  refine KW.lp rfl rfl (fun i : Nat => [(0, .slice a xs.length c), (1, .slice a' ys.length c'), (12, .int .i64 xs.length), (13, .int .i64 i)]) (fun i => i ≤ xs.length ∧ ∀ j, j < i → xs[j]? = ys[j]?) (fun i => xs.length - i) (0) (⟨by omega, fun j h => absurd h (by omega)⟩) ⟨rfl, rfl, rfl, rfl, trivial⟩ (fun i hi bE n => ?_)
  obtain ⟨hi, hj⟩ := hi
  refine KW.cnd rfl rfl (fun h2 => ?_) (fun h2 => ?_)
  · refine KW.getI hs.up rfl rfl rfl rfl rfl rfl rfl rfl rfl rfl rfl rfl rfl rfl rfl rfl (by omega) (h2) (fun x hx => ?_)
    refine KW.getI hs'.up rfl rfl rfl rfl rfl rfl rfl rfl rfl rfl rfl rfl rfl rfl rfl rfl (by omega) (by omega) (fun y hy => ?_)
    have hx : xs[i]? = some x := hx
    have hy : ys[i]? = some y := hy
    refine KW.cndB rfl rfl (fun h3 => ?_) (fun h3 => ?_)
    · exact KW.ret rfl rfl rfl rfl (by rw [tv_false (fun hc => by subst hc; rw [hx] at hy; cases hy; simp at h3)]; rfl)
    have h3 : x = y := by simpa using h3
    refine KW.nxt rfl rfl (fun H' g => ⟨i + 1, ⟨by omega, upto hj (by rw [hx, hy, h3])⟩, by first | omega | (simp only; omega), ⟨rfl, rfl, rfl, congrArg (Value.int .i64) (inc64 (by omega)), trivial⟩, g⟩)
  · have : xs = ys := List.ext_getElem? fun j => by
      rcases Nat.lt_or_ge j i with h | h
      · exact hj j h
      · rw [List.getElem?_eq_none (by omega), List.getElem?_eq_none (by omega)]
    exact KW.ret rfl rfl rfl rfl (by rw [tv_true this]; rfl)
theorem l00Same {a c a' c'} {xs ys : List Int} (hl : xs.length ≤ 1048576) (hs : KI.Sl S H0 (.slice a xs.length c) xs) (hs' : KI.Sl S H0 (.slice a' ys.length c') ys) : Spec Tryz.prog S H0 170 [.slice a xs.length c, .slice a' ys.length c'] (fun v => v = .bool (tv (xs = ys))) := by
  refine Spec.of1 Tryz.func170 rfl (by kernel_rfl) rfl (fun H _ => ?_)
  refine KW.cndB rfl rfl (fun h => ?_) (fun h => ?_)
  · exact KW.ret rfl rfl rfl rfl (by rw [tv_false (fun hc => by rw [hc] at h; simp at h)]; rfl)
  have h : xs.length = ys.length := by simp at h; omega
  refine KW.lp rfl rfl (fun i : Nat => [(0, .slice a xs.length c), (1, .slice a' ys.length c'), (5, .int .i64 i)]) (fun i => i ≤ xs.length ∧ ∀ j, j < i → xs[j]? = ys[j]?) (fun i => xs.length - i) (0) (⟨by omega, fun j h => absurd h (by omega)⟩) ⟨rfl, rfl, rfl, trivial⟩ (fun i hi bE n => ?_)
  obtain ⟨hi, hj⟩ := hi
  refine KW.cnd rfl rfl (fun h2 => ?_) (fun h2 => ?_)
  · refine KW.getI hs.up rfl rfl rfl rfl rfl rfl rfl rfl rfl rfl rfl rfl rfl rfl rfl rfl (by omega) (h2) (fun x hx => ?_)
    refine KW.getI hs'.up rfl rfl rfl rfl rfl rfl rfl rfl rfl rfl rfl rfl rfl rfl rfl rfl (by omega) (by omega) (fun y hy => ?_)
    have hx : xs[i]? = some x := hx
    have hy : ys[i]? = some y := hy
    refine KW.cndB rfl rfl (fun h3 => ?_) (fun h3 => ?_)
    · exact KW.ret rfl rfl rfl rfl (by rw [tv_false (fun hc => by subst hc; rw [hx] at hy; cases hy; simp at h3)]; rfl)
    have h3 : x = y := by simpa using h3
    refine KW.nxt rfl rfl (fun H' g => ⟨i + 1, ⟨by omega, upto hj (by rw [hx, hy, h3])⟩, by first | omega | (simp only; omega), ⟨rfl, rfl, congrArg (Value.int .i64) (inc64 (by omega)), trivial⟩, g⟩)
  · have : xs = ys := List.ext_getElem? fun j => by
      rcases Nat.lt_or_ge j i with h | h
      · exact hj j h
      · rw [List.getElem?_eq_none (by omega), List.getElem?_eq_none (by omega)]
    exact KW.ret rfl rfl rfl rfl (by rw [tv_true this]; rfl)
theorem lie_at {p : Int} {vals : List Int} {lie : Int} {i : Nat} {x : Int} (hi : (lieOf p vals lie)[i]? = some x) : (i = 0 ∧ x = (vals.getD 0 0 + lie) % p) ∨ (0 < i ∧ vals[i]? = some x) := by
  cases vals with
  | nil => simp [lieOf] at hi
  | cons v vs =>
    cases i with
    | zero => exact .inl ⟨rfl, by simpa [lieOf] using hi.symm⟩
    | succ i => exact .inr ⟨by omega, by simpa [lieOf] using hi⟩
theorem lied (h p c s : Int) (hp : PrimeP p) (lie : Int) (hlie : 0 ≤ lie ∧ lie ≤ p) {a1 c1 a2 c2 a3 c3 a4 c4 a5 c5} {n1 n2 n3 n4 : Nat} {vals : List Int} (hl : vals.length ≤ 1048576) (hv : Elems p vals) (hs : KI.Sl S H0 (.slice a5 vals.length c5) vals) :
    SpecM Tryz.prog S H0 119 [.agg #[.int .i64 h, .slice a1 n1 c1, .int .i64 p, .int .i64 c, .slice a2 n2 c2, .int .i64 s, .slice a3 n3 c3, .slice a4 n4 c4], .slice a5 vals.length c5, .int .i64 lie] (MkL (lieOf p vals lie)) := by
  refine SpecM.of1 Tryz.func119 rfl (by kernel_rfl) rfl (fun H _ => ?_)
  refine KW.fact (fun _ g => g.nle (H1 := H)) (fun hn0 => ?_)
  refine KW.callN1 rfl rfl rfl rfl rfl (cloneI hl hs.up) (fun v HA SA mA _ _ hv => ?_)
  obtain ⟨a6, c6, rfl, hA⟩ := hv
  refine KW.cnd rfl rfl (fun k1 => ?_) (fun k1 => ?_)
  · have k1 : 0 < vals.length := by have : (0 : Int) < vals.length := k1; omega
    obtain ⟨o, c7, b, e1, e2, e3, e4, e5, e6, e7⟩ := hA.ints (fun hx => by rw [hx] at k1; simp at k1)
    cases e1
    obtain ⟨ty, rw, cells⟩ := b
    obtain rfl : rw = true := e5
    obtain ⟨v0, hv0⟩ : ∃ v, vals[0]? = some v := ⟨vals[0], List.getElem?_eq_getElem k1⟩
    have hvd : vals.getD 0 0 = v0 := getD_of hv0
    have hvb := hv v0 (List.mem_of_getElem? hv0)
    have hp2 := hp.1
    have hp31 := hp.2.1
    have oS := (inferInstance : On (New _ HA.n) HA SA HA).st o e3
    refine KW.thaw o ⟨ty, true, cells⟩ oS.1 e4 ?_
    haveI : On (Low H.n) H (fun id => SA id ∧ id ≠ o) HA := On.thaw (fun id hid => by have : id < H.n := hid; have := e3.1; omega)
    refine KW.idx0 rfl rfl rfl rfl rfl rfl rfl rfl rfl (by omega) (by omega) ?_
    refine KW.ldT 1 rfl rfl rfl rfl rfl rfl (bload_at (e7 0 v0 hv0) rfl rfl) ?_
    refine KW.rem rfl rfl rfl rfl rfl rfl (by rw [wr (by omega) (by omega)]; omega) (by omega) ?_
    rw [wr (by omega) (by omega), ← hvd]
    refine KW.idx0 rfl rfl rfl rfl rfl rfl rfl rfl rfl (by omega) (by omega) ?_
    refine KW.st1 1 rfl rfl rfl rfl rfl rfl rfl rfl rfl rfl rfl rfl (by simp only; simp only at e6; omega) ?_
    refine KW.retM1 rfl rfl rfl rfl (fun H1 g => ?_)
    have hb := g.blk (j := 1) rfl
    have el : (lieOf p vals lie).length = vals.length := lie_len
    refine ⟨_, _, by rw [el]; rfl, ?_⟩
    refine mlI_of ⟨by have := e3.1; omega, hb.2⟩ hb.1 rfl (by rw [el]; exact e2) (by rw [el]; simp only [List.length_set]; exact e6) (fun i x hi => ?_)
    rcases lie_at hi with ⟨rfl, rfl⟩ | ⟨h0, h1⟩
    · show (cells.set 0 (Value.int .i64 _))[0]? = _
      rw [List.getElem?_set_self (by simp only at e6; omega)]
    · show (cells.set 0 (Value.int .i64 _))[i]? = _
      rw [List.getElem?_set_ne (by omega)]; exact e7 i x h1
  · have hx : vals = [] := List.eq_nil_of_length_eq_zero (by have k1 : ¬ (0 : Int) < vals.length := k1; omega)
    subst hx
    refine KW.retM1 rfl rfl rfl rfl (fun H1 g => ⟨_, _, rfl, g.made (by omega) hA⟩)
theorem l08Lying (p : Int) (hp : PrimeP p) (lie : Int) (hlie : 0 ≤ lie ∧ lie ≤ p) {a5 c5} {vals : List Int} (hl : vals.length ≤ 1048576) (hv : Elems p vals) (hs : KI.Sl S H0 (.slice a5 vals.length c5) vals) :
    SpecM Tryz.prog S H0 105 [.int .i64 p, .slice a5 vals.length c5, .int .i64 lie] (MkL (lieOf p vals lie)) := by
  refine SpecM.of1 Tryz.func105 rfl (by kernel_rfl) rfl (fun H _ => ?_)
  refine KW.fact (fun _ g => g.nle (H1 := H)) (fun hn0 => ?_)
  refine KW.callN1 rfl rfl rfl rfl rfl (l00Own hl hs.up) (fun v HA SA mA _ _ hv => ?_)
  obtain ⟨a6, c6, rfl, hA⟩ := hv
  refine KW.cnd rfl rfl (fun k1 => ?_) (fun k1 => ?_)
  · have k1 : 0 < vals.length := by have : (0 : Int) < vals.length := k1; omega
    obtain ⟨o, c7, b, e1, e2, e3, e4, e5, e6, e7⟩ := hA.ints (fun hx => by rw [hx] at k1; simp at k1)
    cases e1
    obtain ⟨ty, rw, cells⟩ := b
    obtain rfl : rw = true := e5
    obtain ⟨v0, hv0⟩ : ∃ v, vals[0]? = some v := ⟨vals[0], List.getElem?_eq_getElem k1⟩
    have hvd : vals.getD 0 0 = v0 := getD_of hv0
    have hvb := hv v0 (List.mem_of_getElem? hv0)
    have hp2 := hp.1
    have hp31 := hp.2.1
    have oS := (inferInstance : On (New _ HA.n) HA SA HA).st o e3
    refine KW.thaw o ⟨ty, true, cells⟩ oS.1 e4 ?_
    haveI : On (Low H.n) H (fun id => SA id ∧ id ≠ o) HA := On.thaw (fun id hid => by have : id < H.n := hid; have := e3.1; omega)
    refine KW.idx0 rfl rfl rfl rfl rfl rfl rfl rfl rfl (by omega) (by omega) ?_
    refine KW.ldT 0 rfl rfl rfl rfl rfl rfl (bload_at (e7 0 v0 hv0) rfl rfl) ?_
    refine KW.rem rfl rfl rfl rfl rfl rfl (by rw [wr (by omega) (by omega)]; omega) (by omega) ?_
    rw [wr (by omega) (by omega), ← hvd]
    refine KW.idx0 rfl rfl rfl rfl rfl rfl rfl rfl rfl (by omega) (by omega) ?_
    refine KW.st1 0 rfl rfl rfl rfl rfl rfl rfl rfl rfl rfl rfl rfl (by simp only; simp only at e6; omega) ?_
    refine KW.retM1 rfl rfl rfl rfl (fun H1 g => ?_)
    have hb := g.blk (j := 0) rfl
    have el : (lieOf p vals lie).length = vals.length := lie_len
    refine ⟨_, _, by rw [el]; rfl, ?_⟩
    refine mlI_of ⟨by have := e3.1; omega, hb.2⟩ hb.1 rfl (by rw [el]; exact e2) (by rw [el]; simp only [List.length_set]; exact e6) (fun i x hi => ?_)
    rcases lie_at hi with ⟨rfl, rfl⟩ | ⟨h0, h1⟩
    · show (cells.set 0 (Value.int .i64 _))[0]? = _
      rw [List.getElem?_set_self (by simp only at e6; omega)]
    · show (cells.set 0 (Value.int .i64 _))[i]? = _
      rw [List.getElem?_set_ne (by omega)]; exact e7 i x h1
  · have hx : vals = [] := List.eq_nil_of_length_eq_zero (by have k1 : ¬ (0 : Int) < vals.length := k1; omega)
    subst hx
    refine KW.retM1 rfl rfl rfl rfl (fun H1 g => ⟨_, _, rfl, g.made (by omega) hA⟩)
end
end Go.Proofs.YtijmkfnmdhpakaaGreat.Am
/- The ceremony, plain: its state, what a deed does to it, and what always holds of it. Each holds under its own conditions. -/
set_option linter.unusedVariables false
set_option maxRecDepth 20000
namespace Go.Proofs.YtijmkfnmdhpakaaGreat.Am
open Go Go.RowKit Go.Proofs
abbrev T_Deed : Type := Int × Int × Int
abbrev T_Purse : Type := Int × List Int × List Int
abbrev T_Seat : Type := T_Purse × T_Purse × Int
abbrev T_Packet : Type := Bool × Int × Int × List Int × List Int
/-- The state of a ceremony. -/
structure Cer where
  ep : Int
  seats : List T_Seat
  oe : Int
  got : List (List Int)
  has : List Bool
  named : List Bool
  wire : List T_Packet
def purse0 : T_Purse := (-1, [], [])
def seat0 : T_Seat := (purse0, purse0, 0)
def cer0 (n : Nat) : Cer := ⟨0, List.replicate n seat0, -1, List.replicate n [], List.replicate n false, List.replicate n false, []⟩
abbrev Cer.seat (c : Cer) (h : Int) : T_Seat := c.seats.getD h.toNat seat0
/-- A packet comes in. -/
def fresh (c : Cer) (e : Int) : Cer := if c.oe < e then ⟨c.ep, c.seats, e, List.replicate c.got.length [], List.replicate c.has.length false, c.named, c.wire⟩ else c
noncomputable def comeO (x : T_Deal) (c : Cer) (p : T_Packet) : Cer :=
  if p.2.2.1 = c.oe ∧ c.named.getD p.2.1.toNat false = false ∧ c.has.getD p.2.1.toNat false = false then
    (if tv (tagsD x p.2.2.1 p.2.1 p.2.2.2.1 = p.2.2.2.2) = true then ⟨c.ep, c.seats, c.oe, c.got.set p.2.1.toNat p.2.2.2.1, c.has.set p.2.1.toNat true, c.named, c.wire⟩
    else ⟨c.ep, c.seats, c.oe, c.got, c.has, c.named.set p.2.1.toNat true, c.wire⟩)
  else c
def comeS (c : Cer) (p : T_Packet) : Cer :=
  if (c.seat p.2.1).1.1 < p.2.2.1 then ⟨c.ep, c.seats.set p.2.1.toNat ((p.2.2.1, p.2.2.2.1, p.2.2.2.2), (c.seat p.2.1).2), c.oe, c.got, c.has, c.named, c.wire⟩ else c
noncomputable def come (x : T_Deal) (c : Cer) (p : T_Packet) : Cer := if p.1 = true then comeO x (fresh c p.2.2.1) p else comeS c p
/-- A packet is sent. -/
def send (c : Cer) (p : T_Packet) : Cer × Int := if c.wire.length = 12 then (c, 3) else (⟨c.ep, c.seats, c.oe, c.got, c.has, c.named, c.wire ++ [p]⟩, 0)
def dropW (c : Cer) (i : Nat) : Cer := ⟨c.ep, c.seats, c.oe, c.got, c.has, c.named, c.wire.eraseIdx i⟩
def setS (c : Cer) (h : Int) (s : T_Seat) : Cer := ⟨c.ep, c.seats.set h.toNat s, c.oe, c.got, c.has, c.named, c.wire⟩
abbrev Cer.pk (c : Cer) (a : Int) : T_Packet := c.wire.getD a.toNat (false, 0, 0, [], [])
/-- What a deed does, and its code. -/
noncomputable def doIt (x : T_Deal) (c : Cer) (d : T_Deed) : Cer × Int :=
  if d.1 = 3 ∨ d.1 = 4 ∨ d.1 = 5 then
    (if (c.wire.length : Int) ≤ d.2.1 then (c, 2) else
      ((if d.1 = 5 then (if d.1 = 4 then c else dropW c d.2.1.toNat) else come x (if d.1 = 4 then c else dropW c d.2.1.toNat) (c.pk d.2.1)), 0))
  else if d.1 = 9 then (if c.ep + 1 = (x.2.2.1.length : Int) then (c, 3) else (⟨c.ep + 1, c.seats, c.oe, c.got, c.has, c.named, c.wire⟩, 0))
  else if x.1.1 ≤ d.2.1 then (c, 2)
  else if d.1 = 1 then send c (false, d.2.1, c.ep, valsD x c.ep d.2.1, tagsD x c.ep d.2.1 (valsD x c.ep d.2.1))
  else if d.1 = 2 then (if (c.seat d.2.1).1.1 = -1 then (c, 4) else send c (true, d.2.1, (c.seat d.2.1).1.1, lieOf x.1.2.2.1 (c.seat d.2.1).1.2.1 (c.seat d.2.1).2.2, (c.seat d.2.1).1.2.2))
  else if d.1 = 6 then (if x.1.2.2.1 ≤ d.2.2 then (c, 2) else (setS c d.2.1 ((c.seat d.2.1).1, (c.seat d.2.1).2.1, d.2.2), 0))
  else if d.1 = 7 then (setS c d.2.1 ((c.seat d.2.1).1, (c.seat d.2.1).1, (c.seat d.2.1).2.2), 0)
  else (setS c d.2.1 ((c.seat d.2.1).2.1, (c.seat d.2.1).2.1, (c.seat d.2.1).2.2), 0)
noncomputable def play (x : T_Deal) (c : Cer) : List T_Deed → Cer
  | [] => c
  | d :: ds => play x (doIt x c d).1 ds
noncomputable def codes (x : T_Deal) (c : Cer) : List T_Deed → List Int
  | [] => []
  | d :: ds => (doIt x c d).2 :: codes x (doIt x c d).1 ds
/-- A deed that is valid. -/
def cntD (k : Int) : Int := if k = 6 then 2 else if k = 9 then 0 else 1
def DeedP (d : T_Deed) : Prop := (1 ≤ d.1 ∧ d.1 ≤ 9) ∧ (0 ≤ d.2.1 ∧ d.2.1 ≤ 999) ∧ (0 ≤ d.2.2 ∧ d.2.2 ≤ 999) ∧ (0 < cntD d.1 ∨ d.2.1 = 0) ∧ (1 < cntD d.1 ∨ d.2.2 = 0)
/-- Values and tags of a holder are as many as its rows, and elements. -/
structure RowsH (x : T_Deal) (h : Int) (vs ts : List Int) : Prop where
  vl : vs.length = (rowsOf x.1.2.1 h).length
  tl : ts.length = (rowsOf x.1.2.1 h).length
  ve : Elems x.1.2.2.1 vs
def EpOk (x : T_Deal) (e : Int) : Prop := 0 ≤ e ∧ e < (x.2.2.1.length : Int)
def HoOk (x : T_Deal) (h : Int) : Prop := 0 ≤ h ∧ h < x.1.1
structure PkOk (x : T_Deal) (p : T_Packet) : Prop where
  ho : HoOk x p.2.1
  ep : EpOk x p.2.2.1
  rw : RowsH x p.2.1 p.2.2.2.1 p.2.2.2.2
def PuOk (x : T_Deal) (h : Int) (p : T_Purse) : Prop := (p.1 = -1 ∧ p.2.1 = [] ∧ p.2.2 = []) ∨ (EpOk x p.1 ∧ RowsH x h p.2.1 p.2.2)
structure SeOk (x : T_Deal) (h : Int) (s : T_Seat) : Prop where
  pu : PuOk x h s.1
  sa : PuOk x h s.2.1
  lie : 0 ≤ s.2.2 ∧ s.2.2 ≤ x.1.2.2.1 - 1
structure CerOk (x : T_Deal) (c : Cer) : Prop where
  ep : EpOk x c.ep
  sl : (c.seats.length : Int) = x.1.1
  se : ∀ (j : Nat) s, c.seats[j]? = some s → SeOk x j s
  oe : c.oe = -1 ∨ EpOk x c.oe
  gl : c.got.length = c.seats.length
  hl : c.has.length = c.seats.length
  nl : c.named.length = c.seats.length
  go : ∀ (j : Nat) g, c.got[j]? = some g → g = [] ∧ c.has.getD j false = false ∨ g.length = (rowsOf x.1.2.1 j).length ∧ Elems x.1.2.2.1 g
  wl : c.wire.length ≤ 12
  wi : ∀ p ∈ c.wire, PkOk x p
theorem getD_mem {α : Type} {l : List α} {i : Nat} {d : α} (h : i < l.length) : l[i]? = some (l.getD i d) := by
  rw [List.getD_eq_getElem?_getD, List.getElem?_eq_getElem h]; rfl
section
variable {x : T_Deal} {c : Cer}
theorem CerOk.seat (h : CerOk x c) {a : Int} (ha : HoOk x a) : c.seats[a.toNat]? = some (c.seat a) ∧ SeOk x a (c.seat a) := by
  have h1 := h.sl
  have h2 := ha.1
  have h3 := ha.2
  have h4 : c.seats[a.toNat]? = some (c.seat a) := getD_mem (by omega)
  have h5 := h.se _ _ h4
  rw [show ((a.toNat : Nat) : Int) = a from by omega] at h5
  exact ⟨h4, h5⟩
theorem CerOk.setS (h : CerOk x c) {a : Int} (ha : HoOk x a) {s : T_Seat} (hs : SeOk x a s) : CerOk x (setS c a s) := by
  have h2 := ha.1
  refine ⟨h.ep, by simp [Am.setS, h.sl], fun j t hj => ?_, h.oe, by simp [Am.setS, h.gl], by simp [Am.setS, h.hl], by simp [Am.setS, h.nl], h.go, h.wl, h.wi⟩
  simp only [Am.setS] at hj
  rw [List.getElem?_set] at hj
  split at hj
  · rename_i e
    split at hj
    · cases hj
      rw [← e, show ((a.toNat : Nat) : Int) = a from by omega]
      exact hs
    · cases hj
  · exact h.se j t hj
theorem CerOk.send (h : CerOk x c) {p : T_Packet} (hp : PkOk x p) : CerOk x (send c p).1 := by
  unfold Am.send
  split
  · exact h
  · rename_i hw
    have := h.wl
    refine ⟨h.ep, h.sl, h.se, h.oe, h.gl, h.hl, h.nl, h.go, by simp; omega, fun q hq => ?_⟩
    rcases List.mem_append.1 hq with hq | hq
    · exact h.wi q hq
    · rw [List.mem_singleton.1 hq]; exact hp
theorem CerOk.drop (h : CerOk x c) (i : Nat) : CerOk x (dropW c i) := by
  refine ⟨h.ep, h.sl, h.se, h.oe, h.gl, h.hl, h.nl, h.go, ?_, fun q hq => h.wi q (List.mem_of_mem_eraseIdx hq)⟩
  have := List.length_eraseIdx_le c.wire i
  have := h.wl
  show (c.wire.eraseIdx i).length ≤ 12
  omega
theorem CerOk.pk (h : CerOk x c) {a : Int} (h0 : 0 ≤ a) (h1 : a < (c.wire.length : Int)) : c.wire[a.toNat]? = some (c.pk a) ∧ PkOk x (c.pk a) := by
  have h4 : c.wire[a.toNat]? = some (c.pk a) := getD_mem (by omega)
  exact ⟨h4, h.wi _ (List.mem_of_getElem? h4)⟩
theorem CerOk.fresh (h : CerOk x c) {e : Int} (he : EpOk x e) : CerOk x (fresh c e) := by
  unfold Am.fresh
  split
  · refine ⟨h.ep, h.sl, h.se, .inr he, by simp [h.gl], by simp [h.hl], h.nl, fun j g hj => ?_, h.wl, h.wi⟩
    refine .inl ⟨?_, ?_⟩
    · exact List.eq_of_mem_replicate (List.mem_of_getElem? hj)
    · simp only [List.getD_eq_getElem?_getD, List.getElem?_replicate]
      split <;> rfl
  · exact h
theorem CerOk.comeO (h : CerOk x c) {p : T_Packet} (hp : PkOk x p) : CerOk x (comeO x c p) := by
  unfold Am.comeO
  split
  · split
    · refine ⟨h.ep, h.sl, h.se, h.oe, by simp [h.gl], by simp [h.hl], h.nl, fun j g hj => ?_, h.wl, h.wi⟩
      simp only at hj
      rw [List.getElem?_set] at hj
      split at hj
      · rename_i e
        split at hj
        · cases hj
          have h1 := hp.ho.1
          rw [← e, show ((p.2.1.toNat : Nat) : Int) = p.2.1 from by omega]
          exact .inr ⟨hp.rw.vl, hp.rw.ve⟩
        · cases hj
      · rename_i e
        rcases h.go j g hj with ⟨h1, h2⟩ | h1
        · refine .inl ⟨h1, ?_⟩
          simp only [List.getD_eq_getElem?_getD] at h2 ⊢
          rw [List.getElem?_set_ne e]
          exact h2
        · exact .inr h1
    · exact ⟨h.ep, h.sl, h.se, h.oe, h.gl, h.hl, by simp [h.nl], h.go, h.wl, h.wi⟩
  · exact h
theorem CerOk.comeS (h : CerOk x c) {p : T_Packet} (hp : PkOk x p) : CerOk x (comeS c p) := by
  unfold Am.comeS
  split
  · have hs := (h.seat hp.ho).2
    exact h.setS hp.ho (s := ((p.2.2.1, p.2.2.2.1, p.2.2.2.2), (c.seat p.2.1).2)) ⟨.inr ⟨hp.ep, hp.rw⟩, hs.sa, hs.lie⟩
  · exact h
theorem CerOk.come (h : CerOk x c) {p : T_Packet} (hp : PkOk x p) : CerOk x (come x c p) := by
  unfold Am.come
  split
  · exact (h.fresh hp.ep).comeO hp
  · exact h.comeS hp
theorem rowsOf_len (ow : List Int) (j : Int) : (rowsOf ow j).length ≤ ow.length := rowsP_len _ _
theorem HoOk.at (hd : DealOk x) {e a : Int} (ha : HoOk x a) (he : EpOk x e) : ∃ E J, DealAt x e a E J := by
  refine codeD_ok ?_
  unfold codeD
  rw [tv_true hd, if_pos rfl, if_pos ⟨⟨he.1, by have := he.2; omega⟩, ha.1, by have := ha.2; omega⟩]
theorem DealOk.prime (hd : DealOk x) : PrimeP x.1.2.2.1 := hd.sch.mat.pr
theorem RowsH.given (hd : DealOk x) {e a : Int} : RowsH x a (valsD x e a) (tagsD x e a (valsD x e a)) :=
  ⟨vals_len, by simp [tagsD, tagsOf], vals_in hd.prime⟩
theorem CerOk.doIt (hd : DealOk x) {d : T_Deed} (hp : DeedP d) (h : CerOk x c) : CerOk x (doIt x c d).1 := by
  obtain ⟨h1, h2, h3, h4, h5⟩ := hp
  unfold Am.doIt
  split
  · split
    · exact h
    · have hpk := (h.pk (a := d.2.1) h2.1 (by omega)).2
      have hc : CerOk x (if d.1 = 4 then c else dropW c d.2.1.toNat) := by
        split
        · exact h
        · exact h.drop _
      show CerOk x (if d.1 = 5 then _ else _)
      split
      · exact hc
      · exact hc.come hpk
  split
  · split
    · exact h
    · rename_i he
      have := h.ep.1
      have := h.ep.2
      exact ⟨⟨by show 0 ≤ c.ep + 1; omega, by show c.ep + 1 < _; omega⟩, h.sl, h.se, h.oe, h.gl, h.hl, h.nl, h.go, h.wl, h.wi⟩
  split
  · exact h
  rename_i hr
  have ha : HoOk x d.2.1 := ⟨h2.1, by omega⟩
  have hs := (h.seat ha).2
  split
  · exact h.send ⟨ha, h.ep, RowsH.given hd⟩
  split
  · split
    · exact h
    · rename_i hne
      refine h.send ⟨ha, ?_, ?_⟩
      · exact (hs.pu.resolve_left (fun q => hne q.1)).1
      · have := (hs.pu.resolve_left (fun q => hne q.1)).2
        exact ⟨by rw [lie_len]; exact this.vl, this.tl, lie_in hd.prime this.ve⟩
  split
  · split
    · exact h
    · exact h.setS ha (s := ((c.seat d.2.1).1, (c.seat d.2.1).2.1, d.2.2)) ⟨hs.pu, hs.sa, h3.1, by show d.2.2 ≤ _; omega⟩
  split
  · exact h.setS ha (s := ((c.seat d.2.1).1, (c.seat d.2.1).1, (c.seat d.2.1).2.2)) ⟨hs.pu, hs.pu, hs.lie⟩
  · exact h.setS ha (s := ((c.seat d.2.1).2.1, (c.seat d.2.1).2.1, (c.seat d.2.1).2.2)) ⟨hs.sa, hs.sa, hs.lie⟩
theorem CerOk.start (hd : DealOk x) : CerOk x (cer0 x.1.1.toNat) := by
  have h7 := hd.sch.h7
  have hb := hd.bl
  have h2 := hd.prime.1
  refine ⟨⟨Int.le_refl _, by show (0 : Int) < _; omega⟩, by have := hd.sch.h1; simp [cer0]; omega, fun j s hj => ?_, .inl rfl, by simp [cer0], by simp [cer0], by simp [cer0], fun j g hj => ?_, by simp [cer0], fun p hp => by simp [cer0] at hp⟩
  · rw [List.eq_of_mem_replicate (List.mem_of_getElem? hj)]
    exact ⟨.inl ⟨rfl, rfl, rfl⟩, .inl ⟨rfl, rfl, rfl⟩, by show (0 : Int) ≤ 0; omega, by show (0 : Int) ≤ _; omega⟩
  · refine .inl ⟨List.eq_of_mem_replicate (List.mem_of_getElem? hj), ?_⟩
    simp only [cer0, List.getD_eq_getElem?_getD, List.getElem?_replicate]
    split <;> rfl
theorem CerOk.play (hd : DealOk x) : ∀ (ds : List T_Deed) {c : Cer}, (∀ d ∈ ds, DeedP d) → CerOk x c → CerOk x (play x c ds)
  | [], _, _, h => h
  | d :: ds, c, hp, h => CerOk.play hd ds (fun e he => hp e (List.mem_cons_of_mem _ he)) (h.doIt hd (hp d List.mem_cons_self))
theorem play_snoc (x : T_Deal) : ∀ (ds : List T_Deed) (c : Cer) (d : T_Deed), play x c (ds ++ [d]) = (doIt x (play x c ds) d).1
  | [], c, d => rfl
  | e :: ds, c, d => play_snoc x ds _ d
theorem codes_snoc (x : T_Deal) : ∀ (ds : List T_Deed) (c : Cer) (d : T_Deed), codes x c (ds ++ [d]) = codes x c ds ++ [(doIt x (play x c ds) d).2]
  | [], c, d => rfl
  | e :: ds, c, d => by
    show _ :: codes x _ (ds ++ [d]) = _
    rw [codes_snoc x ds _ d]
    rfl
theorem codes_len (x : T_Deal) : ∀ (ds : List T_Deed) (c : Cer), (codes x c ds).length = ds.length
  | [], c => rfl
  | e :: ds, c => by show (codes x _ ds).length + 1 = _; rw [codes_len x ds _]; rfl
end
end Go.Proofs.YtijmkfnmdhpakaaGreat.Am
/- What the laws' own functions do at Deed: copies, equality. Each holds under its own conditions. -/
set_option linter.unusedVariables false
set_option maxRecDepth 20000
namespace Go.Proofs.YtijmkfnmdhpakaaGreat.Am
open Go Go.RowKit Go.Proofs
abbrev K_Deed : Kn T_Deed := Kn.pair (KI) (Kn.pair (KI) (KI))
abbrev M_Deed : Kn T_Deed := Kn.mp (KI) (Kn.mp (KI) (KI))
theorem le_Deed : KLe M_Deed K_Deed := KLe.pair ((KLe.refl KI)) (KLe.pair ((KLe.refl KI)) ((KLe.refl KI)))
abbrev B_Deed (x : T_Deed) : Prop := I64 x.1 ∧ I64 x.2.1 ∧ I64 x.2.2
abbrev W_Deed (x : T_Deed) : Prop := I64 x.1 ∧ I64 x.2.1 ∧ I64 x.2.2
section
variable {S : Ids} {H0 : AH} {W : Ids} {left k : Int}
theorem form_Deed {x : T_Deed} {cs : List Value} (h : K_Deed.R S H0 x cs) : cs = [.int .i64 x.1, .int .i64 x.2.1, .int .i64 x.2.2] := by
  obtain ⟨e0, d0, rfl, h0, h0_⟩ := h
  obtain ⟨e1, d1, rfl, h1, h1_⟩ := h0_
  have h2 := h1_
  obtain rfl := KI_of h0
  obtain rfl := KI_of h1
  obtain rfl := KI_of h2
  rfl
theorem formM_Deed {x : T_Deed} {cs : List Value} (h : M_Deed.R S H0 x cs) : cs = [.int .i64 x.1, .int .i64 x.2.1, .int .i64 x.2.2] := form_Deed (le_Deed.2 _ _ _ _ h)
theorem mkM_Deed {A : AH} {x : T_Deed} : M_Deed.R S A x [.int .i64 x.1, .int .i64 x.2.1, .int .i64 x.2.2] := by
  have k1 : (Kn.mp (KI) (KI)).R None_ A (x.2) [.int .i64 x.2.1, .int .i64 x.2.2] := mpR (X := None_) (Y := None_) (show KI.R None_ A _ [.int .i64 x.2.1] from rfl) (show KI.R None_ A _ [.int .i64 x.2.2] from rfl) (fun _ p => p.elim) (fun _ p => p.elim) (fun _ p _ => p.elim)
  exact mpR (X := None_) (Y := None_) (show KI.R None_ A _ [.int .i64 x.1] from rfl) k1 (fun _ p => p.elim) (fun _ p => p.elim) (fun _ p _ => p.elim)
theorem to_Deed {x : T_Deed} {cs : List Value} (hB : B_Deed x) (h : K_Deed.R S H0 x cs) : SpecM Tryz.prog S H0 40 [.agg cs.toArray] (fun n v H1 => ∃ cs, v = .agg cs.toArray ∧ M_Deed.R (New n H1.n) H1 x cs) := by
  obtain rfl := form_Deed h
  refine SpecM.of1 Tryz.func40 rfl (by kernel_rfl) rfl (fun H _ => ?_)
  refine KW.retM1 rfl rfl rfl rfl (fun H1 g => ⟨_, rfl, mkM_Deed⟩)
theorem eq_Deed {x : T_Deed} {cs cs' : List Value} (hB : B_Deed x) (h : K_Deed.R S H0 x cs) (h' : K_Deed.R S H0 x cs') : Spec Tryz.prog S H0 47 [.agg cs.toArray, .agg cs'.toArray] (fun v => v = .bool true) := by
  obtain rfl := form_Deed h
  obtain rfl := form_Deed h'
  refine Spec.of1 Tryz.func47 rfl (by kernel_rfl) rfl (fun H _ => ?_)
  refine KW.cF rfl rfl (by first | (simp; done) | decide) ?_
  refine KW.cF rfl rfl (by first | (simp; done) | decide) ?_
  refine KW.cF rfl rfl (by first | (simp; done) | decide) ?_
  exact KW.ret rfl rfl rfl rfl (rfl)
end
end Go.Proofs.YtijmkfnmdhpakaaGreat.Am
/- What the laws' own functions do at slices of Deed: sizes, copies, equality, marks. Each holds under its own conditions. -/
set_option linter.unusedVariables false
set_option maxRecDepth 20000
namespace Go.Proofs.YtijmkfnmdhpakaaGreat.Am
open Go Go.RowKit Go.Proofs
abbrev T_DeedS : Type := List T_Deed
abbrev K_DeedS : Kn (List T_Deed) := K_Deed.sl
abbrev M_DeedS : Kn (List T_Deed) := M_Deed.ml
theorem le_DeedS : KLe M_DeedS K_DeedS := KLe.row le_Deed
abbrev szE_Deed (x : T_Deed) : Nat := 1 + 1 + 1
abbrev tsE_Deed (x : T_Deed) : Nat := 0
abbrev mkE_Deed (k : Int) (x : T_Deed) : T_Deed := (k, k + ((1 : Nat) : Int), k + ((1 + 1 : Nat) : Int))
structure B_DeedS (x : List T_Deed) : Prop where
  len : x.length ≤ 1048576
  each : ∀ y ∈ x, B_Deed y
  tot : sum (x.map szE_Deed) ≤ 16777216
abbrev W_DeedS (x : List T_Deed) : Prop := x.length ≤ 9223372036854775807 ∧ ∀ y ∈ x, W_Deed y
abbrev sz_DeedS (x : List T_Deed) : Nat := sum (x.map szE_Deed)
abbrev mk_DeedS (k : Int) (x : List T_Deed) : List T_Deed := mks mkE_Deed szE_Deed k x
theorem size_DeedS {x : List T_Deed} (hB : B_DeedS x) : sz_DeedS x ≤ 16777216 := hB.tot
theorem ts0_DeedS (l : List T_Deed) : sum (l.map tsE_Deed) = 0 := by
  induction l with
  | nil => rfl
  | cons x l ih => simp only [List.map_cons, sum, ih, tsE_Deed]
theorem ts_DeedS (l : List T_Deed) : sum (l.map szE_Deed) = sum (l.map tsE_Deed) + 3 * l.length := by
  induction l with
  | nil => rfl
  | cons x l ih => simp only [List.map_cons, sum, List.length_cons, ih, szE_Deed, tsE_Deed]; omega
theorem one_Deed {S : Ids} {H0 : AH} {x : T_Deed} {cs : List Value} (h : M_Deed.R S H0 x cs) : cs.all Value.oneCell' = true := by
  obtain rfl := formM_Deed h
  rfl
section
variable {S : Ids} {H0 : AH} {W : Ids} {a a' : Option Addr} {c c' : Nat} {left k : Int}
theorem sz_DeedS' {x : List T_Deed} (l0 : 0 ≤ left) (l1 : left ≤ 1048576) (hW : W_DeedS x) (hs : K_DeedS.R S H0 x [.slice a x.length c]) : Spec Tryz.prog S H0 8 [.slice a x.length c, .int .i64 left] (SzPost left (B_DeedS x)) := by
  have hs := sl1 hs
  have hx := hW.1
  refine Spec.of1 Tryz.func8 rfl (by kernel_rfl) rfl (fun H _ => ?_)
  have e : IntKind.i64.wrap (left - (x.length : Int)) = left - (x.length : Int) := wr (by omega) (by omega)
  refine KW.cnd rfl rfl (fun h => KW.ret rfl rfl rfl rfl ⟨-1, rfl, .inl rfl⟩) (fun h => ?_)
  rw [e] at h
  refine KW.ret rfl rfl rfl rfl ⟨_, congrArg (Value.int .i64) e, .inr ⟨by omega, by omega, by omega, hW.2, ?_⟩⟩
  rw [ts_DeedS]
  have : sum (x.map tsE_Deed) = 0 := ts0_DeedS x
  omega
theorem to_DeedS {x : List T_Deed} (hB : B_DeedS x) (hs : K_DeedS.R S H0 x [.slice a x.length c]) : SpecM Tryz.prog S H0 11 [.slice a x.length c] (fun n v H1 => ∃ a c, v = .slice a x.length c ∧ M_DeedS.R (New n H1.n) H1 x [.slice a x.length c]) := by
  have hs := sl1 hs
  have hl := hB.len
  refine SpecM.of1 Tryz.func11 rfl (by kernel_rfl) rfl (fun H _ => ?_)
  refine KW.mkS rfl rfl rfl rfl rfl rfl rfl rfl rfl rfl (x.length) rfl rfl (by omega) (by show 24 * _ ≤ _; omega) ?_
  refine KW.lpM rfl rfl (fun s : RkS => [(0, .slice a x.length c), (3, .slice (some ⟨H.n, 0, some 3⟩) x.length x.length), (4, .int .i64 s.i)]) (fun s => s.S) (fun s => s.A) (fun s => [(H.n, ⟨_, true, s.cs⟩)]) (fun s => RkI M_Deed x H (x.length * 3) s) (fun s => x.length - s.i) ⟨0, Low H.n, H, fun _ => False, _⟩
    (RkI.start (by simp [zarr]; rfl)) ⟨rfl, rfl, rfl, trivial⟩ rfl rfl rfl (fun s hi b n => ?_)
  have hle := hi.le
  refine KW.fact (p := H.n < n ∧ ∀ id, s.S id → id < n) (fun _ g => ⟨(g.vars 0 _ rfl).2.1, fun id hid => (g.froz id hid).1⟩) (fun hHn => ?_)
  haveI : Stp (Low H.n) H s.S s.A := ⟨hi.old⟩
  refine KW.cnd rfl rfl (fun h => ?_) (fun h => ?_)
  · refine KW.getS (td := .struct #[]) hs.up rfl rfl rfl rfl rfl rfl rfl rfl rfl rfl rfl rfl rfl rfl rfl rfl rfl (by omega) h (fun y cy hy hsy => ?_)
    have hy : x[s.i]? = some y := hy
    refine KW.callN rfl rfl rfl rfl rfl (to_Deed (hB.each y (List.mem_of_getElem? hy)) hsy) (fun v H1 S' hn st hw hv => ?_)
    obtain ⟨cs2, rfl, hv⟩ := hv
    have hln := (M_Deed).len hv
    refine KW.idx0 rfl rfl rfl rfl rfl rfl rfl rfl rfl (by omega) (by omega) ?_
    refine KW.stB 0 rfl rfl rfl rfl rfl rfl (bstore_agg rfl hln.symm rfl (by have h1 := hi.len; have h2 : cs2.length = 3 := hln; have h3 : s.i < x.length := (by omega); show 0 + s.i * 3 + cs2.length ≤ s.cs.length; omega) (one_Deed hv)) ?_
    exact KW.nxt rfl rfl (fun H' g => ⟨_, hi.next rfl hHn.1 hHn.2 st hw hy hv, by simp only; omega, ⟨rfl, rfl, congrArg (Value.int .i64) (inc64 (by omega)), trivial⟩, g⟩)
  · have he : s.i = x.length := by omega
    refine KW.retM rfl rfl rfl rfl hi.old (fun H1 g => ?_)
    exact ⟨_, _, rfl, ml1' (hi.ml he rfl g)⟩
theorem eq_DeedS {x : List T_Deed} (hB : B_DeedS x) (hs : K_DeedS.R S H0 x [.slice a x.length c]) (hs' : K_DeedS.R S H0 x [.slice a' x.length c']) : Spec Tryz.prog S H0 15 [.slice a x.length c, .slice a' x.length c'] (fun v => v = .bool true) := by
  have hs := sl1 hs
  have hs' := sl1 hs'
  have hl := hB.len
  refine Spec.of1 Tryz.func15 rfl (by kernel_rfl) rfl (fun H _ => ?_)
  refine KW.cF rfl rfl (by first | (simp; done) | decide) ?_
  refine KW.lp rfl rfl (fun i : Nat => [(0, .slice a x.length c), (1, .slice a' x.length c'), (5, .int .i64 i)]) (fun i => i ≤ x.length) (fun i => x.length - i) (0) (by omega) ⟨rfl, rfl, rfl, trivial⟩ (fun i hi bE n => ?_)
  refine KW.cnd rfl rfl (fun h => ?_) (fun h => ?_)
  · refine KW.getS (td := .struct #[]) hs.up rfl rfl rfl rfl rfl rfl rfl rfl rfl rfl rfl rfl rfl rfl rfl rfl rfl (by omega) h (fun y cy hy hsy => ?_)
    refine KW.getS (td := .struct #[]) hs'.up rfl rfl rfl rfl rfl rfl rfl rfl rfl rfl rfl rfl rfl rfl rfl rfl rfl (by omega) h (fun z cz hz hsz => ?_)
    have hy : x[i]? = some y := hy
    have hz : x[i]? = some z := hz
    rw [hy] at hz
    cases hz
    refine KW.callE rfl rfl rfl rfl rfl (eq_Deed (hB.each y (List.mem_of_getElem? hy)) hsy hsz) (fun _ _ => ?_)
    refine KW.cF rfl rfl (by first | (simp; done) | decide) ?_
    refine KW.nxt rfl rfl (fun H' g => ⟨i + 1, by omega, by first | omega | (simp only; omega), ⟨rfl, rfl, congrArg (Value.int .i64) (inc64 (by omega)), trivial⟩, g⟩)
  · exact KW.ret rfl rfl rfl rfl (rfl)
end
end Go.Proofs.YtijmkfnmdhpakaaGreat.Am
