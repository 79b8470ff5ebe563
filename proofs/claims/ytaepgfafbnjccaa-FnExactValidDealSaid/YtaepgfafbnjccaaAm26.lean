/- Lists that are owned: their cells may be written, their elements lead to sets of blocks apart from each other. For every program. No condition beyond each theorem's own. -/
import Derived.Test.YtaepgfafbnjccaaAm25
set_option linter.unusedSimpArgs false
set_option linter.unusedVariables false
namespace Go.Proofs.Ytaepgfafbnjccaa.Am
open Go Go.RowKit
/-- A slice of one's own reads as a list. -/
def Kn.Ml {α : Type} (d : Kn α) (S : Ids) (H : AH) (s : Value) (xs : List α) : Prop :=
  (xs = [] ∧ ∃ a c, s = .slice a 0 c ∧ (a = none → c = 0)) ∨ ∃ (o c : Nat) (b : Blk) (W : Nat → Ids), s = .slice (some ⟨o, 0, some d.es⟩) xs.length c ∧ xs.length ≤ c ∧ S o ∧ H.m o = some b ∧ b.rw = true ∧ xs.length * d.es ≤ b.cells.length ∧
    (∀ i id, W i id → S id ∧ id ≠ o) ∧ (∀ i j id, W i id → W j id → i = j) ∧ ∀ (i : Nat) x, xs[i]? = some x → d.R (W i) H x ((b.cells.drop (0 + i * d.es)).take d.es)
theorem Kn.Ml.same {α : Type} {d : Kn α} {S : Ids} {H H' : AH} {s : Value} {xs : List α} (hs : ∀ id, S id → H'.m id = H.m id) (h : d.Ml S H s xs) : d.Ml S H' s xs := by
  rcases h with h | ⟨o, c, b, W, h1, h2, h3, h4, h5, h6, h7, h8, h9⟩
  · exact .inl h
  · exact .inr ⟨o, c, b, W, h1, h2, h3, by rw [hs o h3]; exact h4, h5, h6, h7, h8, fun i x hx => d.same (fun id hid => hs id (h7 i id hid).1) (h9 i x hx)⟩
theorem Kn.Ml.more {α : Type} {d : Kn α} {S S' : Ids} {H : AH} {s : Value} {xs : List α} (h : d.Ml S H s xs) (hS : ∀ id, S id → S' id) : d.Ml S' H s xs := by
  rcases h with h | ⟨o, c, b, W, h1, h2, h3, h4, h5, h6, h7, h8, h9⟩
  · exact .inl h
  · exact .inr ⟨o, c, b, W, h1, h2, hS o h3, h4, h5, h6, fun i id hid => ⟨hS id (h7 i id hid).1, (h7 i id hid).2⟩, h8, h9⟩
def Kn.ml {α : Type} (d : Kn α) : Kn (List α) where
  es := 1
  R := fun S H xs cs => ∃ s, cs = [s] ∧ d.Ml S H s xs
  len := fun ⟨s, h, _⟩ => by rw [h]; rfl
  same := fun hs ⟨s, h, k⟩ => ⟨s, h, k.same hs⟩
  more := fun hS ⟨s, h, k⟩ => ⟨s, h, k.more hS⟩
/-- Two parts that lead to sets of blocks apart from each other. -/
def Kn.mp {α β : Type} (a : Kn α) (b : Kn β) : Kn (α × β) where
  es := a.es + b.es
  R := fun S H x cs => ∃ (c d : List Value) (S1 S2 : Ids), cs = c ++ d ∧ (∀ id, S1 id → S id) ∧ (∀ id, S2 id → S id) ∧ (∀ id, S1 id → S2 id → False) ∧ a.R S1 H x.1 c ∧ b.R S2 H x.2 d
  len := fun ⟨c, d, _, _, h, _, _, _, h1, h2⟩ => by rw [h, List.length_append, a.len h1, b.len h2]
  same := fun hs ⟨c, d, S1, S2, h, i1, i2, hd, h1, h2⟩ => ⟨c, d, S1, S2, h, i1, i2, hd, a.same (fun id hid => hs id (i1 id hid)) h1, b.same (fun id hid => hs id (i2 id hid)) h2⟩
  more := fun hS ⟨c, d, S1, S2, h, i1, i2, hd, h1, h2⟩ => ⟨c, d, S1, S2, h, fun id hid => hS id (i1 id hid), fun id hid => hS id (i2 id hid), hd, h1, h2⟩
/-- d tells no less than d'. -/
def KLe {α : Type} (d d' : Kn α) : Prop := d.es = d'.es ∧ ∀ S H x cs, d.R S H x cs → d'.R S H x cs
theorem KLe.refl {α : Type} (d : Kn α) : KLe d d := ⟨rfl, fun _ _ _ _ h => h⟩
theorem Kn.Ml.to {α : Type} {d d' : Kn α} (k : KLe d d') {S : Ids} {H : AH} {s : Value} {xs : List α} (h : d.Ml S H s xs) : d'.Sl S H s xs := by
  rcases h with h | ⟨o, c, b, W, h1, h2, h3, h4, h5, h6, h7, h8, h9⟩
  · exact .inl h
  · rw [k.1] at h1 h6 h9
    exact .inr ⟨o, 0, c, b, h1, h2, h3, h4, by omega, fun i x hx => d'.more (fun id hid => (h7 i id hid).1) (k.2 _ _ _ _ (h9 i x hx))⟩
theorem KLe.row {α : Type} {d d' : Kn α} (k : KLe d d') : KLe d.ml d'.sl := ⟨rfl, fun S H x cs ⟨s, h, hm⟩ => ⟨s, h, hm.to k⟩⟩
theorem KLe.pair {α β : Type} {a a' : Kn α} {b b' : Kn β} (h : KLe a a') (k : KLe b b') : KLe (Kn.mp a b) (Kn.pair a' b') := ⟨by show a.es + b.es = a'.es + b'.es; rw [h.1, k.1], fun S H x cs ⟨c, d, S1, S2, e, i1, i2, _, h1, h2⟩ => ⟨c, d, e, a'.more i1 (h.2 _ _ _ _ h1), b'.more i2 (k.2 _ _ _ _ h2)⟩⟩
section
variable {α : Type} {d : Kn α} {S S' : Ids} {H H1 : AH} {s : Value} {xs : List α}
theorem Kn.Ml.sl (h : d.Ml S H s xs) : d.Sl S H s xs := h.to (KLe.refl d)
theorem Kn.Ml.form (h : d.Ml S H s xs) : ∃ a c, s = .slice a xs.length c := h.sl.form
theorem Kn.Ml.st {H0 : AH} (h : d.Ml S H0 s xs) (st : St S H0 S' H1) : d.Ml S' H1 s xs := (h.same (fun id hid => (st id hid).2)).more (fun id hid => (st id hid).1)
/-- What stands apart from what has been written. -/
theorem Kn.Ml.apart {W S1 : Ids} {H0 : AH} (h : d.Ml S1 H0 s xs) (hi : ∀ id, S1 id → S id) (st : StW W S H0 S' H1) (hd : ∀ id, S1 id → ¬ W id) : d.Ml S1 H1 s xs ∧ ∀ id, S1 id → S' id :=
  ⟨h.same (fun id hid => (st id (hi id hid)).2 (hd id hid)), fun id hid => (st id (hi id hid)).1⟩
theorem Kn.Sl.apart {W S1 : Ids} {H0 : AH} (h : d.Sl S1 H0 s xs) (hi : ∀ id, S1 id → S id) (st : StW W S H0 S' H1) (hd : ∀ id, S1 id → ¬ W id) : d.Sl S1 H1 s xs ∧ ∀ id, S1 id → S' id :=
  ⟨h.same (fun id hid => (st id (hi id hid)).2 (hd id hid)), fun id hid => (st id (hi id hid)).1⟩
theorem int_ml {ik : IntKind} {ys : List Int} {id c : Nat} {b : Blk} (hS : S id) (hb : H.m id = some b) (hrw : b.rw = true) (hc : b.cells = ys.map (Value.int ik)) (hl : ys.length ≤ c) : (Kn.int ik).Ml S H (.slice (some ⟨id, 0, some 1⟩) ys.length c) ys :=
  .inr ⟨id, c, b, fun _ _ => False, rfl, hl, hS, hb, hrw, by rw [hc]; simp [Kn.int], fun _ _ h => h.elim, fun _ _ _ h => h.elim, fun i x hx => by rw [hc]; exact int_at hx⟩
end
/-- What has been made stands so at the end. -/
theorem Good.ml {α : Type} {d : Kn α} {S S1 : Ids} {H0 H2 : AH} {T : List Var} {n lo : Nat} {v : Value} {xs : List α} (g : Good S H0 T n H2) (h : d.Ml S1 H0 v xs) (hS : ∀ id, S1 id → S id ∧ lo ≤ id) : d.Ml (New lo H2.n) H2 v xs :=
  (h.same (fun id hid => (g.froz id (hS id hid).1).2)).more (fun id hid => ⟨(hS id hid).2, by have := (g.froz id (hS id hid).1).1; have := g.n_; omega⟩)
/-- The state of a loop that copies row by row. -/
structure MkS where
  i : Nat
  S : Ids
  A : AH
  W : Nat → Ids
  cs : List Value
structure MkI {α : Type} (d : Kn α) (xs : List α) (H : AH) (s : MkS) : Prop where
  le : s.i ≤ xs.length
  len : s.cs.length = xs.length
  old : St (Low H.n) H s.S s.A
  own : ∀ j id, s.W j id → s.S id ∧ H.n < id
  dis : ∀ i j id, s.W i id → s.W j id → i = j
  row : ∀ j, j < s.i → ∀ x, xs[j]? = some x → ∃ v, s.cs[j]? = some v ∧ d.R (s.W j) s.A x [v]
theorem MkI.start {α : Type} {d : Kn α} {xs : List α} {H : AH} {cs : List Value} (hl : cs.length = xs.length) : MkI d xs H ⟨0, Low H.n, H, fun _ _ => False, cs⟩ :=
  ⟨by simp only; omega, hl, fun id hid => ⟨hid, rfl⟩, fun _ _ h => h.elim, fun _ _ _ h => h.elim, fun j hj => absurd hj (by simp)⟩
theorem MkI.next {α : Type} {d : Kn α} {xs : List α} {H H1 : AH} {s : MkS} {S' : Ids} {n : Nat} (h : MkI d xs H s) (hn : H.n < n) (hlt : ∀ id, s.S id → id < n) (st : St s.S s.A S' H1) (hw : ∀ id, New n H1.n id → S' id) {y : α} {v : Value} (hy : xs[s.i]? = some y) (hv : d.R (New n H1.n) H1 y [v]) :
    MkI d xs H ⟨s.i + 1, S', H1, fun j id => if j = s.i then New n H1.n id else s.W j id, s.cs.set (0 + s.i * 1) v⟩ := by
  have hi := (List.getElem?_eq_some_iff.1 hy).1
  have hl := h.len
  refine ⟨by simp only; omega, by simp [h.len], h.old.trans st, fun j id hid => ?_, fun i j id hi hj => ?_, fun j hj x hx => ?_⟩
  · simp only at hid
    split at hid
    · exact ⟨hw id hid, by have := hid.1; omega⟩
    · exact ⟨(st id (h.own j id hid).1).1, (h.own j id hid).2⟩
  · simp only at hi hj
    split at hi <;> split at hj
    · omega
    · have := hlt id (h.own j id hj).1; have := hi.1; omega
    · have := hlt id (h.own i id hi).1; have := hj.1; omega
    · exact h.dis i j id hi hj
  · simp only at hj
    rw [Nat.zero_add, Nat.mul_one]
    by_cases e : s.i = j
    · subst e
      rw [hy] at hx
      cases hx
      refine ⟨v, by simp only; rw [List.getElem?_set_self (by omega)], ?_⟩
      simp only [if_true]
      exact hv
    · obtain ⟨u, h1, h2⟩ := h.row j (by omega) x hx
      refine ⟨u, by simp only; rw [List.getElem?_set_ne e]; exact h1, ?_⟩
      simp only
      rw [show (fun id => if j = s.i then New n H1.n id else s.W j id) = s.W j from by funext id; rw [if_neg (Ne.symm e)]]
      exact d.same (fun id hid => (st id (h.own j id hid).1).2) h2
/-- What such a loop has made. -/
theorem MkI.ml {α : Type} {d : Kn α} {xs : List α} {H H1 : AH} {s : MkS} {n1 : Nat} {ty : TypeId} {T : List Var} (h : MkI d xs H s) (he : s.i = xs.length) (hes : d.es = 1) (hT : T[0]? = some (H.n, ⟨ty, true, s.cs⟩)) (g : Good s.S s.A T n1 H1) :
    d.Ml (New H.n H1.n) H1 (.slice (some ⟨H.n, 0, some 1⟩) xs.length xs.length) xs := by
  have hb := g.blk hT
  have hn := g.n_
  refine .inr ⟨H.n, xs.length, _, s.W, by rw [hes], Nat.le_refl _, ⟨Nat.le_refl _, hb.2⟩, hb.1, rfl, by simp only [hes, h.len]; omega, fun i id hid => ⟨⟨Nat.le_of_lt (h.own i id hid).2, ?_⟩, Nat.ne_of_gt (h.own i id hid).2⟩, h.dis, fun i x hx => ?_⟩
  · have := (g.froz id (h.own i id hid).1).1
    omega
  have hi := (List.getElem?_eq_some_iff.1 hx).1
  obtain ⟨v, h1, h2⟩ := h.row i (by omega) x hx
  have e : ((s.cs.drop (0 + i * d.es)).take d.es) = [v] := by
    rw [hes, Nat.zero_add, Nat.mul_one, List.take_one, List.head?_drop, h1]
    rfl
  simp only
  rw [e]
  exact d.same (fun id hid => (g.froz id (h.own i id hid).1).2) h2
theorem cell_of {l : List Value} {m : Nat} {v : Value} (h : (l.drop m).take 1 = [v]) : l[m]? = some v := by
  have : ((l.drop m).take 1)[0]? = some v := by rw [h]; rfl
  rw [List.getElem?_take, if_pos (by omega), List.getElem?_drop] at this
  simpa using this
section
variable {P : Program} {S : Ids} {H0 : AH} {Q : PostC} {k k1 : List It} {e e1 : Env} {T T1 : List Var} {n n1 : Nat} {l1 r1 : List Nat} {d1 : Tmp}
/-- A cell of a frozen block. -/
theorem KW.ldC {o : Oper} {dr : Bool} {t : TypeId} {x : Operand} {id kk : Nat} {sp : Option Nat} {b : Blk} {v : Value} {td : TypeDesc} (hS : S id) (hm : H0.m id = some b) (hc : b.cells[kk]? = some v) (h : Go1 P k e T n (.op o dr) k1 e1 T1 n1 l1 r1) (hlr : l1 = r1) (ho : o.op = .load t x) (hd : o.dst = some d1) (hx : ev e1 x = .pointer (some ⟨id, kk, sp⟩))
    (hu : P.underlying t = some td) (hnot : (match td with | .struct _ => false | .array _ _ => false | _ => true) = true) (hk : KW P S H0 Q n1 T1 k1 (put1 e1 d1 v)) : KW P S H0 Q n T k e := by
  refine KW.ldP hS hm h hlr ho hd hx ?_ hk
  unfold bload
  simp only [hu]
  cases td <;> first | exact hc | (simp at hnot)
end
end Go.Proofs.Ytaepgfafbnjccaa.Am
