/- Contracts and laws on abstract memory, merged. Each holds under its own conditions. -/
import Derived.Test.YtmkpfllbmdahkaaPCasesBySecret02
/- Contracts: copies and equality of rows; lies. Each holds under its own conditions. -/
set_option linter.unusedVariables false
set_option linter.unusedSimpArgs false
set_option maxRecDepth 20000
namespace Go.Proofs.Ytmkpfllbmdahkaa.Am
open Go Go.RowKit Go.Proofs
section
variable {S : Ids} {H0 : AH}
theorem l00Own {a c} {xs : List Int} (hl : xs.length ≤ 1048576) (hs : KI.Sl S H0 (.slice a xs.length c) xs) : SpecM Try.prog S H0 125 [.slice a xs.length c] (MkL xs) := by
  refine SpecM.of1 Try.func125 rfl (by kernel_rfl) rfl (fun H _ => ?_)
  refine KW.lit rfl rfl rfl rfl rfl rfl rfl rfl rfl rfl [] rfl rfl (fun v hv => by simp at hv) rfl ?_
  refine KW.appV 0 rfl rfl rfl rfl rfl rfl rfl rfl rfl rfl (fun H1 g => acells_I hs.up g) (by simp) (by simp) (fun v hv => by obtain ⟨_, _, rfl⟩ := List.mem_map.1 hv; rfl) (by show (_ + _) * 8 ≤ _; simp only [List.length_cons, List.length_nil]; omega) (by simp only [List.length_cons, List.length_nil]; omega) (show 0 + xs.length = xs.length from by omega) (fun oa _ _ => ?_)
  refine KW.retM1 rfl rfl rfl rfl (fun H1 g => MkL.of g (j := 0) rfl (g.ge (H1 := H) (j := 0) rfl))
theorem cloneI {a c} {xs : List Int} (hl : xs.length ≤ 1048576) (hs : KI.Sl S H0 (.slice a xs.length c) xs) : SpecM Try.prog S H0 119 [.slice a xs.length c] (MkL xs) := by
  refine SpecM.of1 Try.func119 rfl (by kernel_rfl) rfl (fun H _ => ?_)
  refine KW.cndB rfl rfl (fun h => ?_) (fun h => ?_)
  · have ha : a = none := by cases a with
      | none => rfl
      | some a => simp at h
    have hx : xs = [] := by
      rcases hs with ⟨hx, _⟩ | ⟨id, k, c1, b, h1, _⟩
      · exact hx
      · rw [ha] at h1; cases h1
    subst hx
    refine KW.retM1 rfl rfl rfl rfl (fun H1 g => ⟨none, 0, rfl, .inl ⟨rfl, _, _, rfl, fun _ => rfl⟩⟩)
  · refine KW.lit rfl rfl rfl rfl rfl rfl rfl rfl rfl rfl [] rfl rfl (fun v hv => by simp at hv) rfl ?_
    refine KW.appV 0 rfl rfl rfl rfl rfl rfl rfl rfl rfl rfl (fun H1 g => acells_I hs.up g) (by simp) (by simp) (fun v hv => by obtain ⟨_, _, rfl⟩ := List.mem_map.1 hv; rfl) (by show (_ + _) * 8 ≤ _; simp only [List.length_cons, List.length_nil]; omega) (by simp only [List.length_cons, List.length_nil]; omega) (show 0 + xs.length = xs.length from by omega) (fun oa _ _ => ?_)
    refine KW.retM1 rfl rfl rfl rfl (fun H1 g => MkL.of g (j := 0) rfl (g.ge (H1 := H) (j := 0) rfl))
theorem equalI {a c a' c'} {xs ys : List Int} (hl : xs.length ≤ 1048576) (hs : KI.Sl S H0 (.slice a xs.length c) xs) (hs' : KI.Sl S H0 (.slice a' ys.length c') ys) : Spec Try.prog S H0 126 [.slice a xs.length c, .slice a' ys.length c'] (fun v => v = .bool (tv (xs = ys))) := by
  refine Spec.of1 Try.func126 rfl (by kernel_rfl) rfl (fun H _ => ?_)
  refine KW.cndB rfl rfl (fun h => ?_) (fun h => ?_)
  · exact KW.ret rfl rfl rfl rfl (by rw [tv_false (fun hc => by rw [hc] at h; simp at h)]; rfl)
  have h : xs.length = ys.length := by simp at h; omega
  refine KW.lp rfl rfl (fun i : Nat => [(0, .slice a xs.length c), (1, .slice a' ys.length c'), (12, .int .i64 xs.length), (13, .int .i64 i)]) (fun i => i ≤ xs.length ∧ ∀ j, j < i → xs[j]? = ys[j]?) (fun i => xs.length - i) (0) (⟨by omega, fun j h => absurd h (by omega)⟩) ⟨rfl, rfl, rfl, rfl, trivial⟩ (fun i hi bE n => ?_)
  obtain ⟨hi, hj⟩ := hi
  refine KW.cnd rfl rfl (fun h2 => ?_) (fun h2 => ?_)
  · refine KW.getI hs.up rfl rfl rfl rfl rfl rfl rfl rfl rfl rfl rfl rfl rfl rfl rfl rfl (by omega) (h2) (fun x hx => ?_)
    refine KW.getI hs'.up rfl rfl rfl rfl rfl rfl rfl rfl rfl rfl rfl rfl rfl rfl rfl rfl (by omega) (by omega) (fun y hy => ?_)
    have hx : xs[i]? = some x := hx
    have hy : ys[i]? = some y := hy
    refine KW.cndB rfl rfl (fun h3 => ?_) (fun h3 => ?_)
    · exact KW.ret rfl rfl rfl rfl (by rw [tv_false (fun hc => by subst hc; rw [hx] at hy; cases hy; simp at h3)]; rfl)
    have h3 : x = y := by simpa using h3
    refine KW.nxt rfl rfl (fun H' g => ⟨i + 1, ⟨by omega, upto hj (by rw [hx, hy, h3])⟩, by first | omega | (simp only; omega), ⟨rfl, rfl, rfl, congrArg (Value.int .i64) (inc64 (by omega)), trivial⟩, g⟩)
  · have : xs = ys := List.ext_getElem? fun j => by
      rcases Nat.lt_or_ge j i with h | h
      · exact hj j h
      · rw [List.getElem?_eq_none (by omega), List.getElem?_eq_none (by omega)]
    exact KW.ret rfl rfl rfl rfl (by rw [tv_true this]; rfl)
theorem l00Same {a c a' c'} {xs ys : List Int} (hl : xs.length ≤ 1048576) (hs : KI.Sl S H0 (.slice a xs.length c) xs) (hs' : KI.Sl S H0 (.slice a' ys.length c') ys) : Spec Try.prog S H0 122 [.slice a xs.length c, .slice a' ys.length c'] (fun v => v = .bool (tv (xs = ys))) := by
  refine Spec.of1 Try.func122 rfl (by kernel_rfl) rfl (fun H _ => ?_)
  refine KW.cndB rfl rfl (fun h => ?_) (fun h => ?_)
  · exact KW.ret rfl rfl rfl rfl (by rw [tv_false (fun hc => by rw [hc] at h; simp at h)]; rfl)
  have h : xs.length = ys.length := by simp at h; omega
  refine KW.lp rfl rfl (fun i : Nat => [(0, .slice a xs.length c), (1, .slice a' ys.length c'), (5, .int .i64 i)]) (fun i => i ≤ xs.length ∧ ∀ j, j < i → xs[j]? = ys[j]?) (fun i => xs.length - i) (0) (⟨by omega, fun j h => absurd h (by omega)⟩) ⟨rfl, rfl, rfl, trivial⟩ (fun i hi bE n => ?_)
  obtain ⟨hi, hj⟩ := hi
  refine KW.cnd rfl rfl (fun h2 => ?_) (fun h2 => ?_)
  · refine KW.getI hs.up rfl rfl rfl rfl rfl rfl rfl rfl rfl rfl rfl rfl rfl rfl rfl rfl (by omega) (h2) (fun x hx => ?_)
    refine KW.getI hs'.up rfl rfl rfl rfl rfl rfl rfl rfl rfl rfl rfl rfl rfl rfl rfl rfl (by omega) (by omega) (fun y hy => ?_)
    have hx : xs[i]? = some x := hx
    have hy : ys[i]? = some y := hy
    refine KW.cndB rfl rfl (fun h3 => ?_) (fun h3 => ?_)
    · exact KW.ret rfl rfl rfl rfl (by rw [tv_false (fun hc => by subst hc; rw [hx] at hy; cases hy; simp at h3)]; rfl)
    have h3 : x = y := by simpa using h3
    refine KW.nxt rfl rfl (fun H' g => ⟨i + 1, ⟨by omega, upto hj (by rw [hx, hy, h3])⟩, by first | omega | (simp only; omega), ⟨rfl, rfl, congrArg (Value.int .i64) (inc64 (by omega)), trivial⟩, g⟩)
  · have : xs = ys := List.ext_getElem? fun j => by
      rcases Nat.lt_or_ge j i with h | h
      · exact hj j h
      · rw [List.getElem?_eq_none (by omega), List.getElem?_eq_none (by omega)]
    exact KW.ret rfl rfl rfl rfl (by rw [tv_true this]; rfl)
theorem lie_at {p : Int} {vals : List Int} {lie : Int} {i : Nat} {x : Int} (hi : (lieOf p vals lie)[i]? = some x) : (i = 0 ∧ x = (vals.getD 0 0 + lie) % p) ∨ (0 < i ∧ vals[i]? = some x) := by
  cases vals with
  | nil => simp [lieOf] at hi
  | cons v vs =>
    cases i with
    | zero => exact .inl ⟨rfl, by simpa [lieOf] using hi.symm⟩
    | succ i => exact .inr ⟨by omega, by simpa [lieOf] using hi⟩
theorem lied (h p c s : Int) (hp : PrimeP p) (lie : Int) (hlie : 0 ≤ lie ∧ lie ≤ p) {a1 c1 a2 c2 a3 c3 a4 c4 a5 c5} {n1 n2 n3 n4 : Nat} {vals : List Int} (hl : vals.length ≤ 1048576) (hv : Elems p vals) (hs : KI.Sl S H0 (.slice a5 vals.length c5) vals) :
    SpecM Try.prog S H0 148 [.agg #[.int .i64 h, .slice a1 n1 c1, .int .i64 p, .int .i64 c, .slice a2 n2 c2, .int .i64 s, .slice a3 n3 c3, .slice a4 n4 c4], .slice a5 vals.length c5, .int .i64 lie] (MkL (lieOf p vals lie)) := by
  refine SpecM.of1 Try.func148 rfl (by kernel_rfl) rfl (fun H _ => ?_)
  refine KW.fact (fun _ g => g.nle (H1 := H)) (fun hn0 => ?_)
  refine KW.callN1 rfl rfl rfl rfl rfl (cloneI hl hs.up) (fun v HA SA mA _ _ hv => ?_)
  obtain ⟨a6, c6, rfl, hA⟩ := hv
  refine KW.cnd rfl rfl (fun k1 => ?_) (fun k1 => ?_)
  · have k1 : 0 < vals.length := by have : (0 : Int) < vals.length := k1; omega
    obtain ⟨o, c7, b, e1, e2, e3, e4, e5, e6, e7⟩ := hA.ints (fun hx => by rw [hx] at k1; simp at k1)
    cases e1
    obtain ⟨ty, rw, cells⟩ := b
    obtain rfl : rw = true := e5
    obtain ⟨v0, hv0⟩ : ∃ v, vals[0]? = some v := ⟨vals[0], List.getElem?_eq_getElem k1⟩
    have hvd : vals.getD 0 0 = v0 := getD_of hv0
    have hvb := hv v0 (List.mem_of_getElem? hv0)
    have hp2 := hp.1
    have hp31 := hp.2.1
    have oS := (inferInstance : On (New _ HA.n) HA SA HA).st o e3
    refine KW.thaw o ⟨ty, true, cells⟩ oS.1 e4 ?_
    haveI : On (Low H.n) H (fun id => SA id ∧ id ≠ o) HA := On.thaw (fun id hid => by have : id < H.n := hid; have := e3.1; omega)
    refine KW.idx0 rfl rfl rfl rfl rfl rfl rfl rfl rfl (by omega) (by omega) ?_
    refine KW.ldT 1 rfl rfl rfl rfl rfl rfl (bload_at (e7 0 v0 hv0) rfl rfl) ?_
    refine KW.rem rfl rfl rfl rfl rfl rfl (by rw [wr (by omega) (by omega)]; omega) (by omega) ?_
    rw [wr (by omega) (by omega), ← hvd]
    refine KW.idx0 rfl rfl rfl rfl rfl rfl rfl rfl rfl (by omega) (by omega) ?_
    refine KW.st1 1 rfl rfl rfl rfl rfl rfl rfl rfl rfl rfl rfl rfl (by simp only; simp only at e6; omega) ?_
    refine KW.retM1 rfl rfl rfl rfl (fun H1 g => ?_)
    have hb := g.blk (j := 1) rfl
    have el : (lieOf p vals lie).length = vals.length := lie_len
    refine ⟨_, _, by rw [el]; rfl, ?_⟩
    refine mlI_of ⟨by have := e3.1; omega, hb.2⟩ hb.1 rfl (by rw [el]; exact e2) (by rw [el]; simp only [List.length_set]; exact e6) (fun i x hi => ?_)
    rcases lie_at hi with ⟨rfl, rfl⟩ | ⟨h0, h1⟩
    · show (cells.set 0 (Value.int .i64 _))[0]? = _
      rw [List.getElem?_set_self (by simp only at e6; omega)]
    · show (cells.set 0 (Value.int .i64 _))[i]? = _
      rw [List.getElem?_set_ne (by omega)]; exact e7 i x h1
  · have hx : vals = [] := List.eq_nil_of_length_eq_zero (by have k1 : ¬ (0 : Int) < vals.length := k1; omega)
    subst hx
    refine KW.retM1 rfl rfl rfl rfl (fun H1 g => ⟨_, _, rfl, g.made (by omega) hA⟩)
end
end Go.Proofs.Ytmkpfllbmdahkaa.Am
/- Contracts: rows copied. Each holds under its own conditions. -/
set_option linter.unusedVariables false
set_option linter.unusedSimpArgs false
set_option maxRecDepth 20000
namespace Go.Proofs.Ytmkpfllbmdahkaa.Am
open Go Go.RowKit Go.Proofs Go.Proofs.Ytmkpfllbmdahkaa.Pl
/-- What a maker of rows yields: the list lies in block o, its rows in V. -/
def MkG (xs : List (List Int)) (ty : TypeId) (n : Nat) (v : Value) (H1 : AH) : Prop := ∃ o cs V, v = .slice (some ⟨o, 0, some 1⟩) xs.length xs.length ∧ New n H1.n o ∧ H1.m o = some ⟨ty, true, cs⟩ ∧ (∀ id, V id → New n H1.n id ∧ id ≠ o) ∧ RowsB KI.ml V H1 V xs cs
theorem RowsB.on {S S' V : Ids} {A A' : AH} {rows : List (List Int)} {cs : List Value} (h : RowsB KI.ml S A V rows cs) (hs : ∀ id, V id → S' id ∧ A'.m id = A.m id) : RowsB KI.ml S' A' V rows cs := by
  obtain ⟨W, h1, h2, h3⟩ := h.rows
  refine ⟨h.len, fun id hid => (hs id hid).1, W, h1, h2, fun j x hx => ?_⟩
  obtain ⟨v, h4, h5⟩ := h3 j x hx
  exact ⟨v, h4, KI.ml.same (fun id hid => (hs id (h1 j id hid)).2) h5⟩
theorem RwI.mkG {xs : List (List Int)} {H HB H1 : AH} {SB : Ids} {s : RwS} {T : List Var} {n j : Nat} {ty : TypeId} (h : RwI (fun x => x) xs H SB HB s) (he : s.i = xs.length) (g : Good s.S s.A T n H1) (hT : T[j]? = some (s.o, ⟨ty, true, s.cs⟩)) (ho : H.n ≤ s.o) : MkG xs ty H.n (.slice (some ⟨s.o, 0, some 1⟩) xs.length xs.length) H1 := by
  have hb := h.b
  rw [he, List.take_of_length_le (Nat.le_refl _), List.map_id'] at hb
  have hno := (g.vars j _ hT).2.2
  have hn := g.n_
  refine ⟨s.o, s.cs, s.V, rfl, ⟨ho, (g.blk hT).2⟩, (g.blk hT).1, fun id hid => ⟨⟨h.v id hid, ?_⟩, fun e => hno (e ▸ hb.sub id hid)⟩, hb.on (fun id hid => ⟨hid, (g.froz id (hb.sub id hid)).2⟩)⟩
  have := (g.froz id (hb.sub id hid)).1
  omega
section
variable {S : Ids} {H0 : AH}
theorem copyRows {a c} {xs : List (List Int)} (hB : B_Int64SS xs) (hs : KI.sl.Sl S H0 (.slice a xs.length c) xs) : SpecM Try.prog S H0 137 [.slice a xs.length c] (MkG xs 32) := by
  have hxl := hB.len
  refine SpecM.of1 Try.func137 rfl (by kernel_rfl) rfl (fun H _ => ?_)
  refine KW.lit rfl rfl rfl rfl rfl rfl rfl rfl rfl rfl [] rfl rfl (fun v hv => by simp at hv) rfl ?_
  refine KW.lpM rfl rfl (fun s : RwS => [(3, .slice (some ⟨s.o, 0, some 1⟩) s.i s.i), (7, .slice a xs.length c), (8, .int .i64 xs.length), (9, .int .i64 s.i)]) (fun s => s.S) (fun s => s.A) (fun s => [(s.o, ⟨_, true, s.cs⟩)]) (fun s => RwI (fun x => x) xs H (Low H.n) H s) (fun s => xs.length - s.i) (⟨0, Low H.n, H, fun _ => False, [], _⟩) (RwI.start) ⟨rfl, rfl, rfl, rfl, trivial⟩ rfl rfl rfl (fun s hi bE n => ?_)
  haveI : Stp (Low H.n) H s.S s.A := ⟨hi.old⟩
  have hle := hi.le
  have hcl := hi.b.len
  rw [List.length_map, List.length_take] at hcl
  refine KW.cnd rfl rfl (fun k1 => ?_) (fun k1 => ?_)
  · have k1 : (s.i : Int) < xs.length := k1
    refine KW.getL hs.up rfl rfl rfl rfl rfl rfl rfl rfl rfl rfl rfl rfl rfl rfl rfl rfl (by omega) (k1) (fun y ay cy hy hsy => ?_)
    have hy : xs[s.i]? = some y := hy
    have hyl := hB.each y (List.mem_of_getElem? hy)
    refine KW.ids (fun hlow hvar => ?_)
    refine KW.fact (fun _ g => g.nle (H1 := H)) (fun hn0 => ?_)
    refine KW.callN1 rfl rfl rfl rfl rfl (cloneI hyl hsy) (fun v HC SC mC _ _ hv => ?_)
    obtain ⟨a5, c5, rfl, hC⟩ := hv
    refine KW.app1 (xs := s.cs) (v := .slice a5 y.length c5) 0 1 rfl rfl rfl rfl rfl rfl rfl rfl rfl rfl rfl rfl rfl rfl rfl rfl rfl rfl rfl rfl rfl rfl rfl (by omega) (by show (_ + 1) * 24 ≤ _; omega) (by first | omega | (simp only; omega)) ?_
    exact KW.nxt rfl rfl (fun H' g => ⟨_, hi.next (inferInstance : Stp s.S s.A SC HC).st inferInstance hlow hn0 hy hC, by simp only; omega, ⟨rfl, rfl, rfl, congrArg (Value.int .i64) (inc64 (by omega)), trivial⟩, g⟩)
  · have k1 : ¬ (s.i : Int) < xs.length := k1
    have he : s.i = xs.length := by omega
    refine KW.retM1 rfl rfl rfl rfl (fun H1 g => ?_)
    rw [he]
    exact hi.mkG he g (j := 0) rfl (g.ge (H1 := H) (j := 0) rfl)
end
end Go.Proofs.Ytmkpfllbmdahkaa.Am
/- Contract: the echelon of the program. It holds under its own conditions. -/
set_option linter.unusedVariables false
set_option linter.unusedSimpArgs false
set_option maxRecDepth 20000
namespace Go.Proofs.Ytmkpfllbmdahkaa.Am
open Go Go.RowKit Go.Proofs Go.Proofs.Ytmkpfllbmdahkaa.Pl
/-- What an echelon yields. -/
def MkE (p : Int) (k : Nat) (e : List (List Int) × List Nat) (n : Nat) (v : Value) (H1 : AH) : Prop := ∃ a1 c1 a2 c2, v = .tuple #[.agg #[.int .i64 p, .int .i64 k, .slice a1 e.2.length c1], .slice a2 e.2.length c2] ∧ KI.ml.Ml (New n H1.n) H1 (.slice a1 e.2.length c1) (e.1.take e.2.length) ∧ KI.Ml (New n H1.n) H1 (.slice a2 e.2.length c2) (e.2.map fun (i : Nat) => (i : Int))
structure EcS where
  c : Nat
  S : Ids
  A : AH
  cs : List Value
  po : Nat
structure EcI (p : Int) (k : Nat) (L : List (List Int)) (H : AH) (V : Ids) (s : EcS) : Prop where
  le : s.c ≤ k
  old : St (Low H.n) H s.S s.A
  b : RowsB KI.ml s.S s.A V (ech p L s.c).1 s.cs
theorem ech_none {p : Int} {L : List (List Int)} {c : Nat} (h : nz (ech p L c).1 c (ech p L c).2.length = (ech p L c).1.length) : ech p L (c + 1) = ech p L c := by
  rw [ech]
  have : rnd p (ech p L c).1 c (ech p L c).2.length = none := by unfold rnd; rw [if_pos h]
  rw [this]
theorem ech_some {p : Int} {L : List (List Int)} {c : Nat} (h : nz (ech p L c).1 c (ech p L c).2.length ≠ (ech p L c).1.length) : ech p L (c + 1) = (tks p c (ech p L c).2.length (lead p (ech p L c).1 c (ech p L c).2.length) ((sw (ech p L c).1 (ech p L c).2.length (nz (ech p L c).1 c (ech p L c).2.length)).set (ech p L c).2.length (lead p (ech p L c).1 c (ech p L c).2.length)) (ech p L c).1.length, (ech p L c).2 ++ [c]) := by
  rw [ech]
  unfold rnd
  rw [if_neg h]
theorem built_Matrix (p c : Int) (a : Option Addr) (n m : Nat) : Try.prog.built 28 [(0, .int .i64 p), (1, .int .i64 c), (2, .slice a n m)] = some #[.int .i64 p, .int .i64 c, .slice a n m] := by kernel_rfl
theorem cell0 {l : List Value} {q : Nat} {v : Value} (h : l[q]? = some v) : l[0 + q * 1]? = some v := by rw [Nat.zero_add, Nat.mul_one]; exact h
section
variable {S : Ids} {H0 : AH}
theorem echelon {p : Int} {k : Nat} (hp : 2 ≤ p ∧ p ≤ 31) (hk : k ≤ 1000) {L : List (List Int)} (hB : B_Int64SS L) (hL : Rect p k L) {a c} (hs : KI.sl.Sl S H0 (.slice a L.length c) L) : SpecM Try.prog S H0 136 [.agg #[.int .i64 p, .int .i64 k, .slice a L.length c]] (MkE p k (ech p L k)) := by
  have hLl := hB.len
  have hok := ech_ok (p := p) (by omega) hL
  refine SpecM.of1 Try.func136 rfl (by kernel_rfl) rfl (fun H _ => ?_)
  refine KW.callN1 rfl rfl rfl rfl rfl (copyRows hB hs.up) (fun v HC SC mC _ _ hv => ?_)
  obtain ⟨o, cs0, V, rfl, ho, hom, hV, hb0⟩ := hv
  have oS := (inferInstance : On (New (H.n + 2) HC.n) HC SC HC).st
  refine KW.thaw o ⟨_, true, cs0⟩ (oS o ho).1 hom ?_
  haveI oH : On (Low H.n) H (fun id => SC id ∧ id ≠ o) HC := On.thaw (fun id hid => by have : id < H.n := hid; have := ho.1; omega)
  have hb1 : RowsB KI.ml (fun id => SC id ∧ id ≠ o) HC V L cs0 := hb0.on (fun id hid => ⟨⟨(oS id (hV id hid).1).1, (hV id hid).2⟩, rfl⟩)
  have hVl : ∀ id, V id → H.n ≤ id := fun id hid => by have := (hV id hid).1.1; omega
  refine KW.lit rfl rfl rfl rfl rfl rfl rfl rfl rfl rfl [] rfl rfl (fun v hv => by simp at hv) rfl ?_
  refine KW.lpM rfl rfl (fun s : EcS => [(1, .pointer (some ⟨H.n, 0, some 0⟩)), (2, .pointer (some ⟨H.n + 1, 0, some 1⟩)), (4, .slice (some ⟨o, 0, some 1⟩) L.length L.length), (5, .slice (some ⟨s.po, 0, some 1⟩) (ech p L s.c).2.length (ech p L s.c).2.length), (16, .int .i64 k), (17, .int .i64 s.c)]) (fun s => s.S) (fun s => s.A) (fun s => [(H.n, ⟨28, true, [.int .i64 p, .int .i64 k, .slice a L.length c]⟩), (H.n + 1, ⟨28, true, [.int .i64 0, .int .i64 0, .slice none 0 0]⟩), (o, ⟨32, true, s.cs⟩), (s.po, ⟨_, true, (ech p L s.c).2.map fun (i : Nat) => Value.int .i64 i⟩)]) (fun s => EcI p k L H V s) (fun s => k - s.c) (⟨0, _, HC, cs0, _⟩) (⟨Nat.zero_le _, oH.st, hb1⟩) ⟨rfl, rfl, rfl, rfl, rfl, rfl, trivial⟩ rfl rfl rfl (fun s hi bE n => ?_)
  obtain ⟨ci, S1, A1, cs, po⟩ := s
  obtain ⟨hle, hold, hb⟩ := hi
  simp only at hle hold hb
  have hoc := hok ci
  haveI oc : Stp (Low H.n) H S1 A1 := ⟨hold⟩
  obtain ⟨q, hn⟩ : ∃ q, (ech p L ci).2.length = q := ⟨_, rfl⟩
  obtain ⟨M, hM⟩ : ∃ M, (ech p L ci).1 = M := ⟨_, rfl⟩
  rw [hM] at hb
  have hcs := hb.len
  have hMl : M.length = L.length := by rw [← hM]; exact hoc.2.1
  have hMr : Rect p k M := by rw [← hM]; exact hoc.1
  have hnL : q ≤ L.length := by rw [← hn]; exact hoc.2.2.1
  have e5 : Value.slice (some ⟨po, 0, some 1⟩) (ech p L ci).2.length (ech p L ci).2.length = Value.slice (some ⟨po, 0, some 1⟩) q q := by rw [hn]
  have e7 : Value.int .i64 ((ech p L ci).2.length : Nat) = Value.int .i64 q := by rw [hn]
  refine KW.cnd rfl rfl (fun h => ?_) (fun h => ?_)
  · have h : (ci : Int) < k := h
    refine KW.lp rfl rfl (fun r : Nat => [(1, .pointer (some ⟨H.n, 0, some 0⟩)), (2, .pointer (some ⟨H.n + 1, 0, some 1⟩)), (4, .slice (some ⟨o, 0, some 1⟩) L.length L.length), (5, .slice (some ⟨po, 0, some 1⟩) q q), (6, .int .i64 ci), (7, .int .i64 q), (8, .int .i64 r), (16, .int .i64 k), (17, .int .i64 ci)]) (fun r => q ≤ r ∧ r ≤ L.length ∧ nz M ci r = nz M ci q) (fun r => L.length - r) (q) (⟨Nat.le_refl _, hnL, rfl⟩) ⟨rfl, rfl, rfl, e5, rfl, e7, e7, rfl, rfl, trivial⟩ (fun r hi bE n => ?_)
    obtain ⟨hr1, hr2, hr3⟩ := hi
    refine KW.tst rfl rfl (fun h1 => ?_) (fun h1 => ?_)
    · have h1 : (r : Int) < L.length := h1
      obtain ⟨w, hw⟩ : ∃ w, M[r]? = some w := ⟨M[r]'(by omega), List.getElem?_eq_getElem (by omega)⟩
      obtain ⟨v, W, hv, hm, hWV, _, _⟩ := hb.row1 hw
      obtain ⟨ra, rc, rfl⟩ := hm.form
      have hwk := hMr.at hw
      refine KW.idx0 rfl rfl rfl rfl rfl rfl rfl rfl rfl (by omega) (h1) ?_
      refine KW.ldT 2 rfl rfl rfl rfl rfl rfl (bload_at (cell0 hv) rfl rfl) ?_
      refine KW.getI ((hm.sl.more (fun id hid => hb.sub id (hWV id hid)))) rfl rfl rfl rfl rfl rfl rfl rfl rfl rfl rfl rfl rfl rfl rfl rfl (by omega) (by omega) (fun x hx => ?_)
      have hx : w[ci]? = some x := hx
      refine KW.cnd rfl rfl (fun k2 => ?_) (fun k2 => ?_)
      · have k2 : x = 0 := k2
        refine KW.nxt rfl rfl (fun H' g => ⟨r + 1, ⟨by omega, by omega, by rw [nz_step hw (by rw [List.getD_eq_getElem?_getD, hx]; exact k2)]; exact hr3⟩, by first | omega | (simp only; omega), ⟨rfl, rfl, rfl, rfl, rfl, rfl, congrArg (Value.int .i64) (inc64 (by omega)), rfl, rfl, trivial⟩, g⟩)
      · have k2 : ¬ x = 0 := k2
        refine KW.no rfl rfl (by omega) ?_
        have e1 : nz M ci q = r := by rw [← hr3]; exact nz_stop hw (by rw [List.getD_eq_getElem?_getD, hx]; exact k2)
        have hrn : q ≤ r := by omega
        have hrL : r < L.length := by omega
        obtain ⟨wn, hwn⟩ : ∃ w, M[q]? = some w := ⟨M[q]'(by omega), List.getElem?_eq_getElem (by omega)⟩
        obtain ⟨vn, Wn, hvn, hmn, _, _, _⟩ := hb.row1 hwn
        obtain ⟨na, nc, rfl⟩ := hmn.form
        refine KW.idx0 rfl rfl rfl rfl rfl rfl rfl rfl rfl (by omega) (by omega) ?_
        refine KW.ldT 2 rfl rfl rfl rfl rfl rfl (bload_at (cell0 hv) rfl rfl) ?_
        refine KW.idx0 rfl rfl rfl rfl rfl rfl rfl rfl rfl (by omega) (by omega) ?_
        refine KW.ldT 2 rfl rfl rfl rfl rfl rfl (bload_at (cell0 hvn) rfl rfl) ?_
        refine KW.idx0 rfl rfl rfl rfl rfl rfl rfl rfl rfl (by omega) (by omega) ?_
        refine KW.st1 2 rfl rfl rfl rfl rfl rfl rfl rfl rfl rfl rfl rfl (by simp only; omega) ?_
        refine KW.idx0 rfl rfl rfl rfl rfl rfl rfl rfl rfl (by omega) (by omega) ?_
        refine KW.st1 2 rfl rfl rfl rfl rfl rfl rfl rfl rfl rfl rfl rfl (by simp only [List.length_set]; omega) ?_
        have hb2 : RowsB KI.ml S1 A1 V (sw M q r) ((cs.set (0 + q * 1) (.slice ra w.length rc)).set (0 + r * 1) (.slice na wn.length nc)) := by
          rw [Nat.zero_add, Nat.zero_add, Nat.mul_one, Nat.mul_one]
          exact hb.swap (by omega) (by omega) hvn hv
        have hM1 : Rect p k (sw M q r) := hMr.sw (by omega) (by omega)
        obtain ⟨w1, hw1⟩ : ∃ w, (sw M q r)[q]? = some w := ⟨(sw M q r)[q]'(by rw [sw_len]; omega), List.getElem?_eq_getElem (by rw [sw_len]; omega)⟩
        have hw1d : (sw M q r).getD q [] = w1 := by rw [List.getD_eq_getElem?_getD, hw1]; rfl
        have hw1k := hM1.at hw1
        obtain ⟨v1, W1, hv1, hm1, hW1, _, hset⟩ := hb2.row1 hw1
        obtain ⟨a1, c1, rfl⟩ := hm1.form
        have hw1l : w1.length = k := hw1k.1
        refine KW.idx0 rfl rfl rfl rfl rfl rfl rfl rfl rfl (by omega) (by omega) ?_
        refine KW.ldT 2 rfl rfl rfl rfl rfl rfl (bload_at (cell0 hv1) rfl rfl) ?_
        refine KW.idx0 rfl rfl rfl rfl rfl rfl rfl rfl rfl (by omega) (by omega) ?_
        refine KW.ldT 2 rfl rfl rfl rfl rfl rfl (bload_at (cell0 hv1) rfl rfl) ?_
        refine KW.getI ((hm1.sl.more (fun id hid => hb2.sub id (hW1 id hid)))) rfl rfl rfl rfl rfl rfl rfl rfl rfl rfl rfl rfl rfl rfl rfl rfl (by omega) (by omega) (fun x1 hx1 => ?_)
        have hx1 : w1[ci]? = some x1 := hx1
        have hx1k := hw1k.2 x1 (List.mem_of_getElem? hx1)
        refine KW.callE rfl rfl rfl rfl rfl (inverse p x1 hp hx1k) (fun _ _ => ?_)
        have hpk := pw_ok (a := x1) hp.1 (p - 2).toNat
        have hsub1 : ∀ id, W1 id → S1 id := fun id hid => hb2.sub id (hW1 id hid)
        refine KW.callW hsub1 rfl rfl rfl rfl rfl (scaled hp hpk (by omega) hw1k.2 hsub1 hm1) (fun v2 H2 S2 hn2 st2 hw2 hv2 => ?_)
        obtain ⟨ld, hld⟩ : ∃ ld, sc p (pw p x1 (p - 2).toNat) w1 = ld := ⟨_, rfl⟩
        have hlead : lead p M ci q = ld := by
          unfold lead
          rw [e1, hw1d, ← hld, List.getD_eq_getElem?_getD, hx1]
          rfl
        have hldk : ld.length = k ∧ ∀ x ∈ ld, 0 ≤ x ∧ x < p := by rw [← hld]; exact sc_ok (by omega) hw1k
        have hb3 := hset S2 H2 _ st2 hv2
        rw [hld] at hb3
        have hold2 : St (Low H.n) H S2 H2 := fun id hid => ⟨(st2 id (hold id hid).1).1, by rw [(st2 id (hold id hid).1).2 (fun hw => by have := hVl id (hW1 id hw); have : id < H.n := hid; omega)]; exact (hold id hid).2⟩
        obtain ⟨M2, hM2⟩ : ∃ M2, (sw M q r).set q ld = M2 := ⟨_, rfl⟩
        rw [hM2] at hb3
        have hM2l : M2.length = L.length := by rw [← hM2, List.length_set, sw_len]; exact hMl
        have hM2r : Rect p k M2 := by rw [← hM2]; exact hM1.set hldk
        have hM2q : M2[q]? = some ld := by rw [← hM2, List.getElem?_set_self (by rw [sw_len]; omega)]
        obtain ⟨cs1, hcs1⟩ : ∃ cs1, (cs.set (0 + q * 1) (.slice ra w.length rc)).set (0 + r * 1) (.slice na wn.length nc) = cs1 := ⟨_, rfl⟩
        rw [hcs1] at hb3
        refine KW.lpM rfl rfl (fun s : (Nat × Ids × AH) => [(1, .pointer (some ⟨H.n, 0, some 0⟩)), (2, .pointer (some ⟨H.n + 1, 0, some 1⟩)), (4, .slice (some ⟨o, 0, some 1⟩) L.length L.length), (5, .slice (some ⟨po, 0, some 1⟩) q q), (6, .int .i64 ci), (7, .int .i64 q), (16, .int .i64 k), (17, .int .i64 ci), (74, .slice (some ⟨o, 0, some 1⟩) L.length L.length), (75, .int .i64 L.length), (76, .int .i64 s.1)]) (fun s => s.2.1) (fun s => s.2.2) (fun s => [(H.n, ⟨28, true, [.int .i64 p, .int .i64 k, .slice a L.length c]⟩), (H.n + 1, ⟨28, true, [.int .i64 0, .int .i64 0, .slice none 0 0]⟩), (o, ⟨32, true, (cs.set (0 + q * 1) (.slice ra w.length rc)).set (0 + r * 1) (.slice na wn.length nc)⟩), (po, ⟨_, true, (ech p L ci).2.map fun (i : Nat) => Value.int .i64 i⟩)]) (fun s => s.1 ≤ L.length ∧ St (Low H.n) H s.2.1 s.2.2 ∧ RowsB KI.ml s.2.1 s.2.2 V (tks p ci q ld M2 s.1) cs1) (fun s => L.length - s.1) ((0, S2, H2)) (⟨Nat.zero_le _, hold2, by simp only [tks_zero]; exact hb3⟩) ⟨rfl, rfl, rfl, rfl, rfl, rfl, rfl, rfl, rfl, rfl, rfl, trivial⟩ rfl rfl rfl (fun s hi bE n => ?_)
        obtain ⟨i, S3, A3⟩ := s
        obtain ⟨hi1, hold3, hb4⟩ := hi
        simp only at hi1 hold3 hb4
        haveI oc3 : Stp (Low H.n) H S3 A3 := ⟨hold3⟩
        rw [← hcs1] at hb4
        refine KW.cnd rfl rfl (fun h3 => ?_) (fun h3 => ?_)
        · have h3 : (i : Int) < L.length := h3
          obtain ⟨wi, hwi⟩ : ∃ w, M2[i]? = some w := ⟨M2[i]'(by omega), List.getElem?_eq_getElem (by omega)⟩
          have hwik := hM2r.at hwi
          obtain ⟨vi, Wi, hvi, hmi, hWi, hoth, hseti⟩ := hb4.row1 ((tks_old (.inl (Nat.le_refl i))).trans hwi)
          obtain ⟨ai, ic, rfl⟩ := hmi.form
          refine KW.idx0 rfl rfl rfl rfl rfl rfl rfl rfl rfl (by omega) (h3) ?_
          refine KW.ldT 2 rfl rfl rfl rfl rfl rfl (bload_at (cell0 hvi) rfl rfl) ?_
          refine KW.cndB rfl rfl (fun h4 => ?_) (fun h4 => ?_)
          · have h4 : i ≠ q := by simp at h4; omega
            obtain ⟨vq, Xq, hvq, hmq, hXq⟩ := hoth q ld (Ne.symm h4) ((tks_old (.inr rfl)).trans hM2q)
            obtain ⟨aq, qc, rfl⟩ := hmq.form
            refine KW.idx0 rfl rfl rfl rfl rfl rfl rfl rfl rfl (by omega) (by omega) ?_
            refine KW.ldT 2 rfl rfl rfl rfl rfl rfl (bload_at (cell0 hvq) rfl rfl) ?_
            refine KW.getI ((hmi.sl.more (fun id hid => hb4.sub id (hWi id hid)))) rfl rfl rfl rfl rfl rfl rfl rfl rfl rfl rfl rfl rfl rfl rfl rfl (by omega) (by omega) (fun xi hxi => ?_)
            have hxi : wi[ci]? = some xi := hxi
            have hxik := hwik.2 xi (List.mem_of_getElem? hxi)
            have hsubi : ∀ id, Wi id → S3 id := fun id hid => hb4.sub id (hWi id hid)
            refine KW.callW hsubi rfl rfl rfl rfl rfl (takeOff hp hxik (by omega) hldk.2 (fun id hid => ⟨hb4.sub id (hXq id hid).1, (hXq id hid).2⟩) hmq.sl (by omega) hwik.2 hsubi hmi) (fun v5 H5 S5 hn5 st5 hw5 hv5 => ?_)
            have hb5 := hseti S5 H5 _ st5 hv5
            have hold5 : St (Low H.n) H S5 H5 := fun id hid => ⟨(st5 id (hold3 id hid).1).1, by rw [(st5 id (hold3 id hid).1).2 (fun hw => by have := hVl id (hWi id hw); have : id < H.n := hid; omega)]; exact (hold3 id hid).2⟩
            have et : tks p ci q ld M2 (i + 1) = (tks p ci q ld M2 i).set i (tk p xi wi ld) := by
              rw [tks_next h4 hwi, List.getD_eq_getElem?_getD, hxi]
              rfl
            rw [← et, hcs1] at hb5
            refine KW.nxt rfl rfl (fun H' g => ⟨(i + 1, S5, H5), ⟨by simp only; omega, hold5, hb5⟩, by first | omega | (simp only; omega), ⟨rfl, rfl, rfl, rfl, rfl, rfl, rfl, rfl, rfl, rfl, congrArg (Value.int .i64) (inc64 (by omega)), trivial⟩, g⟩)
          · have h4 : i = q := by simp at h4; omega
            subst h4
            rw [← tks_skip, hcs1] at hb4
            refine KW.nxt rfl rfl (fun H' g => ⟨(i + 1, S3, A3), ⟨by simp only; omega, hold3, hb4⟩, by first | omega | (simp only; omega), ⟨rfl, rfl, rfl, rfl, rfl, rfl, rfl, rfl, rfl, rfl, congrArg (Value.int .i64) (inc64 (by omega)), trivial⟩, g⟩)
        · have h3 : ¬ (i : Int) < L.length := h3
          have hiL : i = L.length := by omega
          have eE : ech p L (ci + 1) = (tks p ci q ld M2 L.length, (ech p L ci).2 ++ [ci]) := by
            rw [ech_some (by rw [hM, hn, e1]; omega), hM, hn, hlead, e1, hM2, hMl]
          have e8 : ∀ x : Nat, Value.slice (some ⟨x, 0, some 1⟩) (q + 1) (q + 1) = Value.slice (some ⟨x, 0, some 1⟩) (ech p L (ci + 1)).2.length (ech p L (ci + 1)).2.length := fun x => by rw [eE]; simp [hn]
          refine KW.app1 (xs := (ech p L ci).2.map fun (i : Nat) => Value.int .i64 i) (v := .int .i64 ci) 3 4 rfl rfl rfl rfl rfl rfl rfl rfl rfl rfl rfl rfl rfl rfl rfl rfl rfl rfl rfl rfl rfl rfl rfl (by simp [hn]) (by show (_ + 1) * 8 ≤ _; omega) (by first | omega | (simp only; omega)) ?_
          refine KW.nxt rfl rfl (fun H' g => ⟨⟨ci + 1, S3, A3, _, _⟩, ⟨by simp only; omega, hold3, by simp only; rw [eE, ← hiL]; exact hb4⟩, by first | omega | (simp only; omega), ⟨rfl, rfl, rfl, e8 _, rfl, congrArg (Value.int .i64) (inc64 (by omega)), trivial⟩, g.eqT (by simp only [eE, List.map_append]; rfl)⟩)
    · have h1 : ¬ (r : Int) < L.length := h1
      refine KW.cF rfl rfl (by first | (simp; done) | decide) ?_
      refine KW.yes rfl rfl (by omega) ?_
      have e1 : nz (ech p L ci).1 ci (ech p L ci).2.length = (ech p L ci).1.length := by rw [hM, hn, ← hr3, nz_end (by omega)]; omega
      have e2 := ech_none e1
      have e3 : Value.slice (some ⟨po, 0, some 1⟩) q q = Value.slice (some ⟨po, 0, some 1⟩) (ech p L (ci + 1)).2.length (ech p L (ci + 1)).2.length   := by rw [e2, hn]
      refine KW.nxt rfl rfl (fun H' g => ⟨⟨ci + 1, S1, A1, cs, po⟩, ⟨by simp only; omega, hold, by simp only; rw [e2, hM]; exact hb⟩, by first | omega | (simp only; omega), ⟨rfl, rfl, rfl, e3, rfl, congrArg (Value.int .i64) (inc64 (by omega)), trivial⟩, g.eqT (by simp only [e2])⟩)
  · have hck : ci = k := by have h : ¬ (ci : Int) < k := h; omega
    refine KW.slTo (m := (ech p L ci).2.length) rfl rfl rfl rfl rfl rfl rfl rfl rfl (by omega) ?_
    refine KW.build rfl rfl rfl rfl rfl (built_Matrix _ _ _ _ _) ?_
    subst hck
    refine KW.retM1 rfl rfl rfl rfl (fun H1 g => ?_)
    have hno := g.n_
    have hbo := g.blk (j := 2) rfl
    have hbp := g.blk (j := 3) rfl
    have hpo := g.ge (H1 := H) (j := 3) rfl
    refine ⟨_, _, _, _, rfl, ?_, ?_⟩
    · rw [hM]
      exact hb.mlTo g (j := 2) rfl ⟨by have := ho.1; omega, hbo.2⟩ (fun id hid => ⟨hVl id hid, by have := (g.froz id (hb.sub id hid)).1; omega⟩) (by omega) (by omega)
    · have el : ((ech p L ci).2.map fun (i : Nat) => (i : Int)).length = (ech p L ci).2.length := by simp
      have := mlI_of (ik := .i64) (X := New H.n H1.n) (c := (ech p L ci).2.length) (ys := (ech p L ci).2.map fun (i : Nat) => (i : Int)) ⟨hpo, hbp.2⟩ hbp.1 rfl (by rw [el]; exact Nat.le_refl _) (by simp) (fun j x hx => by
        rw [List.getElem?_map] at hx ⊢
        cases hj : (ech p L ci).2[j]? with
        | none => rw [hj] at hx; cases hx
        | some z => rw [hj] at hx; cases hx; rfl)
      rw [el] at this
      exact this
end
end Go.Proofs.Ytmkpfllbmdahkaa.Am
/- Contracts: the rank of the program. Each holds under its own conditions. -/
set_option linter.unusedVariables false
set_option linter.unusedSimpArgs false
set_option maxRecDepth 20000
namespace Go.Proofs.Ytmkpfllbmdahkaa.Am
open Go Go.RowKit Go.Proofs Go.Proofs.Ytmkpfllbmdahkaa.Pl
theorem OkMat.rect {p c : Int} {L : List (List Int)} (h : OkMat p c L) {k : Nat} (hk : c = k) : Rect p k L := fun r hr => by
  have h1 := h.row r hr
  exact ⟨by have := h1.1; omega, fun x hx => by have := h1.2 x hx; omega⟩
def rkM (p c : Int) (L : List (List Int)) : Int := ((ech p L c.toNat).2.length : Nat)
section
variable {S : Ids} {H0 : AH}
theorem rankM {p : Int} {k : Nat} (hp : 2 ≤ p ∧ p ≤ 31) (hk : k ≤ 1000) {L : List (List Int)} (hB : B_Int64SS L) (hL : Rect p k L) {a c} (hs : KI.sl.Sl S H0 (.slice a L.length c) L) : SpecM Try.prog S H0 104 [.agg #[.int .i64 p, .int .i64 k, .slice a L.length c]] (fun _ v _ => v = .int .i64 (rkM p k L)) := by
  refine SpecM.of1 Try.func104 rfl (by kernel_rfl) rfl (fun H _ => ?_)
  refine KW.callN1 rfl rfl rfl rfl rfl (echelon hp hk hB hL hs.up) (fun v HC SC mC _ _ hv => ?_)
  obtain ⟨a1, c1, a2, c2, rfl, _, _⟩ := hv
  refine KW.retM1 rfl rfl rfl rfl (fun H1 g => rfl)
theorem impl_RankOf' {p c : Int} (hp : I64 p) {L : List (List Int)} (hB : B_Int64SS L) {a m} (hs : KI.sl.Sl S H0 (.slice a L.length m) L) : SpecM Try.prog S H0 18 [.agg #[.int .i64 p, .int .i64 c, .slice a L.length m]] (fun _ v _ => v = .tuple #[.int .i64 (if tv (OkMat p c L) then rkM p c L else 0), .int .i64 (if tv (OkMat p c L) then 0 else 1)]) := by
  refine SpecM.of1 Try.func18 rfl (by kernel_rfl) rfl (fun H _ => ?_)
  refine KW.callE rfl rfl rfl rfl rfl (validMatrix p c hp hB hs.up) (fun _ _ => ?_)
  by_cases hM : OkMat p c L
  · rw [tv_true hM]
    obtain ⟨k, hk⟩ : ∃ k : Nat, c = k := ⟨c.toNat, by have := hM.c0; omega⟩
    subst hk
    have h2 := hM.pr
    refine KW.cF rfl rfl (by first | (simp; done) | decide) ?_
    refine KW.callN1 rfl rfl rfl rfl rfl (rankM ⟨h2.1, h2.2.1⟩ (by have := hM.c1; omega) hB (hM.rect rfl) hs.up) (fun v HC SC mC _ _ hv => ?_)
    obtain rfl := hv
    refine KW.retM1 rfl rfl rfl rfl (fun H1 g => rfl)
  · rw [tv_false hM]
    refine KW.cT rfl rfl (by first | (simp; done) | decide) ?_
    refine KW.retM1 rfl rfl rfl rfl (fun H1 g => rfl)
end
end Go.Proofs.Ytmkpfllbmdahkaa.Am
/- Contract: a matrix copied by the reference. It holds under its own conditions. -/
set_option linter.unusedVariables false
set_option linter.unusedSimpArgs false
set_option maxRecDepth 20000
namespace Go.Proofs.Ytmkpfllbmdahkaa.Am
open Go Go.RowKit Go.Proofs Go.Proofs.Ytmkpfllbmdahkaa.Pl
/-- What the copy of a matrix yields. -/
def MkC (p c : Int) (xs : List (List Int)) (ty : TypeId) (n : Nat) (v : Value) (H1 : AH) : Prop :=
  (xs = [] ∧ v = .agg #[.int .i64 p, .int .i64 c, .slice none 0 0]) ∨ (xs ≠ [] ∧ ∃ w, v = .agg #[.int .i64 p, .int .i64 c, w] ∧ MkG xs ty n w H1)
theorem built_Matrix2 (p c : Int) : Try.prog.built 28 [(0, .int .i64 p), (1, .int .i64 c)] = some #[.int .i64 p, .int .i64 c, .slice none 0 0] := by kernel_rfl
structure CpS where
  i : Nat
  S : Ids
  A : AH
  V : Ids
  cs : List Value
  l : Value
  tail : List Var
structure CpI (xs : List (List Int)) (H HB : AH) (SB : Ids) (s : CpS) : Prop where
  rw : RwI (fun x => x) xs H SB HB ⟨s.i, s.S, s.A, s.V, s.cs, 0⟩
  form : (s.i = 0 ∧ s.l = .slice none 0 0 ∧ s.tail = [] ∧ s.cs = []) ∨ (0 < s.i ∧ ∃ o, s.l = .slice (some ⟨o, 0, some 1⟩) s.i s.i ∧ s.tail = [(o, ⟨32, true, s.cs⟩)])
section
variable {S : Ids} {H0 : AH}
theorem l03Copy {p c : Int} {id k : Nat} {xs : List (List Int)} {a m} (hB : B_Int64SS xs) (hv : Has3 S H0 id k [.int .i64 p, .int .i64 c, .slice a xs.length m]) (hs : KI.sl.Sl S H0 (.slice a xs.length m) xs) : SpecM Try.prog S H0 235 [.pointer (some ⟨id, k, none⟩)] (MkC p c xs 32) := by
  have hxl := hB.len
  refine SpecM.of1 Try.func235 rfl (by kernel_rfl) rfl (fun H _ => ?_)
  have hv := hv.up (S' := Low H.n) (H' := H)
  have hs := hs.up (S' := Low H.n) (H' := H)
  refine KW.ldF 0 hv rfl rfl rfl rfl rfl rfl rfl rfl rfl ?_
  refine KW.ldF 1 hv rfl rfl rfl rfl rfl rfl rfl rfl rfl ?_
  refine KW.build rfl rfl rfl rfl rfl (built_Matrix2 _ _) ?_
  refine KW.lpM rfl rfl (fun s : CpS => [(0, .pointer (some ⟨id, k, none⟩)), (2, .pointer (some ⟨H.n, 0, some 0⟩)), (3, .pointer (some ⟨H.n + 1, 0, some 1⟩)), (4, .int .i64 s.i)]) (fun s => s.S) (fun s => s.A) (fun s => [(H.n, ⟨28, true, [.int .i64 0, .int .i64 0, .slice none 0 0]⟩), (H.n + 1, ⟨28, true, [.int .i64 p, .int .i64 c, s.l]⟩)] ++ s.tail) (fun s => CpI xs H H (Low H.n) s) (fun s => xs.length - s.i) (⟨0, Low H.n, H, fun _ => False, [], .slice none 0 0, []⟩) (⟨RwI.start, .inl ⟨rfl, rfl, rfl, rfl⟩⟩) ⟨rfl, rfl, rfl, rfl, trivial⟩ rfl rfl rfl (fun s hi bE n => ?_)
  obtain ⟨i, S1, A1, V, cs, l, tail⟩ := s
  obtain ⟨hr, hform⟩ := hi
  simp only at hr hform
  haveI : Stp (Low H.n) H S1 A1 := ⟨hr.old⟩
  have hle := hr.le
  have hcl := hr.b.len
  rw [List.length_map, List.length_take] at hcl
  simp only at hle hcl
  have hv1 := hv.up (S' := S1) (H' := A1)
  have hs1 := hs.up (S' := S1) (H' := A1)
  rcases hform with ⟨hi0, e1, e2, e3⟩ | ⟨hi0, o, e1, e2⟩
  case' inl => subst e1 e2 e3
  case' inr => subst e1 e2
  all_goals
    refine KW.ldF 2 hv1 rfl rfl rfl rfl rfl rfl rfl rfl rfl ?_
    refine KW.cnd rfl rfl (fun j1 => ?gin) (fun j1 => ?gout)
    case gin =>
      have j1 : (i : Int) < xs.length := j1
      refine KW.ldF 2 hv1 rfl rfl rfl rfl rfl rfl rfl rfl rfl ?_
      refine KW.getL hs1 rfl rfl rfl rfl rfl rfl rfl rfl rfl rfl rfl rfl rfl rfl rfl rfl (by omega) (j1) (fun y ay cy hy hsy => ?_)
      have hy : xs[i]? = some y := hy
      have hyl := hB.each y (List.mem_of_getElem? hy)
      refine KW.ids (fun hlow hvar => ?_)
      have hnA := (hvar 1 (H.n + 1) _ rfl).1
      refine KW.callN1 rfl rfl rfl rfl rfl (l00Own hyl hsy) (fun v HC SC mC _ _ hv => ?_)
      obtain ⟨a5, c5, rfl, hC⟩ := hv
      first
        | (refine KW.app0 (v := .slice a5 y.length c5) 2 rfl rfl rfl rfl rfl rfl rfl rfl rfl rfl rfl rfl rfl rfl rfl rfl rfl rfl rfl rfl rfl rfl (by decide) ?_
           subst hi0
           exact KW.nxt rfl rfl (fun H' g => ⟨⟨1, SC, HC, _, _, _, _⟩, ⟨hr.next (o' := 0) (inferInstance : Stp S1 A1 SC HC).st inferInstance hlow (by omega) hy hC, .inr ⟨by simp only; omega, _, rfl, rfl⟩⟩, by simp only; omega, ⟨rfl, rfl, rfl, rfl, trivial⟩, g⟩))
        | (refine KW.app1 (xs := cs) (v := .slice a5 y.length c5) 2 3 rfl rfl rfl rfl rfl rfl rfl rfl rfl rfl rfl rfl rfl rfl rfl rfl rfl rfl rfl rfl rfl rfl rfl (by omega) (by show (_ + 1) * 24 ≤ _; omega) (by omega) ?_
           exact KW.nxt rfl rfl (fun H' g => ⟨⟨i + 1, SC, HC, _, _, _, _⟩, ⟨hr.next (o' := 0) (inferInstance : Stp S1 A1 SC HC).st inferInstance hlow (by omega) hy hC, .inr ⟨by simp only; omega, _, rfl, rfl⟩⟩, by simp only; omega, ⟨rfl, rfl, rfl, congrArg (Value.int .i64) (inc64 (by omega)), trivial⟩, g⟩))
    case gout =>
      have j1 : ¬ (i : Int) < xs.length := j1
      have he : i = xs.length := by omega
      refine KW.retM1 rfl rfl rfl rfl (fun H1 g => ?_)
      first
        | exact .inl ⟨List.eq_nil_of_length_eq_zero (by omega), rfl⟩
        | (refine .inr ⟨fun hx => by rw [hx] at he; simp at he; omega, _, rfl, ?_⟩
           rw [he]
           exact (⟨hr.le, hr.old, hr.b, hr.v⟩ : RwI (fun x => x) xs H (Low H.n) H ⟨i, S1, A1, V, cs, o⟩).mkG he g (j := 2) rfl (g.ge (H1 := H) (j := 2) rfl))
end
end Go.Proofs.Ytmkpfllbmdahkaa.Am
/- Contract: the echelon of the reference. It holds under its own conditions. -/
set_option linter.unusedVariables false
set_option linter.unusedSimpArgs false
set_option maxRecDepth 20000
namespace Go.Proofs.Ytmkpfllbmdahkaa.Am
open Go Go.RowKit Go.Proofs Go.Proofs.Ytmkpfllbmdahkaa.Pl
theorem sets_comm {cs : List Value} {q r : Nat} {u v : Value} (hq : cs[q]? = some u) (hr : cs[r]? = some v) : (cs.set r u).set q v = (cs.set q v).set r u := by
  by_cases h : q = r
  · subst h
    rw [hq] at hr
    cases hr
    rfl
  · exact List.set_comm _ _ (Ne.symm h)
theorem sw_at {L : List (List Int)} {q r : Nat} {w : List Int} (hq : q < L.length) (hw : L[r]? = some w) : (sw L q r)[q]? = some w := by
  unfold sw
  have hr := (List.getElem?_eq_some_iff.1 hw).1
  have e : L.getD r [] = w := by rw [List.getD_eq_getElem?_getD, hw]; rfl
  rw [List.getElem?_set]
  by_cases h : r = q
  · subst h
    rw [if_pos rfl, if_pos (by simpa using hr), e]
  · rw [if_neg h, List.getElem?_set_self hq, e]
theorem tks_same {p : Int} {c n : Nat} {r : List Int} {L : List (List Int)} {i : Nat} {w : List Int} (hi : i ≠ n) (hw : L[i]? = some w) (h0 : w.getD c 0 = 0) (hl : w.length = r.length) (hx : ∀ x ∈ w, 0 ≤ x ∧ x < p) : tks p c n r L (i + 1) = tks p c n r L i := by
  rw [tks_next hi hw, h0, tk_zero hl hx]
  apply List.ext_getElem?
  intro j
  rw [List.getElem?_set]
  split
  · rename_i e
    subst e
    rw [tks_len, if_pos (List.getElem?_eq_some_iff.1 hw).1, tks_old (.inl (Nat.le_refl _)), hw]
  · rfl
theorem ech_nil {p : Int} : ∀ k, ech p [] k = ([], [])
  | 0 => rfl
  | k + 1 => by
    rw [ech, ech_nil k]
    have : rnd p [] k ([] : List Nat).length = none := by unfold rnd; exact if_pos (nz_end (L := []) (c := k) (a := 0) (Nat.le_refl _))
    simp only [this]
section
variable {S : Ids} {H0 : AH}
theorem l03Echelon {p : Int} {k : Nat} (hp : 2 ≤ p ∧ p ≤ 31) (hk : k ≤ 1000) {L : List (List Int)} (hB : B_Int64SS L) (hL : Rect p k L) {id kk : Nat} {a c} (hv0 : Has3 S H0 id kk [.int .i64 p, .int .i64 k, .slice a L.length c]) (hs : KI.sl.Sl S H0 (.slice a L.length c) L) : SpecM Try.prog S H0 193 [.pointer (some ⟨id, kk, none⟩)] (MkE p k (ech p L k)) := by
  have hLl := hB.len
  have hok := ech_ok (p := p) (by omega) hL
  refine SpecM.of1 Try.func193 rfl (by kernel_rfl) rfl (fun H _ => ?_)
  have hv0 := hv0.up (S' := Low H.n) (H' := H)
  have hs := hs.up (S' := Low H.n) (H' := H)
  refine KW.callN1 rfl rfl rfl rfl rfl (l03Copy hB hv0 hs) (fun v HC SC mC _ _ hC => ?_)
  have hvC := hv0.up (S' := SC) (H' := HC)
  rcases hC with ⟨hL0, rfl⟩ | ⟨hL0, wC, rfl, o, cs0, V, rfl, ho, hom, hV, hb0⟩
  · subst hL0
    refine KW.ldF 0 hvC rfl rfl rfl rfl rfl rfl rfl rfl rfl ?_
    refine KW.lit rfl rfl rfl rfl rfl rfl rfl rfl rfl rfl [] rfl rfl (fun v hv => by simp at hv) rfl ?_
    refine KW.lp rfl rfl (fun _ : Unit => [(0, .pointer (some ⟨id, kk, none⟩)), (2, .pointer (some ⟨H.n, 0, some 0⟩)), (4, .pointer (some ⟨HC.n, 0, some 1⟩)), (5, .int .i64 p), (6, .slice (some ⟨HC.n + 1, 0, some 1⟩) 0 0), (7, .int .i64 0), (8, .int .i64 0)]) (fun _ => True) (fun _ => 0) (()) (trivial) ⟨rfl, rfl, rfl, rfl, rfl, rfl, rfl, trivial⟩ (fun _ hi bE n => ?_)
    refine KW.ldF 1 (hv0.up (S' := SC) (H' := HC)) rfl rfl rfl rfl rfl rfl rfl rfl rfl ?_
    refine KW.tst rfl rfl (fun h => ?_) (fun h => ?_)
    all_goals
      refine KW.cF rfl rfl (by first | (simp; done) | decide) ?_
      refine KW.pure rfl rfl rfl rfl rfl (.slice none 0 0) rfl ?_
      refine KW.retM1 rfl rfl rfl rfl (fun H1 g => ?_)
      rw [ech_nil]
      exact ⟨_, _, _, _, rfl, .inl ⟨rfl, _, _, rfl, fun _ => rfl⟩, .inl ⟨rfl, _, _, rfl, fun h => by cases h⟩⟩
  have oS := (inferInstance : On (New (H.n + 1) HC.n) HC SC HC).st
  refine KW.thaw o ⟨_, true, cs0⟩ (oS o ho).1 hom ?_
  haveI oH : On (Low H.n) H (fun id => SC id ∧ id ≠ o) HC := On.thaw (fun id hid => by have : id < H.n := hid; have := ho.1; omega)
  have hb1 : RowsB KI.ml (fun id => SC id ∧ id ≠ o) HC V L cs0 := hb0.on (fun id hid => ⟨⟨(oS id (hV id hid).1).1, (hV id hid).2⟩, rfl⟩)
  have hVl : ∀ id, V id → H.n ≤ id := fun id hid => by have := (hV id hid).1.1; omega
  refine KW.ldF 0 (hv0.up (S' := fun id => SC id ∧ id ≠ o) (H' := HC)) rfl rfl rfl rfl rfl rfl rfl rfl rfl ?_
  refine KW.lit rfl rfl rfl rfl rfl rfl rfl rfl rfl rfl [] rfl rfl (fun v hv => by simp at hv) rfl ?_
  refine KW.lpM rfl rfl (fun s : EcS => [(0, .pointer (some ⟨id, kk, none⟩)), (2, .pointer (some ⟨H.n, 0, some 0⟩)), (4, .pointer (some ⟨HC.n, 0, some 2⟩)), (5, .int .i64 p), (6, .slice (some ⟨s.po, 0, some 1⟩) (ech p L s.c).2.length (ech p L s.c).2.length), (7, .int .i64 (ech p L s.c).2.length), (8, .int .i64 s.c)]) (fun s => s.S) (fun s => s.A) (fun s => [(H.n, ⟨28, true, [.int .i64 0, .int .i64 0, .slice none 0 0]⟩), (o, ⟨32, true, s.cs⟩), (HC.n, ⟨28, true, [.int .i64 p, .int .i64 k, .slice (some ⟨o, 0, some 1⟩) L.length L.length]⟩), (s.po, ⟨_, true, (ech p L s.c).2.map fun (i : Nat) => Value.int .i64 i⟩)]) (fun s => EcI p k L H V s) (fun s => k - s.c) (⟨0, _, HC, cs0, _⟩) (⟨Nat.zero_le _, oH.st, hb1⟩) ⟨rfl, rfl, rfl, rfl, rfl, rfl, rfl, trivial⟩ rfl rfl rfl (fun s hi bE n => ?_)
  obtain ⟨ci, S1, A1, cs, po⟩ := s
  obtain ⟨hle, hold, hb⟩ := hi
  simp only at hle hold hb
  have hoc := hok ci
  haveI oc : Stp (Low H.n) H S1 A1 := ⟨hold⟩
  obtain ⟨q, hn⟩ : ∃ q, (ech p L ci).2.length = q := ⟨_, rfl⟩
  obtain ⟨M, hM⟩ : ∃ M, (ech p L ci).1 = M := ⟨_, rfl⟩
  rw [hM] at hb
  have hcs := hb.len
  have hMl : M.length = L.length := by rw [← hM]; exact hoc.2.1
  have hMr : Rect p k M := by rw [← hM]; exact hoc.1
  have hnL : q ≤ L.length := by rw [← hn]; exact hoc.2.2.1
  have hv1 := hv0.up (S' := S1) (H' := A1)
  refine KW.ldF 1 hv1 rfl rfl rfl rfl rfl rfl rfl rfl rfl ?_
  refine KW.tst rfl rfl (fun h => ?_) (fun h => ?_)
  · have h : (ci : Int) < k := h
    refine KW.cnd rfl rfl (fun h2 => ?_) (fun h2 => ?_)
    · have h2 : ((ech p L ci).2.length : Int) < L.length := h2
      have e5 : Value.slice (some ⟨po, 0, some 1⟩) (ech p L ci).2.length (ech p L ci).2.length = Value.slice (some ⟨po, 0, some 1⟩) q q := by rw [hn]
      have e7 : Value.int .i64 ((ech p L ci).2.length : Nat) = Value.int .i64 q := by rw [hn]
      have hqL : q < L.length := by omega
      refine KW.lp rfl rfl (fun r : Nat => [(0, .pointer (some ⟨id, kk, none⟩)), (2, .pointer (some ⟨H.n, 0, some 0⟩)), (4, .pointer (some ⟨HC.n, 0, some 2⟩)), (5, .int .i64 p), (6, .slice (some ⟨po, 0, some 1⟩) q q), (7, .int .i64 q), (8, .int .i64 ci), (9, .int .i64 r)]) (fun r => q ≤ r ∧ r ≤ L.length ∧ nz M ci r = nz M ci q) (fun r => L.length - r) (q) (⟨Nat.le_refl _, hnL, rfl⟩) ⟨rfl, rfl, rfl, rfl, e5, e7, rfl, e7, trivial⟩ (fun r hi bE n => ?_)
      obtain ⟨hr1, hr2, hr3⟩ := hi
      refine KW.tst rfl rfl (fun h1 => ?_) (fun h1 => ?_)
      · have h1 : (r : Int) < L.length := h1
        obtain ⟨w, hw⟩ : ∃ w, M[r]? = some w := ⟨M[r]'(by omega), List.getElem?_eq_getElem (by omega)⟩
        obtain ⟨v, W, hv, hm, hWV, _, _⟩ := hb.row1 hw
        obtain ⟨ra, rc, rfl⟩ := hm.form
        have hwk := hMr.at hw
        refine KW.idx0 rfl rfl rfl rfl rfl rfl rfl rfl rfl (by omega) (h1) ?_
        refine KW.ldT 1 rfl rfl rfl rfl rfl rfl (bload_at (cell0 hv) rfl rfl) ?_
        refine KW.getI ((hm.sl.more (fun id hid => hb.sub id (hWV id hid)))) rfl rfl rfl rfl rfl rfl rfl rfl rfl rfl rfl rfl rfl rfl rfl rfl (by omega) (by omega) (fun x hx => ?_)
        have hx : w[ci]? = some x := hx
        refine KW.cnd rfl rfl (fun k2 => ?_) (fun k2 => ?_)
        · have k2 : x = 0 := k2
          refine KW.nxt rfl rfl (fun H' g => ⟨r + 1, ⟨by omega, by omega, by rw [nz_step hw (by rw [List.getD_eq_getElem?_getD, hx]; exact k2)]; exact hr3⟩, by first | omega | (simp only; omega), ⟨rfl, rfl, rfl, rfl, rfl, rfl, rfl, congrArg (Value.int .i64) (inc64 (by omega)), trivial⟩, g⟩)
        · have k2 : ¬ x = 0 := k2
          refine KW.no rfl rfl (by omega) ?_
          have e1 : nz M ci q = r := by rw [← hr3]; exact nz_stop hw (by rw [List.getD_eq_getElem?_getD, hx]; exact k2)
          have hrL : r < L.length := by omega
          obtain ⟨wn, hwn⟩ : ∃ w, M[q]? = some w := ⟨M[q]'(by omega), List.getElem?_eq_getElem (by omega)⟩
          obtain ⟨vn, Wn, hvn, hmn, _, _, _⟩ := hb.row1 hwn
          obtain ⟨na, nc, rfl⟩ := hmn.form
          refine KW.idx0 rfl rfl rfl rfl rfl rfl rfl rfl rfl (by omega) (by omega) ?_
          refine KW.ldT 1 rfl rfl rfl rfl rfl rfl (bload_at (cell0 hv) rfl rfl) ?_
          refine KW.idx0 rfl rfl rfl rfl rfl rfl rfl rfl rfl (by omega) (by omega) ?_
          refine KW.ldT 1 rfl rfl rfl rfl rfl rfl (bload_at (cell0 hvn) rfl rfl) ?_
          refine KW.idx0 rfl rfl rfl rfl rfl rfl rfl rfl rfl (by omega) (by omega) ?_
          refine KW.st1 1 rfl rfl rfl rfl rfl rfl rfl rfl rfl rfl rfl rfl (by simp only; omega) ?_
          refine KW.idx0 rfl rfl rfl rfl rfl rfl rfl rfl rfl (by omega) (by omega) ?_
          refine KW.st1 1 rfl rfl rfl rfl rfl rfl rfl rfl rfl rfl rfl rfl (by simp only [List.length_set]; omega) ?_
          obtain ⟨cs1, hcs1⟩ : ∃ cs1, (cs.set (0 + r * 1) (.slice na wn.length nc)).set (0 + q * 1) (.slice ra w.length rc) = cs1 := ⟨_, rfl⟩
          have hcsq : cs1[q]? = some (.slice ra w.length rc) := by
            rw [← hcs1, Nat.zero_add, Nat.zero_add, Nat.mul_one, Nat.mul_one, List.getElem?_set_self (by rw [List.length_set]; omega)]
          have hb2 : RowsB KI.ml S1 A1 V (sw M q r) cs1 := by
            rw [← hcs1, Nat.zero_add, Nat.zero_add, Nat.mul_one, Nat.mul_one, sets_comm hvn hv]
            exact hb.swap (by omega) (by omega) hvn hv
          have hM1 : Rect p k (sw M q r) := hMr.sw (by omega) (by omega)
          have hw1 : (sw M q r)[q]? = some w := sw_at (by omega) hw
          have hw1d : (sw M q r).getD q [] = w := by rw [List.getD_eq_getElem?_getD, hw1]; rfl
          obtain ⟨v1, W1, hv1q, hm1, hW1, _, hset⟩ := hb2.row1 hw1
          rw [hcsq] at hv1q
          cases hv1q
          have hsub1 : ∀ id, W1 id → S1 id := fun id hid => hb2.sub id (hW1 id hid)
          refine KW.getI ((hm1.sl.more hsub1)) rfl rfl rfl rfl rfl rfl rfl rfl rfl rfl rfl rfl rfl rfl rfl rfl (by omega) (by omega) (fun x1 hx1 => ?_)
          have hx1 : w[ci]? = some x1 := hx1
          have hx1k := hwk.2 x1 (List.mem_of_getElem? hx1)
          refine KW.callE rfl rfl rfl rfl rfl (l03Inverse p x1 hp hx1k) (fun _ _ => ?_)
          have hpk := pw_ok (a := x1) hp.1 (p - 2).toNat
          refine KW.callW hsub1 rfl rfl rfl rfl rfl (l03Times hp hpk (by omega) hwk.2 hsub1 hm1) (fun v2 H2 S2 hn2 st2 hw2 hv2 => ?_)
          obtain ⟨ld, hld⟩ : ∃ ld, sc p (pw p x1 (p - 2).toNat) w = ld := ⟨_, rfl⟩
          have hlead : lead p M ci q = ld := by
            unfold lead
            rw [e1, hw1d, ← hld, List.getD_eq_getElem?_getD, hx1]
            rfl
          have hldk : ld.length = k ∧ ∀ x ∈ ld, 0 ≤ x ∧ x < p := by rw [← hld]; exact sc_ok (by omega) hwk
          have hb3 := hset S2 H2 _ st2 hv2
          rw [hld] at hb3
          have hold2 : St (Low H.n) H S2 H2 := fun id hid => ⟨(st2 id (hold id hid).1).1, by rw [(st2 id (hold id hid).1).2 (fun hw => by have := hVl id (hW1 id hw); have : id < H.n := hid; omega)]; exact (hold id hid).2⟩
          obtain ⟨M2, hM2⟩ : ∃ M2, (sw M q r).set q ld = M2 := ⟨_, rfl⟩
          rw [hM2] at hb3
          have hM2l : M2.length = L.length := by rw [← hM2, List.length_set, sw_len]; exact hMl
          have hM2r : Rect p k M2 := by rw [← hM2]; exact hM1.set hldk
          have hM2q : M2[q]? = some ld := by rw [← hM2, List.getElem?_set_self (by rw [sw_len]; omega)]
          refine KW.lpM rfl rfl (fun s : (Nat × Ids × AH) => [(0, .pointer (some ⟨id, kk, none⟩)), (2, .pointer (some ⟨H.n, 0, some 0⟩)), (4, .pointer (some ⟨HC.n, 0, some 2⟩)), (5, .int .i64 p), (6, .slice (some ⟨po, 0, some 1⟩) q q), (7, .int .i64 q), (8, .int .i64 ci), (10, .slice ra w.length rc), (11, .int .i64 s.1)]) (fun s => s.2.1) (fun s => s.2.2) (fun s => [(H.n, ⟨28, true, [.int .i64 0, .int .i64 0, .slice none 0 0]⟩), (o, ⟨32, true, (cs.set (0 + r * 1) (.slice na wn.length nc)).set (0 + q * 1) (.slice ra w.length rc)⟩), (HC.n, ⟨28, true, [.int .i64 p, .int .i64 k, .slice (some ⟨o, 0, some 1⟩) L.length L.length]⟩), (po, ⟨_, true, (ech p L ci).2.map fun (i : Nat) => Value.int .i64 i⟩)]) (fun s => s.1 ≤ L.length ∧ St (Low H.n) H s.2.1 s.2.2 ∧ RowsB KI.ml s.2.1 s.2.2 V (tks p ci q ld M2 s.1) cs1) (fun s => L.length - s.1) ((0, S2, H2)) (⟨Nat.zero_le _, hold2, by simp only [tks_zero]; exact hb3⟩) ⟨rfl, rfl, rfl, rfl, rfl, rfl, rfl, rfl, rfl, trivial⟩ rfl rfl rfl (fun s hi bE n => ?_)
          obtain ⟨i, S3, A3⟩ := s
          obtain ⟨hi1, hold3, hb4⟩ := hi
          simp only at hi1 hold3 hb4
          haveI oc3 : Stp (Low H.n) H S3 A3 := ⟨hold3⟩
          refine KW.cnd rfl rfl (fun h3 => ?_) (fun h3 => ?_)
          · have h3 : (i : Int) < L.length := h3
            obtain ⟨wi, hwi⟩ : ∃ w, M2[i]? = some w := ⟨M2[i]'(by omega), List.getElem?_eq_getElem (by omega)⟩
            have hwik := hM2r.at hwi
            obtain ⟨vi, Wi, hvi, hmi, hWi, hoth, hseti⟩ := hb4.row1 ((tks_old (.inl (Nat.le_refl i))).trans hwi)
            obtain ⟨ai, ic, rfl⟩ := hmi.form
            rw [← hcs1] at hvi
            have hsubi : ∀ id, Wi id → S3 id := fun id hid => hb4.sub id (hWi id hid)
            refine KW.tstB rfl rfl (fun h4 => ?_) (fun h4 => ?_)
            · have h4 : i ≠ q := by simp at h4; omega
              refine KW.idx0 rfl rfl rfl rfl rfl rfl rfl rfl rfl (by omega) (h3) ?_
              refine KW.ldT 1 rfl rfl rfl rfl rfl rfl (bload_at (cell0 hvi) rfl rfl) ?_
              refine KW.getI ((hmi.sl.more hsubi)) rfl rfl rfl rfl rfl rfl rfl rfl rfl rfl rfl rfl rfl rfl rfl rfl (by omega) (by omega) (fun xi hxi => ?_)
              have hxi : wi[ci]? = some xi := hxi
              have hxik := hwik.2 xi (List.mem_of_getElem? hxi)
              have hgx : wi.getD ci 0 = xi := by rw [List.getD_eq_getElem?_getD, hxi]; rfl
              refine KW.cndB rfl rfl (fun h5 => ?_) (fun h5 => ?_)
              · obtain ⟨vq, Xq, hvq, hmq, hXq⟩ := hoth q ld (Ne.symm h4) ((tks_old (.inr rfl)).trans hM2q)
                rw [hcsq] at hvq
                cases hvq
                have hwl : w.length = ld.length := by omega
                rw [hwl] at hmq
                have ez : IntKind.i64.wrap (p - xi) = p - xi := wr (by omega) (by omega)
                have hadd := l03Add (S := S3) (H0 := A3) (W := Wi) (X := Xq) (p := p) (t := xi) (z := IntKind.i64.wrap (p - xi)) (xs := wi) hp hxik ez (by omega) hldk.2 (fun id hid => ⟨hb4.sub id (hXq id hid).1, (hXq id hid).2⟩) hmq.sl (by omega) hwik.2 hsubi hmi
                rw [← hwl] at hadd
                refine KW.idx0 rfl rfl rfl rfl rfl rfl rfl rfl rfl (by omega) (h3) ?_
                refine KW.ldT 1 rfl rfl rfl rfl rfl rfl (bload_at (cell0 hvi) rfl rfl) ?_
                refine KW.idx0 rfl rfl rfl rfl rfl rfl rfl rfl rfl (by omega) (h3) ?_
                refine KW.ldT 1 rfl rfl rfl rfl rfl rfl (bload_at (cell0 hvi) rfl rfl) ?_
                refine KW.getI ((hmi.sl.more hsubi)) rfl rfl rfl rfl rfl rfl rfl rfl rfl rfl rfl rfl rfl rfl rfl rfl (by omega) (by omega) (fun xj hxj => ?_)
                obtain rfl : xj = xi := by have hxj : wi[ci]? = some xj := hxj; rw [hxi] at hxj; cases hxj; rfl
                refine KW.callW hsubi rfl rfl rfl rfl rfl hadd (fun v5 H5 S5 hn5 st5 hw5 hv5 => ?_)
                have hb5 := hseti S5 H5 _ st5 hv5
                have hold5 : St (Low H.n) H S5 H5 := fun id hid => ⟨(st5 id (hold3 id hid).1).1, by rw [(st5 id (hold3 id hid).1).2 (fun hw => by have := hVl id (hWi id hw); have : id < H.n := hid; omega)]; exact (hold3 id hid).2⟩
                have et := tks_next (p := p) (c := ci) (r := ld) h4 hwi
                rw [hgx] at et
                rw [← et] at hb5
                refine KW.nxt rfl rfl (fun H' g => ⟨(i + 1, S5, H5), ⟨by simp only; omega, hold5, hb5⟩, by first | omega | (simp only; omega), ⟨rfl, rfl, rfl, rfl, rfl, rfl, rfl, rfl, congrArg (Value.int .i64) (inc64 (by omega)), trivial⟩, g⟩)
              · have h5 : xi = 0 := by simpa using h5
                have et := tks_same (p := p) (c := ci) (r := ld) h4 hwi (by rw [hgx]; exact h5) (by omega) hwik.2
                rw [← et] at hb4
                refine KW.nxt rfl rfl (fun H' g => ⟨(i + 1, S3, A3), ⟨by simp only; omega, hold3, hb4⟩, by first | omega | (simp only; omega), ⟨rfl, rfl, rfl, rfl, rfl, rfl, rfl, rfl, congrArg (Value.int .i64) (inc64 (by omega)), trivial⟩, g⟩)
            · have h4 : i = q := by simp at h4; omega
              subst h4
              rw [← tks_skip] at hb4
              refine KW.cF rfl rfl (by first | (simp; done) | decide) ?_
              refine KW.nxt rfl rfl (fun H' g => ⟨(i + 1, S3, A3), ⟨by simp only; omega, hold3, hb4⟩, by first | omega | (simp only; omega), ⟨rfl, rfl, rfl, rfl, rfl, rfl, rfl, rfl, congrArg (Value.int .i64) (inc64 (by omega)), trivial⟩, g⟩)
          · have h3 : ¬ (i : Int) < L.length := h3
            have hiL : i = L.length := by omega
            have eE : ech p L (ci + 1) = (tks p ci q ld M2 L.length, (ech p L ci).2 ++ [ci]) := by
              rw [ech_some (by rw [hM, hn, e1]; omega), hM, hn, hlead, e1, hM2, hMl]
            have e8 : ∀ x : Nat, Value.slice (some ⟨x, 0, some 1⟩) (q + 1) (q + 1) = Value.slice (some ⟨x, 0, some 1⟩) (ech p L (ci + 1)).2.length (ech p L (ci + 1)).2.length := fun x => by rw [eE]; simp [hn]
            have e9 : Value.int .i64 (IntKind.i64.wrap ((q : Int) + 1)) = Value.int .i64 ((ech p L (ci + 1)).2.length : Nat) := by rw [eE]; simp [hn]; rw [wr (by omega) (by omega)]
            rw [← hcs1] at hb4
            refine KW.app1 (xs := (ech p L ci).2.map fun (i : Nat) => Value.int .i64 i) (v := .int .i64 ci) 3 4 rfl rfl rfl rfl rfl rfl rfl rfl rfl rfl rfl rfl rfl rfl rfl rfl rfl rfl rfl rfl rfl rfl rfl (by simp [hn]) (by show (_ + 1) * 8 ≤ _; omega) (by first | omega | (simp only; omega)) ?_
            refine KW.nxt rfl rfl (fun H' g => ⟨⟨ci + 1, S3, A3, _, _⟩, ⟨by simp only; omega, hold3, by simp only; rw [eE, ← hiL]; exact hb4⟩, by first | omega | (simp only; omega), ⟨rfl, rfl, rfl, rfl, e8 _, e9, congrArg (Value.int .i64) (inc64 (by omega)), trivial⟩, g.eqT (by simp only [eE, List.map_append]; rfl)⟩)
      · have h1 : ¬ (r : Int) < L.length := h1
        refine KW.cF rfl rfl (by first | (simp; done) | decide) ?_
        refine KW.yes rfl rfl (by omega) ?_
        have e1 : nz (ech p L ci).1 ci (ech p L ci).2.length = (ech p L ci).1.length := by rw [hM, hn, ← hr3, nz_end (by omega)]; omega
        have e2 := ech_none e1
        have e3 : Value.slice (some ⟨po, 0, some 1⟩) q q = Value.slice (some ⟨po, 0, some 1⟩) (ech p L (ci + 1)).2.length (ech p L (ci + 1)).2.length := by rw [e2, hn]
        have e4 : Value.int .i64 q = Value.int .i64 ((ech p L (ci + 1)).2.length : Nat) := by rw [e2, hn]
        refine KW.nxt rfl rfl (fun H' g => ⟨⟨ci + 1, S1, A1, cs, po⟩, ⟨by simp only; omega, hold, by simp only; rw [e2, hM]; exact hb⟩, by first | omega | (simp only; omega), ⟨rfl, rfl, rfl, rfl, e3, e4, congrArg (Value.int .i64) (inc64 (by omega)), trivial⟩, g.eqT (by simp only [e2])⟩)
    · have hqe : (ech p L ci).2.length = L.length := by have h2 : ¬ ((ech p L ci).2.length : Int) < L.length := h2; omega
      have fin : ech p L k = ech p L ci := by
        have := ech_full (p := p) (L := L) (c := ci) hqe hoc.2.1 (k - ci)
        rw [show ci + (k - ci) = k by omega] at this
        exact this
      refine KW.slTo (m := (ech p L ci).2.length) rfl rfl rfl rfl rfl rfl rfl rfl rfl (by omega) ?_
      refine KW.retM1 rfl rfl rfl rfl (fun H1 g => ?_)
      rw [fin]
      have hno := g.n_
      have hbo := g.blk (j := 1) rfl
      have hbp := g.blk (j := 3) rfl
      have hpo := g.ge (H1 := H) (j := 3) rfl
      refine ⟨_, _, _, _, rfl, ?_, ?_⟩
      · rw [hM]
        exact hb.mlTo g (j := 1) rfl ⟨by have := ho.1; omega, hbo.2⟩ (fun id hid => ⟨hVl id hid, by have := (g.froz id (hb.sub id hid)).1; omega⟩) (by omega) (by omega)
      · have el : ((ech p L ci).2.map fun (i : Nat) => (i : Int)).length = (ech p L ci).2.length := by simp
        have := mlI_of (ik := .i64) (X := New H.n H1.n) (c := (ech p L ci).2.length) (ys := (ech p L ci).2.map fun (i : Nat) => (i : Int)) ⟨hpo, hbp.2⟩ hbp.1 rfl (by rw [el]; exact Nat.le_refl _) (by simp) (fun j x hx => by
          rw [List.getElem?_map] at hx ⊢
          cases hj : (ech p L ci).2[j]? with
          | none => rw [hj] at hx; cases hx
          | some z => rw [hj] at hx; cases hx; rfl)
        rw [el] at this
        exact this
  · have hck : ci = k := by have h : ¬ (ci : Int) < k := h; omega
    have fin : ech p L k = ech p L ci := by rw [hck]
    refine KW.cF rfl rfl (by first | (simp; done) | decide) ?_
    refine KW.slTo (m := (ech p L ci).2.length) rfl rfl rfl rfl rfl rfl rfl rfl rfl (by omega) ?_
    refine KW.retM1 rfl rfl rfl rfl (fun H1 g => ?_)
    rw [fin]
    have hno := g.n_
    have hbo := g.blk (j := 1) rfl
    have hbp := g.blk (j := 3) rfl
    have hpo := g.ge (H1 := H) (j := 3) rfl
    refine ⟨_, _, _, _, rfl, ?_, ?_⟩
    · rw [hM]
      exact hb.mlTo g (j := 1) rfl ⟨by have := ho.1; omega, hbo.2⟩ (fun id hid => ⟨hVl id hid, by have := (g.froz id (hb.sub id hid)).1; omega⟩) (by omega) (by omega)
    · have el : ((ech p L ci).2.map fun (i : Nat) => (i : Int)).length = (ech p L ci).2.length := by simp
      have := mlI_of (ik := .i64) (X := New H.n H1.n) (c := (ech p L ci).2.length) (ys := (ech p L ci).2.map fun (i : Nat) => (i : Int)) ⟨hpo, hbp.2⟩ hbp.1 rfl (by rw [el]; exact Nat.le_refl _) (by simp) (fun j x hx => by
        rw [List.getElem?_map] at hx ⊢
        cases hj : (ech p L ci).2[j]? with
        | none => rw [hj] at hx; cases hx
        | some z => rw [hj] at hx; cases hx; rfl)
      rw [el] at this
      exact this
end
end Go.Proofs.Ytmkpfllbmdahkaa.Am
/- Contracts: the rank of the reference; what both answer. Each holds under its own conditions. -/
set_option linter.unusedVariables false
set_option linter.unusedSimpArgs false
set_option maxRecDepth 20000
namespace Go.Proofs.Ytmkpfllbmdahkaa.Am
open Go Go.RowKit Go.Proofs Go.Proofs.Ytmkpfllbmdahkaa.Pl
noncomputable def r0_RankOf (y : T_Matrix) : Int := if tv (OkMat y.1 y.2.1 y.2.2) then rkM y.1 y.2.1 y.2.2 else 0
noncomputable def r1_RankOf (y : T_Matrix) : Int := if tv (OkMat y.1 y.2.1 y.2.2) then 0 else 1
theorem Good.has3 {S0 : Ids} {H0 H1 : AH} {T : List Var} {n j id : Nat} {ty : TypeId} {rw : Bool} {vs : List Value} (g : Good S0 H0 T n H1) (hj : T[j]? = some (id, ⟨ty, rw, vs⟩)) : Has3 (Low H1.n) H1 id 0 vs := ⟨(g.blk hj).2, _, (g.blk hj).1, fun i v h => by simpa using h⟩
section
variable {S : Ids} {H0 : AH}
theorem l03Rank {p : Int} {k : Nat} (hp : 2 ≤ p ∧ p ≤ 31) (hk : k ≤ 1000) {L : List (List Int)} (hB : B_Int64SS L) (hL : Rect p k L) {id kk : Nat} {a c} (hv0 : Has3 S H0 id kk [.int .i64 p, .int .i64 k, .slice a L.length c]) (hs : KI.sl.Sl S H0 (.slice a L.length c) L) : SpecM Try.prog S H0 101 [.pointer (some ⟨id, kk, none⟩)] (fun _ v _ => v = .int .i64 (rkM p k L)) := by
  refine SpecM.of1 Try.func101 rfl (by kernel_rfl) rfl (fun H _ => ?_)
  refine KW.callN1 rfl rfl rfl rfl rfl (l03Echelon hp hk hB hL (hv0.up (S' := Low H.n) (H' := H)) hs.up) (fun v HC SC mC _ _ hv => ?_)
  obtain ⟨a1, c1, a2, c2, rfl, _, _⟩ := hv
  refine KW.retM1 rfl rfl rfl rfl (fun H1 g => rfl)
theorem spec_RankOf' {p c : Int} (hp : I64 p) {L : List (List Int)} (hB : B_Int64SS L) {a m} (hs : KI.sl.Sl S H0 (.slice a L.length m) L) : SpecM Try.prog S H0 16 [.agg #[.int .i64 p, .int .i64 c, .slice a L.length m]] (fun _ v _ => v = .tuple #[.int .i64 (if tv (OkMat p c L) then rkM p c L else 0), .int .i64 (if tv (OkMat p c L) then 0 else 1)]) := by
  refine SpecM.of1 Try.func16 rfl (by kernel_rfl) rfl (fun H _ => ?_)
  refine KW.callV1 rfl rfl rfl rfl rfl (fun H1 g _ => l03Ok (S := Low H1.n) (H0 := H1) p c hp hB (g.has3 (j := 0) rfl) hs.up) (fun _ _ => ?_)
  by_cases hM : OkMat p c L
  · rw [tv_true hM]
    obtain ⟨k, hk⟩ : ∃ k : Nat, c = k := ⟨c.toNat, by have := hM.c0; omega⟩
    subst hk
    have h2 := hM.pr
    refine KW.cF rfl rfl (by first | (simp; done) | decide) ?_
    refine KW.callNV1 rfl rfl rfl rfl rfl (fun H1 g _ => l03Rank (S := Low H1.n) (H0 := H1) ⟨h2.1, h2.2.1⟩ (by have := hM.c1; omega) hB (hM.rect rfl) (g.has3 (j := 0) rfl) hs.up) (fun v HC SC mC _ _ hv => ?_)
    obtain rfl := hv
    refine KW.retM1 rfl rfl rfl rfl (fun H1 g => rfl)
  · rw [tv_false hM]
    refine KW.cT rfl rfl (by first | (simp; done) | decide) ?_
    refine KW.retM1 rfl rfl rfl rfl (fun H1 g => rfl)
end
end Go.Proofs.Ytmkpfllbmdahkaa.Am
/- Contracts: rows chosen by indices; the matrix of what a group holds. Each holds under its own conditions. -/
set_option linter.unusedVariables false
set_option linter.unusedSimpArgs false
set_option maxRecDepth 20000
namespace Go.Proofs.Ytmkpfllbmdahkaa.Am
open Go Go.RowKit Go.Proofs Go.Proofs.Ytmkpfllbmdahkaa.Pl
/-- The rows with some indices. -/
def selR (L : List (List Int)) (R : List Int) : List (List Int) := R.map fun i => L.getD i.toNat []
theorem selR_len {L : List (List Int)} {R : List Int} : (selR L R).length = R.length := by simp [selR]
theorem selR_mem {L : List (List Int)} {R : List Int} (hR : ∀ x ∈ R, 0 ≤ x ∧ x < L.length) {r : List Int} (h : r ∈ selR L R) : r ∈ L := by
  obtain ⟨i, hi, rfl⟩ := List.mem_map.1 h
  have := hR i hi
  rw [List.getD_eq_getElem?_getD, List.getElem?_eq_getElem (by omega)]
  exact List.getElem_mem _
/-- A matrix that has been made, to be read. -/
def MkMx (p c : Int) (xs : List (List Int)) (n : Nat) (v : Value) (H1 : AH) : Prop := ∃ a m, v = .agg #[.int .i64 p, .int .i64 c, .slice a xs.length m] ∧ KI.sl.Sl (New n H1.n) H1 (.slice a xs.length m) xs
structure CqI {α : Type} (f : α → List Int) (xs : List α) (H HB : AH) (SB : Ids) (s : CpS) : Prop where
  rw : RwI f xs H SB HB ⟨s.i, s.S, s.A, s.V, s.cs, 0⟩
  form : (s.i = 0 ∧ s.l = .slice none 0 0 ∧ s.tail = [] ∧ s.cs = []) ∨ (0 < s.i ∧ ∃ o, s.l = .slice (some ⟨o, 0, some 1⟩) s.i s.i ∧ s.tail = [(o, ⟨32, true, s.cs⟩)])
section
variable {S : Ids} {H0 : AH}
theorem rowsAt {p c : Int} {a1 c1 a2 c2} {L : List (List Int)} {R : List Int} (hB : B_Int64SS L) (hR : ∀ x ∈ R, 0 ≤ x ∧ x < L.length) (hRl : R.length ≤ 1048576) (hs : KI.sl.Sl S H0 (.slice a1 L.length c1) L) (hr : KI.Sl S H0 (.slice a2 R.length c2) R) : SpecM Try.prog S H0 200 [.agg #[.int .i64 p, .int .i64 c, .slice a1 L.length c1], .slice a2 R.length c2] (MkMx p c (selR L R)) := by
  refine SpecM.of1 Try.func200 rfl (by kernel_rfl) rfl (fun H _ => ?_)
  have hs := hs.up (S' := Low H.n) (H' := H)
  have hr := hr.up (S' := Low H.n) (H' := H)
  refine KW.build rfl rfl rfl rfl rfl (built_Matrix2 _ _) ?_
  refine KW.lpM rfl rfl (fun s : CpS => [(2, .pointer (some ⟨H.n, 0, some 0⟩)), (4, .pointer (some ⟨H.n + 1, 0, some 1⟩)), (5, .pointer (some ⟨H.n + 2, 0, some 2⟩)), (13, .slice a2 R.length c2), (14, .int .i64 R.length), (15, .int .i64 s.i)]) (fun s => s.S) (fun s => s.A) (fun s => [(H.n, ⟨28, true, [.int .i64 p, .int .i64 c, .slice a1 L.length c1]⟩), (H.n + 1, ⟨28, true, [.int .i64 0, .int .i64 0, .slice none 0 0]⟩), (H.n + 2, ⟨28, true, [.int .i64 p, .int .i64 c, s.l]⟩)] ++ s.tail) (fun s => CqI (fun (i : Int) => L.getD i.toNat []) R H H (Low H.n) s) (fun s => R.length - s.i) (⟨0, Low H.n, H, fun _ => False, [], .slice none 0 0, []⟩) (⟨RwI.start, .inl ⟨rfl, rfl, rfl, rfl⟩⟩) ⟨rfl, rfl, rfl, rfl, rfl, rfl, trivial⟩ rfl rfl rfl (fun s hi bE n => ?_)
  obtain ⟨i, S1, A1, V, cs, l, tail⟩ := s
  obtain ⟨hq, hform⟩ := hi
  simp only at hq hform
  haveI : Stp (Low H.n) H S1 A1 := ⟨hq.old⟩
  have hle := hq.le
  have hcl := hq.b.len
  rw [List.length_map, List.length_take] at hcl
  simp only at hle hcl
  have hs1 := hs.up (S' := S1) (H' := A1)
  have hr1 := hr.up (S' := S1) (H' := A1)
  rcases hform with ⟨hi0, e1, e2, e3⟩ | ⟨hi0, o, e1, e2⟩
  case' inl => subst e1 e2 e3
  case' inr => subst e1 e2
  all_goals
    refine KW.cnd rfl rfl (fun j1 => ?gin) (fun j1 => ?gout)
    case gin =>
      have j1 : (i : Int) < R.length := j1
      refine KW.getI hr1 rfl rfl rfl rfl rfl rfl rfl rfl rfl rfl rfl rfl rfl rfl rfl rfl (by omega) (j1) (fun x hx => ?_)
      have hx : R[i]? = some x := hx
      have hxb := hR x (List.mem_of_getElem? hx)
      refine KW.getL hs1 rfl rfl rfl rfl rfl rfl rfl rfl rfl rfl rfl rfl rfl rfl rfl rfl (hxb.1) (hxb.2) (fun y ay cy hy hsy => ?_)
      have hyl := hB.each y (List.mem_of_getElem? hy)
      have hyd : L.getD x.toNat [] = y := by rw [List.getD_eq_getElem?_getD, hy]; rfl
      refine KW.ids (fun hlow hvar => ?_)
      have hnA := (hvar 2 (H.n + 2) _ rfl).1
      refine KW.callN1 rfl rfl rfl rfl rfl (cloneI hyl hsy) (fun v HC SC mC _ _ hv => ?_)
      obtain ⟨a5, c5, rfl, hC⟩ := hv
      rw [← hyd] at hC ⊢
      first
        | (refine KW.app0 (v := .slice a5 (L.getD x.toNat []).length c5) 3 rfl rfl rfl rfl rfl rfl rfl rfl rfl rfl rfl rfl rfl rfl rfl rfl rfl rfl rfl rfl rfl rfl (by decide) ?_
           subst hi0
           exact KW.nxt rfl rfl (fun H' g => ⟨⟨1, SC, HC, _, _, _, _⟩, ⟨hq.next (o' := 0) (inferInstance : Stp S1 A1 SC HC).st inferInstance hlow (by omega) hx hC, .inr ⟨by simp only; omega, _, rfl, rfl⟩⟩, by simp only; omega, ⟨rfl, rfl, rfl, rfl, rfl, rfl, trivial⟩, g⟩))
        | (refine KW.app1 (xs := cs) (v := .slice a5 (L.getD x.toNat []).length c5) 3 4 rfl rfl rfl rfl rfl rfl rfl rfl rfl rfl rfl rfl rfl rfl rfl rfl rfl rfl rfl rfl rfl rfl rfl (by omega) (by show (_ + 1) * 24 ≤ _; omega) (by omega) ?_
           exact KW.nxt rfl rfl (fun H' g => ⟨⟨i + 1, SC, HC, _, _, _, _⟩, ⟨hq.next (o' := 0) (inferInstance : Stp S1 A1 SC HC).st inferInstance hlow (by omega) hx hC, .inr ⟨by simp only; omega, _, rfl, rfl⟩⟩, by simp only; omega, ⟨rfl, rfl, rfl, rfl, rfl, congrArg (Value.int .i64) (inc64 (by omega)), trivial⟩, g⟩))
    case gout =>
      have j1 : ¬ (i : Int) < R.length := j1
      have he : i = R.length := by omega
      have el : (selR L R).length = R.length := selR_len
      refine KW.retM1 rfl rfl rfl rfl (fun H1 g => ?_)
      first
        | (have h0 : R = [] := List.eq_nil_of_length_eq_zero (by omega)
           subst h0
           exact ⟨none, 0, rfl, .inl ⟨rfl, _, _, rfl, fun _ => rfl⟩⟩)
        | (refine ⟨_, _, by rw [el, he]; rfl, ?_⟩
           have hm := ((⟨hq.le, hq.old, hq.b, hq.v⟩ : RwI (fun (i : Int) => L.getD i.toNat []) R H (Low H.n) H ⟨i, S1, A1, V, cs, o⟩).ml he g (j := 3) rfl (g.ge (H1 := H) (j := 3) rfl)).to (KLe.row (KLe.refl KI))
           rw [el]
           exact hm)
end
end Go.Proofs.Ytmkpfllbmdahkaa.Am
/- Contracts: the matrix of what a group holds, of the program and of the reference. Each holds under its own conditions. -/
set_option linter.unusedVariables false
set_option linter.unusedSimpArgs false
set_option maxRecDepth 20000
namespace Go.Proofs.Ytmkpfllbmdahkaa.Am
open Go Go.RowKit Go.Proofs Go.Proofs.Ytmkpfllbmdahkaa.Pl
theorem rect_sml {p : Int} {k : Nat} {L : List (List Int)} (hL : Rect p k L) (hk : k ≤ 1000) (hl : L.length ≤ 1000) : B_Int64SS L := by
  have h : ∀ M : List (List Int), (∀ r ∈ M, r.length = k) → sum (lens M) = M.length * k := by
    intro M
    induction M with
    | nil => intro _; simp [lens, sum]
    | cons x M ih =>
      intro hM
      have h1 := ih (fun r hr => hM r (List.mem_cons_of_mem _ hr))
      have h2 := hM x List.mem_cons_self
      simp only [lens, List.map_cons, sum] at h1 ⊢
      rw [h1, h2, List.length_cons, Nat.add_mul]
      omega
  have h1 := h L (fun r hr => (hL r hr).1)
  have h2 : L.length * k ≤ 1000 * 1000 := Nat.mul_le_mul hl hk
  exact ⟨by omega, by rw [h1]; omega⟩
/-- The rows of a group, by its number. -/
def heldR (ow : List Int) (rows : List (List Int)) (x : Nat) : List (List Int) := selR rows (rowsP (fun i => x.testBit (ow.getD i 0).toNat) ow.length)
theorem held_in {h p c : Int} {ow : List Int} {rows : List (List Int)} (hk : OkSch h ow p c rows) {q : Nat → Bool} : ∀ x ∈ rowsP q ow.length, 0 ≤ x ∧ x < rows.length := fun x hx => by
  have := rowsP_mem hx
  have := hk.len
  omega
theorem held_rect {h p c : Int} {k : Nat} {ow : List Int} {rows : List (List Int)} (hk : OkSch h ow p c rows) (hc : c = k) {q : Nat → Bool} : Rect p k (selR rows (rowsP q ow.length)) := fun r hr => hk.mat.rect hc r (selR_mem (held_in hk) hr)
theorem held_len {h p c : Int} {ow : List Int} {rows : List (List Int)} (hk : OkSch h ow p c rows) {q : Nat → Bool} : (selR rows (rowsP q ow.length)).length ≤ 20 := by
  rw [selR_len]
  have := rowsP_len q ow.length
  have := hk.len
  have := hk.mat.len
  omega
section
variable {S : Ids} {H0 : AH}
theorem held (h p c : Int) (x : Nat) (hx : x < 4611686018427387904) {a1 c1 a2 c2} {ow : List Int} {rows : List (List Int)} (hO : B_Int64S ow) (hB : B_Int64SS rows) (hk : OkSch h ow p c rows) (ho : KI.Sl S H0 (.slice a1 ow.length c1) ow) (hs : KI.sl.Sl S H0 (.slice a2 rows.length c2) rows) :
    SpecM Try.prog S H0 112 [.agg #[.int .i64 h, .slice a1 ow.length c1, .int .i64 p, .int .i64 c, .slice a2 rows.length c2], .int .u64 (x : Int)] (MkMx p c (heldR ow rows x)) := by
  refine SpecM.of1 Try.func112 rfl (by kernel_rfl) rfl (fun H _ => ?_)
  refine KW.callN1 rfl rfl rfl rfl rfl (rowsHeld h p c x hx hO hk.own hk.h7 ho.up) (fun v HR SR mR _ _ hv => ?_)
  obtain ⟨a5, c5, rfl, hR⟩ := hv
  refine KW.callN1 rfl rfl rfl rfl rfl (rowsAt hB (held_in hk) (by have := rowsP_len (fun i => x.testBit (ow.getD i 0).toNat) ow.length; have : ow.length ≤ 1048576 := hO; omega) hs.up hR.ups) (fun v HM SM mM _ _ hv => ?_)
  obtain ⟨a6, c6, rfl, hM⟩ := hv
  refine KW.retM1 rfl rfl rfl rfl (fun H1 g => ?_)
  haveI := g.out (X := New HR.n HM.n) (H := HM) (lo := H.n) (fun id p => by have := p.1; omega)
  exact ⟨a6, c6, rfl, hM.up⟩
theorem l04Part (h p c : Int) {id kk : Nat} {a1 c1 a2 c2 a c3} {ow g0 : List Int} {rows : List (List Int)} (hO : B_Int64S ow) (hB : B_Int64SS rows) (hk : OkSch h ow p c rows) (hG : g0.length ≤ 1048576) (hv0 : Has3 S H0 id kk [.int .i64 h, .slice a1 ow.length c1, .int .i64 p, .int .i64 c, .slice a2 rows.length c2]) (ho : KI.Sl S H0 (.slice a1 ow.length c1) ow) (hs : KI.sl.Sl S H0 (.slice a2 rows.length c2) rows) (hg : KI.Sl S H0 (.slice a g0.length c3) g0) :
    SpecM Try.prog S H0 108 [.pointer (some ⟨id, kk, none⟩), .slice a g0.length c3] (MkMx p c (selR rows (rowsP (fun i => decide (ow.getD i 0 ∈ g0)) ow.length))) := by
  refine SpecM.of1 Try.func108 rfl (by kernel_rfl) rfl (fun H _ => ?_)
  have hO' : ow.length ≤ 1048576 := hO
  have hv := hv0.up (S' := Low H.n) (H' := H)
  refine KW.ldF 2 hv rfl rfl rfl rfl rfl rfl rfl rfl rfl ?_
  refine KW.ldF 3 hv rfl rfl rfl rfl rfl rfl rfl rfl rfl ?_
  refine KW.build rfl rfl rfl rfl rfl (built_Matrix2 _ _) ?_
  refine KW.callN1 rfl rfl rfl rfl rfl (l04Held h p c hO hG hv.up ho.up hg.up) (fun v HR SR mR _ _ hv => ?_)
  obtain ⟨a5, c5, rfl, hR⟩ := hv
  have hrl := rowsP_len (fun i => decide (ow.getD i 0 ∈ g0)) ow.length
  have hRm := held_in hk (q := fun i => decide (ow.getD i 0 ∈ g0))
  generalize rowsP (fun i => decide (ow.getD i 0 ∈ g0)) ow.length = R at *
  have hs := hs.up (S' := SR) (H' := HR)
  refine KW.lpM rfl rfl (fun s : CpS => [(0, .pointer (some ⟨id, kk, none⟩)), (4, .pointer (some ⟨H.n, 0, some 0⟩)), (5, .pointer (some ⟨H.n + 1, 0, some 1⟩)), (6, .slice a5 R.length c5), (7, .int .i64 s.i)]) (fun s => s.S) (fun s => s.A) (fun s => [(H.n, ⟨28, true, [.int .i64 0, .int .i64 0, .slice none 0 0]⟩), (H.n + 1, ⟨28, true, [.int .i64 p, .int .i64 c, s.l]⟩)] ++ s.tail) (fun s => CqI (fun (i : Int) => rows.getD i.toNat []) R H HR SR s) (fun s => R.length - s.i) (⟨0, SR, HR, fun _ => False, [], .slice none 0 0, []⟩) (⟨RwI.start, .inl ⟨rfl, rfl, rfl, rfl⟩⟩) ⟨rfl, rfl, rfl, rfl, rfl, trivial⟩ rfl rfl rfl (fun s hi bE n => ?_)
  obtain ⟨i, S1, A1, V, cs, l, tail⟩ := s
  obtain ⟨hq, hform⟩ := hi
  simp only at hq hform
  haveI : Stp SR HR S1 A1 := ⟨hq.old⟩
  have hle := hq.le
  have hcl := hq.b.len
  rw [List.length_map, List.length_take] at hcl
  simp only at hle hcl
  have hs1 := hs.up (S' := S1) (H' := A1)
  have hr1 := hR.ups (S' := S1) (H' := A1)
  have hv1 := hv.up (S' := S1) (H' := A1)
  rcases hform with ⟨hi0, e1, e2, e3⟩ | ⟨hi0, o, e1, e2⟩
  case' inl => subst e1 e2 e3
  case' inr => subst e1 e2
  all_goals
    refine KW.cnd rfl rfl (fun j1 => ?gin) (fun j1 => ?gout)
    case gin =>
      have j1 : (i : Int) < R.length := j1
      refine KW.ldF 4 hv1 rfl rfl rfl rfl rfl rfl rfl rfl rfl ?_
      refine KW.getI hr1 rfl rfl rfl rfl rfl rfl rfl rfl rfl rfl rfl rfl rfl rfl rfl rfl (by omega) (j1) (fun x hx => ?_)
      have hx : R[i]? = some x := hx
      have hxb := hRm x (List.mem_of_getElem? hx)
      refine KW.getL hs1 rfl rfl rfl rfl rfl rfl rfl rfl rfl rfl rfl rfl rfl rfl rfl rfl (hxb.1) (hxb.2) (fun y ay cy hy hsy => ?_)
      have hyl := hB.each y (List.mem_of_getElem? hy)
      have hyd : rows.getD x.toNat [] = y := by rw [List.getD_eq_getElem?_getD, hy]; rfl
      refine KW.ids (fun hlow hvar => ?_)
      have hnA := (hvar 1 (H.n + 1) _ rfl).1
      refine KW.callN1 rfl rfl rfl rfl rfl (l00Own hyl hsy) (fun v HC SC mC _ _ hv => ?_)
      obtain ⟨a6, c6, rfl, hC⟩ := hv
      rw [← hyd] at hC ⊢
      first
        | (refine KW.app0 (v := .slice a6 (rows.getD x.toNat []).length c6) 2 rfl rfl rfl rfl rfl rfl rfl rfl rfl rfl rfl rfl rfl rfl rfl rfl rfl rfl rfl rfl rfl rfl (by decide) ?_
           subst hi0
           exact KW.nxt rfl rfl (fun H' g => ⟨⟨1, SC, HC, _, _, _, _⟩, ⟨hq.next (o' := 0) (inferInstance : Stp S1 A1 SC HC).st inferInstance hlow (by omega) hx hC, .inr ⟨by simp only; omega, _, rfl, rfl⟩⟩, by simp only; omega, ⟨rfl, rfl, rfl, rfl, rfl, trivial⟩, g⟩))
        | (refine KW.app1 (xs := cs) (v := .slice a6 (rows.getD x.toNat []).length c6) 2 3 rfl rfl rfl rfl rfl rfl rfl rfl rfl rfl rfl rfl rfl rfl rfl rfl rfl rfl rfl rfl rfl rfl rfl (by omega) (by show (_ + 1) * 24 ≤ _; omega) (by omega) ?_
           exact KW.nxt rfl rfl (fun H' g => ⟨⟨i + 1, SC, HC, _, _, _, _⟩, ⟨hq.next (o' := 0) (inferInstance : Stp S1 A1 SC HC).st inferInstance hlow (by omega) hx hC, .inr ⟨by simp only; omega, _, rfl, rfl⟩⟩, by simp only; omega, ⟨rfl, rfl, rfl, rfl, congrArg (Value.int .i64) (inc64 (by omega)), trivial⟩, g⟩))
    case gout =>
      have j1 : ¬ (i : Int) < R.length := j1
      have he : i = R.length := by omega
      have el : (selR rows R).length = R.length := selR_len
      refine KW.retM1 rfl rfl rfl rfl (fun H1 g => ?_)
      first
        | (have h0 : R = [] := List.eq_nil_of_length_eq_zero (by omega)
           subst h0
           exact ⟨none, 0, rfl, .inl ⟨rfl, _, _, rfl, fun _ => rfl⟩⟩)
        | (refine ⟨_, _, by rw [el, he]; rfl, ?_⟩
           have hm := ((⟨hq.le, hq.old, hq.b, hq.v⟩ : RwI (fun (i : Int) => rows.getD i.toNat []) R H SR HR ⟨i, S1, A1, V, cs, o⟩).ml he g (j := 2) rfl (g.ge (H1 := H) (j := 2) rfl)).to (KLe.row (KLe.refl KI))
           rw [el]
           exact hm)
end
end Go.Proofs.Ytmkpfllbmdahkaa.Am
/- A variable of one's own becomes frozen; rows that are made in place join a list of rows. For every program. No condition beyond each theorem's own. -/
set_option linter.unusedSimpArgs false
set_option linter.unusedVariables false
namespace Go.Proofs.Ytmkpfllbmdahkaa.Am
open Go Go.RowKit
/-- The variable j and those behind it are given up; what stands in j is frozen. -/
theorem KW.freeze {P : Program} {S : Ids} {H0 : AH} {Q : PostC} {k : List It} {e : Env} {T : List Var} {n : Nat} (j : Nat) {o : Nat} {b : Blk} (hj : T[j]? = some (o, b))
    (hk : ∀ (A' : AH) (S' : Ids), A'.n = n → (∀ id, S' id ↔ S id ∨ id = o) → Stp S H0 S' A' → A'.m o = some b → o < n → ¬ S o → (∀ id, S id → id < n) → KW P S' A' Q n (T.take j) k e) : KW P S H0 Q n T k e := fun H g => by
  have hv := g.vars j _ hj
  have get : ∀ {i : Nat} {u : Var}, (T.take j)[i]? = some u → i < j ∧ T[i]? = some u := fun {i u} hi => by
    rw [List.getElem?_take] at hi
    split at hi
    · exact ⟨by assumption, hi⟩
    · cases hi
  refine hk H (fun id => S id ∨ id = o) g.n_ (fun id => Iff.rfl) ⟨fun id hid => ⟨.inl hid, (g.froz id hid).2⟩⟩ hv.1 hv.2.1 hv.2.2 (fun id hid => (g.froz id hid).1) H ?_
  refine ⟨g.n_, g.fin, fun id hid => ⟨?_, rfl⟩, fun i u hi => ?_, fun i1 i2 u w h1 h2 he => g.dist i1 i2 u w (get h1).2 (get h2).2 he⟩
  · rcases hid with hid | rfl
    · exact (g.froz id hid).1
    · exact hv.2.1
  · obtain ⟨h1, h2⟩ := get hi
    have h3 := g.vars i u h2
    refine ⟨h3.1, h3.2.1, fun h => ?_⟩
    rcases h with h | h
    · exact h3.2.2 h
    · have := g.dist i j u _ h2 hj h; omega
theorem RwI.nextX {α : Type} {f : α → List Int} {xs : List α} {H HB HC : AH} {SB SC X : Ids} {s : RwS} {o' : Nat} {y : α} {v : Value} (h : RwI f xs H SB HB s) (t : St s.S s.A SC HC) (hX : ∀ id, X id → SC id ∧ H.n ≤ id ∧ ¬ s.S id) (hy : xs[s.i]? = some y) (hc : KI.Ml X HC v (f y)) : RwI f xs H SB HB ⟨s.i + 1, SC, HC, fun id => s.V id ∨ X id, s.cs ++ [v], o'⟩ := by
  obtain ⟨hil, rfl⟩ := List.getElem?_eq_some_iff.1 hy
  haveI o1 : On s.S s.A SC HC := ⟨t⟩
  refine ⟨by simp only; omega, h.old.trans t, ?_, fun id hid => hid.elim (h.v id) (fun p => (hX id p).2.1)⟩
  simp only
  rw [List.take_succ_eq_append_getElem hil, List.map_append]
  exact (h.b.up (S' := SC) (A' := HC)).snoc (ml1' hc) (fun id hid => (hX id hid).1) (fun id p q => (hX id q).2.2 (h.b.sub id p))
/-- A row that has been frozen. -/
theorem row_ml {A : AH} {o : Nat} {ty : TypeId} {xs : List Int} (h : A.m o = some ⟨ty, true, xs.map (Value.int .i64)⟩) : KI.Ml (fun id => id = o) A (.slice (some ⟨o, 0, some 1⟩) xs.length xs.length) xs := int_ml rfl h rfl rfl (Nat.le_refl _)
end Go.Proofs.Ytmkpfllbmdahkaa.Am
/- Contracts: the columns of a matrix, of the program and of the reference. Each holds under its own conditions. -/
set_option linter.unusedVariables false
set_option linter.unusedSimpArgs false
set_option maxRecDepth 20000
namespace Go.Proofs.Ytmkpfllbmdahkaa.Am
open Go Go.RowKit Go.Proofs Go.Proofs.Ytmkpfllbmdahkaa.Pl
def colL (L : List (List Int)) (c : Nat) : List Int := L.map fun r => r.getD c 0
/-- The columns of rows. -/
def trL (L : List (List Int)) (k : Nat) : List (List Int) := (List.range k).map (colL L)
theorem trL_len {L : List (List Int)} {k : Nat} : (trL L k).length = k := by simp [trL]
theorem colL_len {L : List (List Int)} {c : Nat} : (colL L c).length = L.length := by simp [colL]
theorem colL_next {L : List (List Int)} {c i : Nat} {r : List Int} (h : L[i]? = some r) : colL (L.take (i + 1)) c = colL (L.take i) c ++ [r.getD c 0] := map_take_succ _ h
theorem colL_rect {p : Int} {k : Nat} {L : List (List Int)} (h : Rect p k L) {c : Nat} (hc : c < k) : ∀ x ∈ colL L c, 0 ≤ x ∧ x < p := fun x hx => by
  obtain ⟨r, hr, rfl⟩ := List.mem_map.1 hx
  have h1 := h r hr
  rw [List.getD_eq_getElem?_getD, List.getElem?_eq_getElem (by omega)]
  exact h1.2 _ (List.getElem_mem _)
theorem trL_rect {p : Int} {k : Nat} {L : List (List Int)} (h : Rect p k L) : Rect p L.length (trL L k) := fun r hr => by
  obtain ⟨c, hc, rfl⟩ := List.mem_map.1 hr
  exact ⟨colL_len, colL_rect h (List.mem_range.1 hc)⟩
theorem range_at {k i : Nat} (h : i < k) : (List.range k)[i]? = some i := by rw [List.getElem?_range h]
section
variable {S : Ids} {H0 : AH}
theorem transposed {p : Int} {k : Nat} (hk : k ≤ 1000) {L : List (List Int)} (hLl : L.length ≤ 1000) (hL : Rect p k L) {a1 c1} (hs0 : KI.sl.Sl S H0 (.slice a1 L.length c1) L) : SpecM Try.prog S H0 141 [.agg #[.int .i64 p, .int .i64 k, .slice a1 L.length c1]] (MkMx p (L.length : Nat) (trL L k)) := by
  refine SpecM.of1 Try.func141 rfl (by kernel_rfl) rfl (fun H _ => ?_)
  have hs := hs0.up (S' := Low H.n) (H' := H)
  refine KW.build rfl rfl rfl rfl rfl (built_Matrix2 _ _) ?_
  refine KW.lpM rfl rfl (fun s : CpS => [(1, .pointer (some ⟨H.n, 0, some 0⟩)), (2, .pointer (some ⟨H.n + 1, 0, some 1⟩)), (3, .pointer (some ⟨H.n + 2, 0, some 2⟩)), (15, .int .i64 k), (16, .int .i64 s.i)]) (fun s => s.S) (fun s => s.A) (fun s => [(H.n, ⟨28, true, [.int .i64 p, .int .i64 k, .slice a1 L.length c1]⟩), (H.n + 1, ⟨28, true, [.int .i64 0, .int .i64 0, .slice none 0 0]⟩), (H.n + 2, ⟨28, true, [.int .i64 p, .int .i64 L.length, s.l]⟩)] ++ s.tail) (fun s => CqI (colL L) (List.range k) H H (Low H.n) s) (fun s => k - s.i) (⟨0, Low H.n, H, fun _ => False, [], .slice none 0 0, []⟩) (⟨RwI.start, .inl ⟨rfl, rfl, rfl, rfl⟩⟩) ⟨rfl, rfl, rfl, rfl, rfl, trivial⟩ rfl rfl rfl (fun s hi bE n => ?_)
  obtain ⟨i, S1, A1, V, cs, l, tail⟩ := s
  obtain ⟨hq, hform⟩ := hi
  simp only at hq hform
  haveI : Stp (Low H.n) H S1 A1 := ⟨hq.old⟩
  have hle := hq.le
  have hcl := hq.b.len
  rw [List.length_map, List.length_take] at hcl
  simp only [List.length_range] at hle hcl
  have hs1 := hs.up (S' := S1) (H' := A1)
  rcases hform with ⟨hi0, e1, e2, e3⟩ | ⟨hi0, o, e1, e2⟩
  case' inl => subst e1 e2 e3
  case' inr => subst e1 e2
  all_goals
    refine KW.cnd rfl rfl (fun j1 => ?gin) (fun j1 => ?gout)
    case gin =>
      have j1 : (i : Int) < (k : Int) := j1
      refine KW.lit rfl rfl rfl rfl rfl rfl rfl rfl rfl rfl [] rfl rfl (fun v hv => by simp at hv) rfl ?_
      first
        | (refine KW.lpM rfl rfl (fun q : Nat × Nat => [(1, .pointer (some ⟨H.n, 0, some 0⟩)), (2, .pointer (some ⟨H.n + 1, 0, some 1⟩)), (3, .pointer (some ⟨H.n + 2, 0, some 2⟩)), (4, .int .i64 i), (5, .slice (some ⟨q.2, 0, some 1⟩) (colL (L.take q.1) i).length (colL (L.take q.1) i).length), (15, .int .i64 k), (16, .int .i64 i), (21, .slice a1 L.length c1), (22, .int .i64 L.length), (23, .int .i64 q.1)]) (fun _ => S1) (fun _ => A1) (fun q => [(H.n, ⟨28, true, [.int .i64 p, .int .i64 k, .slice a1 L.length c1]⟩), (H.n + 1, ⟨28, true, [.int .i64 0, .int .i64 0, .slice none 0 0]⟩), (H.n + 2, ⟨28, true, [.int .i64 p, .int .i64 L.length, .slice none 0 0]⟩), (q.2, ⟨_, true, (colL (L.take q.1) i).map (Value.int .i64)⟩)]) (fun q => q.1 ≤ L.length) (fun q => L.length - q.1) (0, _) (by simp) ⟨rfl, rfl, rfl, rfl, rfl, rfl, rfl, rfl, rfl, rfl, trivial⟩ rfl rfl rfl (fun q hj bE n => ?_))
        | (refine KW.lpM rfl rfl (fun q : Nat × Nat => [(1, .pointer (some ⟨H.n, 0, some 0⟩)), (2, .pointer (some ⟨H.n + 1, 0, some 1⟩)), (3, .pointer (some ⟨H.n + 2, 0, some 2⟩)), (4, .int .i64 i), (5, .slice (some ⟨q.2, 0, some 1⟩) (colL (L.take q.1) i).length (colL (L.take q.1) i).length), (15, .int .i64 k), (16, .int .i64 i), (21, .slice a1 L.length c1), (22, .int .i64 L.length), (23, .int .i64 q.1)]) (fun _ => S1) (fun _ => A1) (fun q => [(H.n, ⟨28, true, [.int .i64 p, .int .i64 k, .slice a1 L.length c1]⟩), (H.n + 1, ⟨28, true, [.int .i64 0, .int .i64 0, .slice none 0 0]⟩), (H.n + 2, ⟨28, true, [.int .i64 p, .int .i64 L.length, .slice (some ⟨o, 0, some 1⟩) i i]⟩), (o, ⟨32, true, cs⟩), (q.2, ⟨_, true, (colL (L.take q.1) i).map (Value.int .i64)⟩)]) (fun q => q.1 ≤ L.length) (fun q => L.length - q.1) (0, _) (by simp) ⟨rfl, rfl, rfl, rfl, rfl, rfl, rfl, rfl, rfl, rfl, trivial⟩ rfl rfl rfl (fun q hj bE n => ?_))
      obtain ⟨j, o2⟩ := q
      simp only at hj
      have hjl : (colL (L.take j) i).length = j := by rw [colL_len, List.length_take]; omega
      refine KW.cnd rfl rfl (fun j2 => ?gin2) (fun j2 => ?gout2)
      case gin2 =>
        have j2 : (j : Int) < (L.length : Int) := j2
        refine KW.getL hs1 rfl rfl rfl rfl rfl rfl rfl rfl rfl rfl rfl rfl rfl rfl rfl rfl (by omega) (j2) (fun y ay cy hy hsy => ?_)
        have hy : L[j]? = some y := hy
        have hym := hL y (List.mem_of_getElem? hy)
        refine KW.getI hsy rfl rfl rfl rfl rfl rfl rfl rfl rfl rfl rfl rfl rfl rfl rfl rfl (by omega) (by omega) (fun z hz => ?_)
        have hz : y[i]? = some z := hz
        have hzd : y.getD i 0 = z := getD_of hz
        have enx := colL_next (c := i) hy
        rw [hzd] at enx
        first
          | (refine KW.app1 (xs := (colL (L.take j) i).map (Value.int .i64)) (v := .int .i64 z) 3 4 rfl rfl rfl rfl rfl rfl rfl rfl rfl rfl rfl rfl rfl rfl rfl rfl rfl rfl rfl rfl rfl rfl rfl (by simp) (by show (_ + 1) * 8 ≤ _; simp only; omega) (by simp only; omega) ?_
             exact KW.nxt rfl rfl (fun H' g => ⟨(j + 1, _), by simp only; omega, by simp only; omega, ⟨rfl, rfl, rfl, rfl, by simp only [enx, List.length_append, List.length_singleton]; rfl, rfl, rfl, rfl, rfl, congrArg (Value.int .i64) (inc64 (by omega)), trivial⟩, g.eqT (by simp only [enx, List.map_append]; rfl)⟩))
          | (refine KW.app1 (xs := (colL (L.take j) i).map (Value.int .i64)) (v := .int .i64 z) 4 5 rfl rfl rfl rfl rfl rfl rfl rfl rfl rfl rfl rfl rfl rfl rfl rfl rfl rfl rfl rfl rfl rfl rfl (by simp) (by show (_ + 1) * 8 ≤ _; simp only; omega) (by simp only; omega) ?_
             exact KW.nxt rfl rfl (fun H' g => ⟨(j + 1, _), by simp only; omega, by simp only; omega, ⟨rfl, rfl, rfl, rfl, by simp only [enx, List.length_append, List.length_singleton]; rfl, rfl, rfl, rfl, rfl, congrArg (Value.int .i64) (inc64 (by omega)), trivial⟩, g.eqT (by simp only [enx, List.map_append]; rfl)⟩))
      case gout2 =>
        obtain rfl : j = L.length := by have j2 : ¬ (j : Int) < (L.length : Int) := j2; omega
        rw [List.take_of_length_le (Nat.le_refl _)]
        refine KW.fact (fun _ g => g.nle (H1 := H)) (fun hn0 => ?_)
        first
          | (refine KW.freeze 4 rfl (fun A' S' hnA hSA stA hmA hoA hnS hlow => ?_)
             have hoH : H.n ≤ o2 := by
               rcases Nat.lt_or_ge o2 H.n with h | h
               · exact absurd (hq.old o2 h).1 hnS
               · exact h
             refine KW.app1 (xs := cs) (v := .slice (some ⟨o2, 0, some 1⟩) (colL L i).length (colL L i).length) 3 4 rfl rfl rfl rfl rfl rfl rfl rfl rfl rfl rfl rfl rfl rfl rfl rfl rfl rfl rfl rfl rfl rfl rfl (by omega) (by show (_ + 1) * 24 ≤ _; omega) (by omega) ?_
             exact KW.nxt rfl rfl (fun H' g => ⟨⟨i + 1, S', A', _, _, _, _⟩, ⟨hq.nextX (o' := 0) stA.st (X := fun id => id = o2) (fun id e => by subst e; exact ⟨(hSA _).2 (.inr rfl), hoH, hnS⟩) (show (List.range k)[i]? = some i from range_at (by omega)) (row_ml hmA), .inr ⟨by simp only; omega, _, rfl, rfl⟩⟩, by simp only; omega, ⟨rfl, rfl, rfl, rfl, congrArg (Value.int .i64) (inc64 (by omega)), trivial⟩, g⟩))
          | (refine KW.freeze 3 rfl (fun A' S' hnA hSA stA hmA hoA hnS hlow => ?_)
             have hoH : H.n ≤ o2 := by
               rcases Nat.lt_or_ge o2 H.n with h | h
               · exact absurd (hq.old o2 h).1 hnS
               · exact h
             refine KW.app0 (v := .slice (some ⟨o2, 0, some 1⟩) (colL L i).length (colL L i).length) 3 rfl rfl rfl rfl rfl rfl rfl rfl rfl rfl rfl rfl rfl rfl rfl rfl rfl rfl rfl rfl rfl rfl (by decide) ?_
             subst hi0
             exact KW.nxt rfl rfl (fun H' g => ⟨⟨1, S', A', _, _, _, _⟩, ⟨hq.nextX (o' := 0) stA.st (X := fun id => id = o2) (fun id e => by subst e; exact ⟨(hSA _).2 (.inr rfl), hoH, hnS⟩) (show (List.range k)[0]? = some 0 from range_at (by omega)) (row_ml hmA), .inr ⟨by simp only; omega, _, rfl, rfl⟩⟩, by simp only; omega, ⟨rfl, rfl, rfl, rfl, rfl, trivial⟩, g⟩))
    case gout =>
      have j1 : ¬ (i : Int) < (k : Int) := j1
      have he : i = k := by omega
      have el : (trL L k).length = k := trL_len
      refine KW.retM1 rfl rfl rfl rfl (fun H1 g => ?_)
      first
        | (have h0 : k = 0 := by omega
           subst h0
           exact ⟨none, 0, rfl, .inl ⟨rfl, _, _, rfl, fun _ => rfl⟩⟩)
        | (refine ⟨_, _, by rw [el, he]; rfl, ?_⟩
           have hm := ((⟨hq.le, hq.old, hq.b, hq.v⟩ : RwI (colL L) (List.range k) H (Low H.n) H ⟨i, S1, A1, V, cs, o⟩).ml (by rw [List.length_range]; exact he) g (j := 3) rfl (g.ge (H1 := H) (j := 3) rfl)).to (KLe.row (KLe.refl KI))
           rw [List.length_range] at hm
           rw [el]
           exact hm)
end
end Go.Proofs.Ytmkpfllbmdahkaa.Am
/- Contracts: the columns of a matrix of the reference; products of matrices. Each holds under its own conditions. -/
set_option linter.unusedVariables false
set_option linter.unusedSimpArgs false
set_option maxRecDepth 20000
namespace Go.Proofs.Ytmkpfllbmdahkaa.Am
open Go Go.RowKit Go.Proofs Go.Proofs.Ytmkpfllbmdahkaa.Pl
section
variable {S : Ids} {H0 : AH}
theorem l03Turned {p : Int} {k : Nat} (hk : k ≤ 1000) {L : List (List Int)} (hLl : L.length ≤ 1000) (hL : Rect p k L) {id kk : Nat} {a1 c1} (hv0 : Has3 S H0 id kk [.int .i64 p, .int .i64 k, .slice a1 L.length c1]) (hs0 : KI.sl.Sl S H0 (.slice a1 L.length c1) L) : SpecM Try.prog S H0 202 [.pointer (some ⟨id, kk, none⟩)] (MkMx p (L.length : Nat) (trL L k)) := by
  refine SpecM.of1 Try.func202 rfl (by kernel_rfl) rfl (fun H _ => ?_)
  have hs := hs0.up (S' := Low H.n) (H' := H)
  have hv := hv0.up (S' := Low H.n) (H' := H)
  refine KW.ldF 0 hv rfl rfl rfl rfl rfl rfl rfl rfl rfl ?_
  refine KW.ldF 2 hv rfl rfl rfl rfl rfl rfl rfl rfl rfl ?_
  refine KW.build rfl rfl rfl rfl rfl (built_Matrix2 _ _) ?_
  refine KW.lpM rfl rfl (fun s : CpS => [(0, .pointer (some ⟨id, kk, none⟩)), (2, .pointer (some ⟨H.n, 0, some 0⟩)), (3, .pointer (some ⟨H.n + 1, 0, some 1⟩)), (4, .int .i64 s.i)]) (fun s => s.S) (fun s => s.A) (fun s => [(H.n, ⟨28, true, [.int .i64 0, .int .i64 0, .slice none 0 0]⟩), (H.n + 1, ⟨28, true, [.int .i64 p, .int .i64 L.length, s.l]⟩)] ++ s.tail) (fun s => CqI (colL L) (List.range k) H H (Low H.n) s) (fun s => k - s.i) (⟨0, Low H.n, H, fun _ => False, [], .slice none 0 0, []⟩) (⟨RwI.start, .inl ⟨rfl, rfl, rfl, rfl⟩⟩) ⟨rfl, rfl, rfl, rfl, trivial⟩ rfl rfl rfl (fun s hi bE n => ?_)
  obtain ⟨i, S1, A1, V, cs, l, tail⟩ := s
  obtain ⟨hq, hform⟩ := hi
  simp only at hq hform
  haveI : Stp (Low H.n) H S1 A1 := ⟨hq.old⟩
  have hle := hq.le
  have hcl := hq.b.len
  rw [List.length_map, List.length_take] at hcl
  simp only [List.length_range] at hle hcl
  have hs1 := hs.up (S' := S1) (H' := A1)
  have hv1 := hv.up (S' := S1) (H' := A1)
  rcases hform with ⟨hi0, e1, e2, e3⟩ | ⟨hi0, o, e1, e2⟩
  case' inl => subst e1 e2 e3
  case' inr => subst e1 e2
  all_goals
    refine KW.ldF 1 hv1 rfl rfl rfl rfl rfl rfl rfl rfl rfl ?_
    refine KW.cnd rfl rfl (fun j1 => ?gin) (fun j1 => ?gout)
    case gin =>
      have j1 : (i : Int) < (k : Int) := j1
      refine KW.lit rfl rfl rfl rfl rfl rfl rfl rfl rfl rfl [] rfl rfl (fun v hv => by simp at hv) rfl ?_
      first
        | (refine KW.lpM rfl rfl (fun q : Nat × Nat => [(0, .pointer (some ⟨id, kk, none⟩)), (2, .pointer (some ⟨H.n, 0, some 0⟩)), (3, .pointer (some ⟨H.n + 1, 0, some 1⟩)), (4, .int .i64 i), (5, .slice (some ⟨q.2, 0, some 1⟩) (colL (L.take q.1) i).length (colL (L.take q.1) i).length), (6, .int .i64 q.1)]) (fun _ => S1) (fun _ => A1) (fun q => [(H.n, ⟨28, true, [.int .i64 0, .int .i64 0, .slice none 0 0]⟩), (H.n + 1, ⟨28, true, [.int .i64 p, .int .i64 L.length, .slice none 0 0]⟩), (q.2, ⟨_, true, (colL (L.take q.1) i).map (Value.int .i64)⟩)]) (fun q => q.1 ≤ L.length) (fun q => L.length - q.1) (0, _) (by simp) ⟨rfl, rfl, rfl, rfl, rfl, rfl, trivial⟩ rfl rfl rfl (fun q hj bE n => ?_))
        | (refine KW.lpM rfl rfl (fun q : Nat × Nat => [(0, .pointer (some ⟨id, kk, none⟩)), (2, .pointer (some ⟨H.n, 0, some 0⟩)), (3, .pointer (some ⟨H.n + 1, 0, some 1⟩)), (4, .int .i64 i), (5, .slice (some ⟨q.2, 0, some 1⟩) (colL (L.take q.1) i).length (colL (L.take q.1) i).length), (6, .int .i64 q.1)]) (fun _ => S1) (fun _ => A1) (fun q => [(H.n, ⟨28, true, [.int .i64 0, .int .i64 0, .slice none 0 0]⟩), (H.n + 1, ⟨28, true, [.int .i64 p, .int .i64 L.length, .slice (some ⟨o, 0, some 1⟩) i i]⟩), (o, ⟨32, true, cs⟩), (q.2, ⟨_, true, (colL (L.take q.1) i).map (Value.int .i64)⟩)]) (fun q => q.1 ≤ L.length) (fun q => L.length - q.1) (0, _) (by simp) ⟨rfl, rfl, rfl, rfl, rfl, rfl, trivial⟩ rfl rfl rfl (fun q hj bE n => ?_))
      obtain ⟨j, o2⟩ := q
      simp only at hj
      have hjl : (colL (L.take j) i).length = j := by rw [colL_len, List.length_take]; omega
      refine KW.ldF 2 hv1 rfl rfl rfl rfl rfl rfl rfl rfl rfl ?_
      refine KW.cnd rfl rfl (fun j2 => ?gin2) (fun j2 => ?gout2)
      case gin2 =>
        have j2 : (j : Int) < (L.length : Int) := j2
        refine KW.ldF 2 hv1 rfl rfl rfl rfl rfl rfl rfl rfl rfl ?_
        refine KW.getL hs1 rfl rfl rfl rfl rfl rfl rfl rfl rfl rfl rfl rfl rfl rfl rfl rfl (by omega) (j2) (fun y ay cy hy hsy => ?_)
        have hy : L[j]? = some y := hy
        have hym := hL y (List.mem_of_getElem? hy)
        refine KW.getI hsy rfl rfl rfl rfl rfl rfl rfl rfl rfl rfl rfl rfl rfl rfl rfl rfl (by omega) (by omega) (fun z hz => ?_)
        have hz : y[i]? = some z := hz
        have hzd : y.getD i 0 = z := getD_of hz
        have enx := colL_next (c := i) hy
        rw [hzd] at enx
        first
          | (refine KW.app1 (xs := (colL (L.take j) i).map (Value.int .i64)) (v := .int .i64 z) 2 3 rfl rfl rfl rfl rfl rfl rfl rfl rfl rfl rfl rfl rfl rfl rfl rfl rfl rfl rfl rfl rfl rfl rfl (by simp) (by show (_ + 1) * 8 ≤ _; simp only; omega) (by simp only; omega) ?_
             exact KW.nxt rfl rfl (fun H' g => ⟨(j + 1, _), by simp only; omega, by simp only; omega, ⟨rfl, rfl, rfl, rfl, by simp only [enx, List.length_append, List.length_singleton]; rfl, congrArg (Value.int .i64) (inc64 (by omega)), trivial⟩, g.eqT (by simp only [enx, List.map_append]; rfl)⟩))
          | (refine KW.app1 (xs := (colL (L.take j) i).map (Value.int .i64)) (v := .int .i64 z) 3 4 rfl rfl rfl rfl rfl rfl rfl rfl rfl rfl rfl rfl rfl rfl rfl rfl rfl rfl rfl rfl rfl rfl rfl (by simp) (by show (_ + 1) * 8 ≤ _; simp only; omega) (by simp only; omega) ?_
             exact KW.nxt rfl rfl (fun H' g => ⟨(j + 1, _), by simp only; omega, by simp only; omega, ⟨rfl, rfl, rfl, rfl, by simp only [enx, List.length_append, List.length_singleton]; rfl, congrArg (Value.int .i64) (inc64 (by omega)), trivial⟩, g.eqT (by simp only [enx, List.map_append]; rfl)⟩))
      case gout2 =>
        obtain rfl : j = L.length := by have j2 : ¬ (j : Int) < (L.length : Int) := j2; omega
        rw [List.take_of_length_le (Nat.le_refl _)]
        first
          | (refine KW.freeze 3 rfl (fun A' S' hnA hSA stA hmA hoA hnS hlow => ?_)
             have hoH : H.n ≤ o2 := by
               rcases Nat.lt_or_ge o2 H.n with h | h
               · exact absurd (hq.old o2 h).1 hnS
               · exact h
             refine KW.app1 (xs := cs) (v := .slice (some ⟨o2, 0, some 1⟩) (colL L i).length (colL L i).length) 2 3 rfl rfl rfl rfl rfl rfl rfl rfl rfl rfl rfl rfl rfl rfl rfl rfl rfl rfl rfl rfl rfl rfl rfl (by omega) (by show (_ + 1) * 24 ≤ _; omega) (by omega) ?_
             exact KW.nxt rfl rfl (fun H' g => ⟨⟨i + 1, S', A', _, _, _, _⟩, ⟨hq.nextX (o' := 0) stA.st (X := fun id => id = o2) (fun id e => by subst e; exact ⟨(hSA _).2 (.inr rfl), hoH, hnS⟩) (show (List.range k)[i]? = some i from range_at (by omega)) (row_ml hmA), .inr ⟨by simp only; omega, _, rfl, rfl⟩⟩, by simp only; omega, ⟨rfl, rfl, rfl, congrArg (Value.int .i64) (inc64 (by omega)), trivial⟩, g⟩))
          | (refine KW.freeze 2 rfl (fun A' S' hnA hSA stA hmA hoA hnS hlow => ?_)
             have hoH : H.n ≤ o2 := by
               rcases Nat.lt_or_ge o2 H.n with h | h
               · exact absurd (hq.old o2 h).1 hnS
               · exact h
             refine KW.app0 (v := .slice (some ⟨o2, 0, some 1⟩) (colL L i).length (colL L i).length) 2 rfl rfl rfl rfl rfl rfl rfl rfl rfl rfl rfl rfl rfl rfl rfl rfl rfl rfl rfl rfl rfl rfl (by decide) ?_
             subst hi0
             exact KW.nxt rfl rfl (fun H' g => ⟨⟨1, S', A', _, _, _, _⟩, ⟨hq.nextX (o' := 0) stA.st (X := fun id => id = o2) (fun id e => by subst e; exact ⟨(hSA _).2 (.inr rfl), hoH, hnS⟩) (show (List.range k)[0]? = some 0 from range_at (by omega)) (row_ml hmA), .inr ⟨by simp only; omega, _, rfl, rfl⟩⟩, by simp only; omega, ⟨rfl, rfl, rfl, rfl, trivial⟩, g⟩))
    case gout =>
      have j1 : ¬ (i : Int) < (k : Int) := j1
      have he : i = k := by omega
      have el : (trL L k).length = k := trL_len
      refine KW.retM1 rfl rfl rfl rfl (fun H1 g => ?_)
      first
        | (have h0 : k = 0 := by omega
           subst h0
           exact ⟨none, 0, rfl, .inl ⟨rfl, _, _, rfl, fun _ => rfl⟩⟩)
        | (refine ⟨_, _, by rw [el, he]; rfl, ?_⟩
           have hm := ((⟨hq.le, hq.old, hq.b, hq.v⟩ : RwI (colL L) (List.range k) H (Low H.n) H ⟨i, S1, A1, V, cs, o⟩).ml (by rw [List.length_range]; exact he) g (j := 2) rfl (g.ge (H1 := H) (j := 2) rfl)).to (KLe.row (KLe.refl KI))
           rw [List.length_range] at hm
           rw [el]
           exact hm)
end
/-- The product of rows and the columns C. -/
def prodL (p : Int) (L C : List (List Int)) : List (List Int) := L.map fun r => C.map (dotS p r)
/-- A matrix that has been made and is one's own. -/
def MkMo (p c : Int) (xs : List (List Int)) (n : Nat) (v : Value) (H1 : AH) : Prop := ∃ a m, v = .agg #[.int .i64 p, .int .i64 c, .slice a xs.length m] ∧ KI.ml.Ml (New n H1.n) H1 (.slice a xs.length m) xs
section
variable {S : Ids} {H0 : AH}
theorem productOf {p : Int} {k k2 : Nat} {L M : List (List Int)} (hm : OkMat p k L) (hn : OkMat p k2 M) (hkM : M.length = k) (hBL : B_Int64SS L) (hBM : B_Int64SS M) {a1 c1 a2 c2} (hs0 : KI.sl.Sl S H0 (.slice a1 L.length c1) L) (hs2 : KI.sl.Sl S H0 (.slice a2 M.length c2) M) : SpecM Try.prog S H0 48 [.agg #[.int .i64 p, .int .i64 k, .slice a1 L.length c1], .agg #[.int .i64 p, .int .i64 k2, .slice a2 M.length c2]] (fun n v H1 => ∃ v', v = .tuple #[v', .int .i64 0] ∧ MkMo p k2 (prodL p L (trL M k2)) n v' H1) := by
  have hp := hm.pr
  have hpI : I64 p := by have := hp.1; have := hp.2.1; unfold I64; omega
  have hk12 := hm.c1
  have hk212 := hn.c1
  have hLl := hm.len
  have hMl := hn.len
  have hRL : Rect p k L := hm.rect rfl
  have hRM : Rect p k2 M := hn.rect rfl
  refine SpecM.of1 Try.func48 rfl (by kernel_rfl) rfl (fun H _ => ?_)
  refine KW.callE rfl rfl rfl rfl rfl (validMatrix p k hpI hBL hs0.up) (fun _ _ => ?_)
  rw [tv_true hm]
  refine KW.tF rfl rfl (by first | (simp; done) | decide) ?_
  refine KW.callE rfl rfl rfl rfl rfl (validMatrix p k2 hpI hBM hs2.up) (fun _ _ => ?_)
  rw [tv_true hn]
  refine KW.cF rfl rfl (by first | (simp; done) | decide) ?_
  refine KW.tF rfl rfl (by first | (simp; done) | decide) ?_
  refine KW.cF rfl rfl (by rw [hkM]; simp) ?_
  refine KW.build rfl rfl rfl rfl rfl (built_Matrix2 _ _) ?_
  refine KW.callN1 rfl rfl rfl rfl rfl (transposed (p := p) (k := k2) (by omega) (by omega) hRM hs2.up) (fun v HT ST mT _ _ hv => ?_)
  obtain ⟨a3, c3, rfl, hT⟩ := hv
  have hCl : (trL M k2).length = k2 := trL_len
  have hRC : Rect p M.length (trL M k2) := trL_rect hRM
  generalize trL M k2 = C at *
  have hsT := hs0.up (S' := ST) (H' := HT)
  refine KW.lpM rfl rfl (fun s : CpS => [(2, .pointer (some ⟨H.n, 0, some 0⟩)), (3, .pointer (some ⟨H.n + 1, 0, some 1⟩)), (4, .pointer (some ⟨H.n + 2, 0, some 2⟩)), (5, .int .i64 0), (6, .pointer (some ⟨HT.n, 0, some 3⟩)), (7, .slice a3 C.length c3), (45, .slice a1 L.length c1), (46, .int .i64 L.length), (47, .int .i64 s.i)]) (fun s => s.S) (fun s => s.A) (fun s => [(H.n, ⟨28, true, [.int .i64 p, .int .i64 k, .slice a1 L.length c1]⟩), (H.n + 1, ⟨28, true, [.int .i64 p, .int .i64 k2, .slice a2 M.length c2]⟩), (H.n + 2, ⟨28, true, [.int .i64 0, .int .i64 0, .slice none 0 0]⟩), (HT.n, ⟨28, true, [.int .i64 p, .int .i64 k2, s.l]⟩)] ++ s.tail) (fun s => CqI (fun r => C.map (dotS p r)) L H HT ST s) (fun s => L.length - s.i) (⟨0, ST, HT, fun _ => False, [], .slice none 0 0, []⟩) (⟨RwI.start, .inl ⟨rfl, rfl, rfl, rfl⟩⟩) ⟨rfl, rfl, rfl, rfl, rfl, rfl, rfl, rfl, rfl, trivial⟩ rfl rfl rfl (fun s hi bE n => ?_)
  obtain ⟨i, S1, A1, V, cs, l, tail⟩ := s
  obtain ⟨hq, hform⟩ := hi
  simp only at hq hform
  haveI : Stp ST HT S1 A1 := ⟨hq.old⟩
  have hle := hq.le
  have hcl := hq.b.len
  rw [List.length_map, List.length_take] at hcl
  simp only at hle hcl
  have hs1 := hsT.up (S' := S1) (H' := A1)
  have hC1 := hT.up (S' := S1) (H' := A1)
  rcases hform with ⟨hi0, e1, e2, e3⟩ | ⟨hi0, o, e1, e2⟩
  case' inl => subst e1 e2 e3
  case' inr => subst e1 e2
  all_goals
    refine KW.cnd rfl rfl (fun j1 => ?gin) (fun j1 => ?gout)
    case gin =>
      have j1 : (i : Int) < (L.length : Int) := j1
      refine KW.getL hs1 rfl rfl rfl rfl rfl rfl rfl rfl rfl rfl rfl rfl rfl rfl rfl rfl (by omega) (j1) (fun y ay cy hy hsy => ?_)
      have hy : L[i]? = some y := hy
      have hym := hRL y (List.mem_of_getElem? hy)
      have hye : Elems p y := fun x hx => by have := hym.2 x hx; omega
      refine KW.lit rfl rfl rfl rfl rfl rfl rfl rfl rfl rfl [] rfl rfl (fun v hv => by simp at hv) rfl ?_
      first
        | (refine KW.lpM rfl rfl (fun q : Nat × Nat => [(2, .pointer (some ⟨H.n, 0, some 0⟩)), (3, .pointer (some ⟨H.n + 1, 0, some 1⟩)), (4, .pointer (some ⟨H.n + 2, 0, some 2⟩)), (5, .int .i64 0), (6, .pointer (some ⟨HT.n, 0, some 3⟩)), (7, .slice a3 C.length c3), (9, .slice ay y.length cy), (10, .slice (some ⟨q.2, 0, some 1⟩) ((C.take q.1).map (dotS p y)).length ((C.take q.1).map (dotS p y)).length), (45, .slice a1 L.length c1), (46, .int .i64 L.length), (47, .int .i64 i), (52, .slice a3 C.length c3), (53, .int .i64 C.length), (54, .int .i64 q.1)]) (fun _ => S1) (fun _ => A1) (fun q => [(H.n, ⟨28, true, [.int .i64 p, .int .i64 k, .slice a1 L.length c1]⟩), (H.n + 1, ⟨28, true, [.int .i64 p, .int .i64 k2, .slice a2 M.length c2]⟩), (H.n + 2, ⟨28, true, [.int .i64 0, .int .i64 0, .slice none 0 0]⟩), (HT.n, ⟨28, true, [.int .i64 p, .int .i64 k2, .slice (some ⟨o, 0, some 1⟩) i i]⟩), (o, ⟨32, true, cs⟩), (q.2, ⟨_, true, ((C.take q.1).map (dotS p y)).map (Value.int .i64)⟩)]) (fun q => q.1 ≤ C.length) (fun q => C.length - q.1) (0, _) (by simp) ⟨rfl, rfl, rfl, rfl, rfl, rfl, rfl, rfl, rfl, rfl, rfl, rfl, rfl, rfl, trivial⟩ rfl rfl rfl (fun q hj bE n => ?_))
        | (refine KW.lpM rfl rfl (fun q : Nat × Nat => [(2, .pointer (some ⟨H.n, 0, some 0⟩)), (3, .pointer (some ⟨H.n + 1, 0, some 1⟩)), (4, .pointer (some ⟨H.n + 2, 0, some 2⟩)), (5, .int .i64 0), (6, .pointer (some ⟨HT.n, 0, some 3⟩)), (7, .slice a3 C.length c3), (9, .slice ay y.length cy), (10, .slice (some ⟨q.2, 0, some 1⟩) ((C.take q.1).map (dotS p y)).length ((C.take q.1).map (dotS p y)).length), (45, .slice a1 L.length c1), (46, .int .i64 L.length), (47, .int .i64 i), (52, .slice a3 C.length c3), (53, .int .i64 C.length), (54, .int .i64 q.1)]) (fun _ => S1) (fun _ => A1) (fun q => [(H.n, ⟨28, true, [.int .i64 p, .int .i64 k, .slice a1 L.length c1]⟩), (H.n + 1, ⟨28, true, [.int .i64 p, .int .i64 k2, .slice a2 M.length c2]⟩), (H.n + 2, ⟨28, true, [.int .i64 0, .int .i64 0, .slice none 0 0]⟩), (HT.n, ⟨28, true, [.int .i64 p, .int .i64 k2, .slice none 0 0]⟩), (q.2, ⟨_, true, ((C.take q.1).map (dotS p y)).map (Value.int .i64)⟩)]) (fun q => q.1 ≤ C.length) (fun q => C.length - q.1) (0, _) (by simp) ⟨rfl, rfl, rfl, rfl, rfl, rfl, rfl, rfl, rfl, rfl, rfl, rfl, rfl, rfl, trivial⟩ rfl rfl rfl (fun q hj bE n => ?_))
      obtain ⟨j, o2⟩ := q
      simp only at hj
      have hjl : ((C.take j).map (dotS p y)).length = j := by rw [List.length_map, List.length_take]; omega
      refine KW.cnd rfl rfl (fun j2 => ?gin2) (fun j2 => ?gout2)
      case gin2 =>
        have j2 : (j : Int) < (C.length : Int) := j2
        refine KW.getL hC1 rfl rfl rfl rfl rfl rfl rfl rfl rfl rfl rfl rfl rfl rfl rfl rfl (by omega) (j2) (fun z az cz hz hsz => ?_)
        have hz : C[j]? = some z := hz
        have hzm := hRC z (List.mem_of_getElem? hz)
        refine KW.callE rfl rfl rfl rfl rfl (dot p hp (by omega) (by omega) hye (fun x hx => by have := hzm.2 x hx; omega) hsy hsz) (fun _ _ => ?_)
        have enx : (C.take (j + 1)).map (dotS p y) = (C.take j).map (dotS p y) ++ [dotS p y z] := map_take_succ _ hz
        first
          | (refine KW.app1 (xs := ((C.take j).map (dotS p y)).map (Value.int .i64)) (v := .int .i64 (dotS p y z)) 5 6 rfl rfl rfl rfl rfl rfl rfl rfl rfl rfl rfl rfl rfl rfl rfl rfl rfl rfl rfl rfl rfl rfl rfl (by simp) (by show (_ + 1) * 8 ≤ _; simp only; omega) (by simp only; omega) ?_
             exact KW.nxt rfl rfl (fun H' g => ⟨(j + 1, _), by simp only; omega, by simp only; omega, ⟨rfl, rfl, rfl, rfl, rfl, rfl, rfl, by simp only [enx, List.length_append, List.length_singleton]; rfl, rfl, rfl, rfl, rfl, rfl, congrArg (Value.int .i64) (inc64 (by omega)), trivial⟩, g.eqT (by simp only [enx, List.map_append]; rfl)⟩))
          | (refine KW.app1 (xs := ((C.take j).map (dotS p y)).map (Value.int .i64)) (v := .int .i64 (dotS p y z)) 4 5 rfl rfl rfl rfl rfl rfl rfl rfl rfl rfl rfl rfl rfl rfl rfl rfl rfl rfl rfl rfl rfl rfl rfl (by simp) (by show (_ + 1) * 8 ≤ _; simp only; omega) (by simp only; omega) ?_
             exact KW.nxt rfl rfl (fun H' g => ⟨(j + 1, _), by simp only; omega, by simp only; omega, ⟨rfl, rfl, rfl, rfl, rfl, rfl, rfl, by simp only [enx, List.length_append, List.length_singleton]; rfl, rfl, rfl, rfl, rfl, rfl, congrArg (Value.int .i64) (inc64 (by omega)), trivial⟩, g.eqT (by simp only [enx, List.map_append]; rfl)⟩))
      case gout2 =>
        obtain rfl : j = C.length := by have j2 : ¬ (j : Int) < (C.length : Int) := j2; omega
        rw [List.take_of_length_le (Nat.le_refl _)]
        first
          | (refine KW.freeze 5 rfl (fun A' S' hnA hSA stA hmA hoA hnS hlow => ?_)
             have hoH : H.n ≤ o2 := by
               rcases Nat.lt_or_ge o2 H.n with h | h
               · exact absurd (hq.old o2 ((inferInstance : On (Low H.n) H ST HT).st o2 h).1).1 hnS
               · exact h
             refine KW.app1 (xs := cs) (v := .slice (some ⟨o2, 0, some 1⟩) (C.map (dotS p y)).length (C.map (dotS p y)).length) 4 5 rfl rfl rfl rfl rfl rfl rfl rfl rfl rfl rfl rfl rfl rfl rfl rfl rfl rfl rfl rfl rfl rfl rfl (by omega) (by show (_ + 1) * 24 ≤ _; omega) (by omega) ?_
             exact KW.nxt rfl rfl (fun H' g => ⟨⟨i + 1, S', A', _, _, _, _⟩, ⟨hq.nextX (o' := 0) stA.st (X := fun id => id = o2) (fun id e => by subst e; exact ⟨(hSA _).2 (.inr rfl), hoH, hnS⟩) hy (row_ml hmA), .inr ⟨by simp only; omega, _, rfl, rfl⟩⟩, by simp only; omega, ⟨rfl, rfl, rfl, rfl, rfl, rfl, rfl, rfl, congrArg (Value.int .i64) (inc64 (by omega)), trivial⟩, g⟩))
          | (refine KW.freeze 4 rfl (fun A' S' hnA hSA stA hmA hoA hnS hlow => ?_)
             have hoH : H.n ≤ o2 := by
               rcases Nat.lt_or_ge o2 H.n with h | h
               · exact absurd (hq.old o2 ((inferInstance : On (Low H.n) H ST HT).st o2 h).1).1 hnS
               · exact h
             refine KW.app0 (v := .slice (some ⟨o2, 0, some 1⟩) (C.map (dotS p y)).length (C.map (dotS p y)).length) 4 rfl rfl rfl rfl rfl rfl rfl rfl rfl rfl rfl rfl rfl rfl rfl rfl rfl rfl rfl rfl rfl rfl (by decide) ?_
             subst hi0
             exact KW.nxt rfl rfl (fun H' g => ⟨⟨1, S', A', _, _, _, _⟩, ⟨hq.nextX (o' := 0) stA.st (X := fun id => id = o2) (fun id e => by subst e; exact ⟨(hSA _).2 (.inr rfl), hoH, hnS⟩) hy (row_ml hmA), .inr ⟨by simp only; omega, _, rfl, rfl⟩⟩, by simp only; omega, ⟨rfl, rfl, rfl, rfl, rfl, rfl, rfl, rfl, rfl, trivial⟩, g⟩))
    case gout =>
      have j1 : ¬ (i : Int) < (L.length : Int) := j1
      have he : i = L.length := by omega
      have el : (prodL p L C).length = L.length := by simp [prodL]
      refine KW.retM1 rfl rfl rfl rfl (fun H1 g => ?_)
      first
        | (have h0 : L = [] := List.eq_nil_of_length_eq_zero (by omega)
           subst h0
           exact ⟨_, rfl, none, 0, rfl, .inl ⟨rfl, _, _, rfl, fun _ => rfl⟩⟩)
        | (refine ⟨_, rfl, _, _, by rw [el, he]; rfl, ?_⟩
           have hm := (⟨hq.le, hq.old, hq.b, hq.v⟩ : RwI (fun r => C.map (dotS p r)) L H ST HT ⟨i, S1, A1, V, cs, o⟩).ml he g (j := 4) rfl (g.ge (H1 := H) (j := 4) rfl)
           rw [el]
           exact hm)
theorem specProductOf {p : Int} {k k2 : Nat} {L M : List (List Int)} (hm : OkMat p k L) (hn : OkMat p k2 M) (hkM : M.length = k) (hBL : B_Int64SS L) (hBM : B_Int64SS M) {a1 c1 a2 c2} (hs0 : KI.sl.Sl S H0 (.slice a1 L.length c1) L) (hs2 : KI.sl.Sl S H0 (.slice a2 M.length c2) M) : SpecM Try.prog S H0 124 [.agg #[.int .i64 p, .int .i64 k, .slice a1 L.length c1], .agg #[.int .i64 p, .int .i64 k2, .slice a2 M.length c2]] (fun n v H1 => ∃ v', v = .tuple #[v', .int .i64 0] ∧ MkMo p k2 (prodL p L (trL M k2)) n v' H1) := by
  have hp := hm.pr
  have hpI : I64 p := by have := hp.1; have := hp.2.1; unfold I64; omega
  have hk12 := hm.c1
  have hk212 := hn.c1
  have hLl := hm.len
  have hMl := hn.len
  have hRL : Rect p k L := hm.rect rfl
  have hRM : Rect p k2 M := hn.rect rfl
  refine SpecM.of1 Try.func124 rfl (by kernel_rfl) rfl (fun H _ => ?_)
  refine KW.callV1 rfl rfl rfl rfl rfl (fun H1 g _ => l03Ok (S := Low H1.n) (H0 := H1) p k hpI hBL (g.has3 (j := 0) rfl) hs0.up) (fun n8 m8 => ?_)
  rw [tv_true hm]
  refine KW.tF rfl rfl (by first | (simp; done) | decide) ?_
  refine KW.callV1 rfl rfl rfl rfl rfl (fun H1 g _ => l03Ok (S := Low H1.n) (H0 := H1) p k2 hpI hBM (g.has3 (j := 1) rfl) hs2.up) (fun n9 m9 => ?_)
  rw [tv_true hn]
  refine KW.cF rfl rfl (by first | (simp; done) | decide) ?_
  refine KW.tF rfl rfl (by first | (simp; done) | decide) ?_
  refine KW.cF rfl rfl (by rw [hkM]; simp) ?_
  refine KW.build rfl rfl rfl rfl rfl (built_Matrix2 _ _) ?_
  refine KW.callNV1 rfl rfl rfl rfl rfl (fun H1 g _ => l03Turned (S := Low H1.n) (H0 := H1) (p := p) (k := k2) (by omega) (by omega) hRM (g.has3 (j := 1) rfl) hs2.up) (fun v HT ST mT _ _ hv => ?_)
  obtain ⟨a3, c3, rfl, hT⟩ := hv
  have hCl : (trL M k2).length = k2 := trL_len
  have hRC : Rect p M.length (trL M k2) := trL_rect hRM
  have hMl' := hMl
  generalize hC0 : trL M k2 = C at *
  have hsT := hs0.up (S' := ST) (H' := HT)
  refine KW.lpM rfl rfl (fun s : CpS => [(2, .pointer (some ⟨H.n, 0, some 0⟩)), (3, .pointer (some ⟨H.n + 1, 0, some 1⟩)), (4, .pointer (some ⟨H.n + 2, 0, some 2⟩)), (5, .int .i64 0), (6, .pointer (some ⟨n9, 0, some 3⟩)), (7, .pointer (some ⟨HT.n, 0, some 4⟩)), (8, .int .i64 s.i)]) (fun s => s.S) (fun s => s.A) (fun s => [(H.n, ⟨28, true, [.int .i64 p, .int .i64 k, .slice a1 L.length c1]⟩), (H.n + 1, ⟨28, true, [.int .i64 p, .int .i64 k2, .slice a2 M.length c2]⟩), (H.n + 2, ⟨28, true, [.int .i64 0, .int .i64 0, .slice none 0 0]⟩), (n9, ⟨28, true, [.int .i64 p, .int .i64 k2, s.l]⟩), (HT.n, ⟨28, true, [.int .i64 p, .int .i64 M.length, .slice a3 C.length c3]⟩)] ++ s.tail) (fun s => CqI (fun r => C.map (dotS p r)) L H HT ST s) (fun s => L.length - s.i) (⟨0, ST, HT, fun _ => False, [], .slice none 0 0, []⟩) (⟨RwI.start, .inl ⟨rfl, rfl, rfl, rfl⟩⟩) ⟨rfl, rfl, rfl, rfl, rfl, rfl, rfl, trivial⟩ rfl rfl rfl (fun s hi bE n => ?_)
  obtain ⟨i, S1, A1, V, cs, l, tail⟩ := s
  obtain ⟨hq, hform⟩ := hi
  simp only at hq hform
  haveI : Stp ST HT S1 A1 := ⟨hq.old⟩
  have hle := hq.le
  have hcl := hq.b.len
  rw [List.length_map, List.length_take] at hcl
  simp only at hle hcl
  have hs1 := hsT.up (S' := S1) (H' := A1)
  have hC1 := hT.up (S' := S1) (H' := A1)
  rcases hform with ⟨hi0, e1, e2, e3⟩ | ⟨hi0, o, e1, e2⟩
  case' inl => subst e1 e2 e3
  case' inr => subst e1 e2
  all_goals
    refine KW.cnd rfl rfl (fun j1 => ?gin) (fun j1 => ?gout)
    case gin =>
      have j1 : (i : Int) < (L.length : Int) := j1
      obtain ⟨y, hy⟩ : ∃ y, L[i]? = some y := ⟨L[i]'(by omega), List.getElem?_eq_getElem (by omega)⟩
      have hym := hRL y (List.mem_of_getElem? hy)
      have hye : Elems p y := fun x hx => by have := hym.2 x hx; omega
      refine KW.lit rfl rfl rfl rfl rfl rfl rfl rfl rfl rfl [] rfl rfl (fun v hv => by simp at hv) rfl ?_
      first
        | (refine KW.lpM rfl rfl (fun q : Nat × Nat => [(2, .pointer (some ⟨H.n, 0, some 0⟩)), (3, .pointer (some ⟨H.n + 1, 0, some 1⟩)), (4, .pointer (some ⟨H.n + 2, 0, some 2⟩)), (5, .int .i64 0), (6, .pointer (some ⟨n9, 0, some 3⟩)), (7, .pointer (some ⟨HT.n, 0, some 4⟩)), (8, .int .i64 i), (9, .slice (some ⟨q.2, 0, some 1⟩) ((C.take q.1).map (dotS p y)).length ((C.take q.1).map (dotS p y)).length), (10, .int .i64 q.1)]) (fun _ => S1) (fun _ => A1) (fun q => [(H.n, ⟨28, true, [.int .i64 p, .int .i64 k, .slice a1 L.length c1]⟩), (H.n + 1, ⟨28, true, [.int .i64 p, .int .i64 k2, .slice a2 M.length c2]⟩), (H.n + 2, ⟨28, true, [.int .i64 0, .int .i64 0, .slice none 0 0]⟩), (n9, ⟨28, true, [.int .i64 p, .int .i64 k2, .slice (some ⟨o, 0, some 1⟩) i i]⟩), (HT.n, ⟨28, true, [.int .i64 p, .int .i64 M.length, .slice a3 C.length c3]⟩), (o, ⟨32, true, cs⟩), (q.2, ⟨_, true, ((C.take q.1).map (dotS p y)).map (Value.int .i64)⟩)]) (fun q => q.1 ≤ C.length) (fun q => C.length - q.1) (0, _) (by simp) ⟨rfl, rfl, rfl, rfl, rfl, rfl, rfl, rfl, rfl, trivial⟩ rfl rfl rfl (fun q hj bE n => ?_))
        | (refine KW.lpM rfl rfl (fun q : Nat × Nat => [(2, .pointer (some ⟨H.n, 0, some 0⟩)), (3, .pointer (some ⟨H.n + 1, 0, some 1⟩)), (4, .pointer (some ⟨H.n + 2, 0, some 2⟩)), (5, .int .i64 0), (6, .pointer (some ⟨n9, 0, some 3⟩)), (7, .pointer (some ⟨HT.n, 0, some 4⟩)), (8, .int .i64 i), (9, .slice (some ⟨q.2, 0, some 1⟩) ((C.take q.1).map (dotS p y)).length ((C.take q.1).map (dotS p y)).length), (10, .int .i64 q.1)]) (fun _ => S1) (fun _ => A1) (fun q => [(H.n, ⟨28, true, [.int .i64 p, .int .i64 k, .slice a1 L.length c1]⟩), (H.n + 1, ⟨28, true, [.int .i64 p, .int .i64 k2, .slice a2 M.length c2]⟩), (H.n + 2, ⟨28, true, [.int .i64 0, .int .i64 0, .slice none 0 0]⟩), (n9, ⟨28, true, [.int .i64 p, .int .i64 k2, .slice none 0 0]⟩), (HT.n, ⟨28, true, [.int .i64 p, .int .i64 M.length, .slice a3 C.length c3]⟩), (q.2, ⟨_, true, ((C.take q.1).map (dotS p y)).map (Value.int .i64)⟩)]) (fun q => q.1 ≤ C.length) (fun q => C.length - q.1) (0, _) (by simp) ⟨rfl, rfl, rfl, rfl, rfl, rfl, rfl, rfl, rfl, trivial⟩ rfl rfl rfl (fun q hj bE n => ?_))
      obtain ⟨j, o2⟩ := q
      simp only at hj
      have hjl : ((C.take j).map (dotS p y)).length = j := by rw [List.length_map, List.length_take]; omega
      refine KW.cnd rfl rfl (fun j2 => ?gin2) (fun j2 => ?gout2)
      case gin2 =>
        have j2 : (j : Int) < (C.length : Int) := j2
        refine KW.getL hs1 rfl rfl rfl rfl rfl rfl rfl rfl rfl rfl rfl rfl rfl rfl rfl rfl (by omega) (j1) (fun y2 ay cy hy2 hsy => ?_)
        have hy2 : L[i]? = some y2 := hy2
        rw [hy] at hy2
        cases hy2
        refine KW.getL hC1 rfl rfl rfl rfl rfl rfl rfl rfl rfl rfl rfl rfl rfl rfl rfl rfl (by omega) (j2) (fun z az cz hz hsz => ?_)
        have hz : C[j]? = some z := hz
        have hzm := hRC z (List.mem_of_getElem? hz)
        refine KW.callE rfl rfl rfl rfl rfl (l03Dot p hp (by omega) (by omega) hye (fun x hx => by have := hzm.2 x hx; omega) hsy hsz) (fun _ _ => ?_)
        have enx : (C.take (j + 1)).map (dotS p y) = (C.take j).map (dotS p y) ++ [dotS p y z] := map_take_succ _ hz
        first
          | (refine KW.app1 (xs := ((C.take j).map (dotS p y)).map (Value.int .i64)) (v := .int .i64 (dotS p y z)) 6 7 rfl rfl rfl rfl rfl rfl rfl rfl rfl rfl rfl rfl rfl rfl rfl rfl rfl rfl rfl rfl rfl rfl rfl (by simp) (by show (_ + 1) * 8 ≤ _; simp only; omega) (by simp only; omega) ?_
             exact KW.nxt rfl rfl (fun H' g => ⟨(j + 1, _), by simp only; omega, by simp only; omega, ⟨rfl, rfl, rfl, rfl, rfl, rfl, rfl, by simp only [enx, List.length_append, List.length_singleton]; rfl, congrArg (Value.int .i64) (inc64 (by omega)), trivial⟩, g.eqT (by simp only [enx, List.map_append]; rfl)⟩))
          | (refine KW.app1 (xs := ((C.take j).map (dotS p y)).map (Value.int .i64)) (v := .int .i64 (dotS p y z)) 5 6 rfl rfl rfl rfl rfl rfl rfl rfl rfl rfl rfl rfl rfl rfl rfl rfl rfl rfl rfl rfl rfl rfl rfl (by simp) (by show (_ + 1) * 8 ≤ _; simp only; omega) (by simp only; omega) ?_
             exact KW.nxt rfl rfl (fun H' g => ⟨(j + 1, _), by simp only; omega, by simp only; omega, ⟨rfl, rfl, rfl, rfl, rfl, rfl, rfl, by simp only [enx, List.length_append, List.length_singleton]; rfl, congrArg (Value.int .i64) (inc64 (by omega)), trivial⟩, g.eqT (by simp only [enx, List.map_append]; rfl)⟩))
      case gout2 =>
        obtain rfl : j = C.length := by have j2 : ¬ (j : Int) < (C.length : Int) := j2; omega
        rw [List.take_of_length_le (Nat.le_refl _)]
        first
          | (refine KW.freeze 6 rfl (fun A' S' hnA hSA stA hmA hoA hnS hlow => ?_)
             have hoH : H.n ≤ o2 := by
               rcases Nat.lt_or_ge o2 H.n with h | h
               · exact absurd (hq.old o2 ((inferInstance : On (Low H.n) H ST HT).st o2 h).1).1 hnS
               · exact h
             refine KW.app1 (xs := cs) (v := .slice (some ⟨o2, 0, some 1⟩) (C.map (dotS p y)).length (C.map (dotS p y)).length) 5 6 rfl rfl rfl rfl rfl rfl rfl rfl rfl rfl rfl rfl rfl rfl rfl rfl rfl rfl rfl rfl rfl rfl rfl (by omega) (by show (_ + 1) * 24 ≤ _; omega) (by omega) ?_
             exact KW.nxt rfl rfl (fun H' g => ⟨⟨i + 1, S', A', _, _, _, _⟩, ⟨hq.nextX (o' := 0) stA.st (X := fun id => id = o2) (fun id e => by subst e; exact ⟨(hSA _).2 (.inr rfl), hoH, hnS⟩) hy (row_ml hmA), .inr ⟨by simp only; omega, _, rfl, rfl⟩⟩, by simp only; omega, ⟨rfl, rfl, rfl, rfl, rfl, rfl, congrArg (Value.int .i64) (inc64 (by omega)), trivial⟩, g⟩))
          | (refine KW.freeze 5 rfl (fun A' S' hnA hSA stA hmA hoA hnS hlow => ?_)
             have hoH : H.n ≤ o2 := by
               rcases Nat.lt_or_ge o2 H.n with h | h
               · exact absurd (hq.old o2 ((inferInstance : On (Low H.n) H ST HT).st o2 h).1).1 hnS
               · exact h
             refine KW.app0 (v := .slice (some ⟨o2, 0, some 1⟩) (C.map (dotS p y)).length (C.map (dotS p y)).length) 5 rfl rfl rfl rfl rfl rfl rfl rfl rfl rfl rfl rfl rfl rfl rfl rfl rfl rfl rfl rfl rfl rfl (by decide) ?_
             subst hi0
             exact KW.nxt rfl rfl (fun H' g => ⟨⟨1, S', A', _, _, _, _⟩, ⟨hq.nextX (o' := 0) stA.st (X := fun id => id = o2) (fun id e => by subst e; exact ⟨(hSA _).2 (.inr rfl), hoH, hnS⟩) hy (row_ml hmA), .inr ⟨by simp only; omega, _, rfl, rfl⟩⟩, by simp only; omega, ⟨rfl, rfl, rfl, rfl, rfl, rfl, rfl, trivial⟩, g⟩))
    case gout =>
      have j1 : ¬ (i : Int) < (L.length : Int) := j1
      have he : i = L.length := by omega
      have el : (prodL p L C).length = L.length := by simp [prodL]
      refine KW.retM1 rfl rfl rfl rfl (fun H1 g => ?_)
      first
        | (have h0 : L = [] := List.eq_nil_of_length_eq_zero (by omega)
           subst h0
           exact ⟨_, rfl, none, 0, rfl, .inl ⟨rfl, _, _, rfl, fun _ => rfl⟩⟩)
        | (refine ⟨_, rfl, _, _, by rw [el, he]; rfl, ?_⟩
           have hm := (⟨hq.le, hq.old, hq.b, hq.v⟩ : RwI (fun r => C.map (dotS p r)) L H ST HT ⟨i, S1, A1, V, cs, o⟩).ml he g (j := 5) rfl (g.ge (H1 := H) (j := 5) rfl)
           rw [el]
           exact hm)
end
end Go.Proofs.Ytmkpfllbmdahkaa.Am
/- Dual ranks, plain: they are ranks if none is too great. No condition beyond each lemma's own. -/
set_option linter.unusedVariables false
namespace Go.Proofs.Ytmkpfllbmdahkaa.Am
open Go Go.RowKit
def dif (a b : Nat) : Nat := a ^^^ (a &&& b)
theorem dif_bit (a b i : Nat) : (dif a b).testBit i = (a.testBit i && !b.testBit i) := by
  unfold dif
  rw [Nat.testBit_xor, Nat.testBit_and]
  cases a.testBit i <;> cases b.testBit i <;> rfl
theorem dif_lt {a b m : Nat} (ha : a < 2 ^ m) : dif a b < 2 ^ m := by
  refine Nat.lt_pow_two_of_testBit _ fun i hi => ?_
  rw [dif_bit, Nat.testBit_lt_two_pow (Nat.lt_of_lt_of_le ha (Nat.pow_le_pow_right (by decide) hi))]; rfl
theorem dif_or (A a b : Nat) : dif A (a ||| b) = dif A a &&& dif A b := by
  apply Nat.eq_of_testBit_eq; intro i
  rw [Nat.testBit_and, dif_bit, dif_bit, dif_bit, Nat.testBit_or]
  cases A.testBit i <;> cases a.testBit i <;> cases b.testBit i <;> rfl
theorem dif_and (A a b : Nat) : dif A (a &&& b) = dif A a ||| dif A b := by
  apply Nat.eq_of_testBit_eq; intro i
  rw [Nat.testBit_or, dif_bit, dif_bit, dif_bit, Nat.testBit_and]
  cases A.testBit i <;> cases a.testBit i <;> cases b.testBit i <;> rfl
theorem dif_zero (A : Nat) : dif A 0 = A := by
  apply Nat.eq_of_testBit_eq; intro i
  rw [dif_bit]; simp
/-- The sum of the single ranks of the holders below n in a set. -/
def sumH (l : List Int) (c : Nat) : Nat → Int
  | 0 => 0
  | n + 1 => sumH l c n + (if c.testBit n = true then l.getD (2 ^ n) 0 else 0)
theorem sumH_mod (l : List Int) (a b : Nat) : ∀ n, sumH l a n + sumH l b n = sumH l (a ||| b) n + sumH l (a &&& b) n
  | 0 => rfl
  | n + 1 => by
    have h := sumH_mod l a b n
    simp only [sumH, Nat.testBit_or, Nat.testBit_and]
    cases a.testBit n <;> cases b.testBit n <;> simp <;> omega
theorem sumH_zero (l : List Int) : ∀ n, sumH l 0 n = 0
  | 0 => rfl
  | n + 1 => by simp only [sumH, sumH_zero l n, Nat.zero_testBit]; rfl
section
variable {l : List Int} {m : Nat}
theorem getD_nonneg (hw : Within l) (i : Nat) : 0 ≤ l.getD i 0 := by
  rcases Nat.lt_or_ge i l.length with h | h
  · exact (hw i h).1
  · rw [List.getD_eq_getElem?_getD, List.getElem?_eq_none h]; exact Int.le_refl _
theorem meets_at (hM : Meets l) {a b : Nat} (ha : a < l.length) (hb : b < l.length) : l.getD (a ||| b) 0 + l.getD (a &&& b) 0 ≤ l.getD a 0 + l.getD b 0 := by
  have := hM a ha b hb
  unfold Bad at this
  omega
/-- Added holders raise a rank by no more than their own. -/
theorem rank_add (hl : l.length = 2 ^ m) (hw : Within l) (hM : Meets l) {z c : Nat} (hz : z < 2 ^ m) (hc : c < 2 ^ m) : ∀ n, n ≤ m → l.getD (z ||| c % 2 ^ n) 0 ≤ l.getD z 0 + sumH l c n
  | 0, _ => by
    have : c % 2 ^ 0 = 0 := by rw [Nat.pow_zero]; exact Nat.mod_one c
    rw [this, Nat.or_zero]; simp [sumH]
  | n + 1, hn => by
    have ih := rank_add hl hw hM hz hc n (by omega)
    have hlt : c % 2 ^ n < 2 ^ m := Nat.lt_of_le_of_lt (Nat.mod_le _ _) hc
    have hpn : 2 ^ n < 2 ^ m := Nat.pow_lt_pow_right (by decide) (by omega)
    by_cases hb : c.testBit n = true
    · have e : z ||| c % 2 ^ (n + 1) = (z ||| c % 2 ^ n) ||| 2 ^ n := by
        apply Nat.eq_of_testBit_eq; intro i
        rw [Nat.testBit_or, Nat.testBit_or, Nat.testBit_or, Nat.testBit_mod_two_pow, Nat.testBit_mod_two_pow, Nat.testBit_two_pow]
        by_cases h1 : n = i
        · subst h1; simp [hb]
        · by_cases h2 : i < n
          · have : i < n + 1 := by omega
            simp [h2, this, h1]
          · have : ¬ i < n + 1 := by omega
            simp [h2, this, h1]
      have h1 := meets_at hM (a := z ||| c % 2 ^ n) (b := 2 ^ n) (by rw [hl]; exact Nat.or_lt_two_pow hz hlt) (by rw [hl]; exact hpn)
      have h2 := getD_nonneg hw ((z ||| c % 2 ^ n) &&& 2 ^ n)
      rw [e]
      simp only [sumH, if_pos hb]
      omega
    · have e : c % 2 ^ (n + 1) = c % 2 ^ n := by
        apply Nat.eq_of_testBit_eq; intro i
        rw [Nat.testBit_mod_two_pow, Nat.testBit_mod_two_pow]
        by_cases h1 : n = i
        · subst h1; simp at hb; simp [hb]
        · by_cases h2 : i < n
          · have : i < n + 1 := by omega
            simp [h2, this]
          · have : ¬ i < n + 1 := by omega
            simp [h2, this]
      rw [e]
      simp only [sumH, if_neg hb]
      omega
theorem opens_up {gs : List (List Int)} {a b : Nat} (h : Opens gs a) (hab : a &&& b = a) : Opens gs b := by
  obtain ⟨g, hg, h1⟩ := h
  refine ⟨g, hg, ?_⟩
  apply Nat.eq_of_testBit_eq; intro i
  have h2 := congrArg (fun x => x.testBit i) h1
  have h3 := congrArg (fun x => x.testBit i) hab
  simp only [Nat.testBit_and] at h2 h3 ⊢
  revert h2 h3
  cases a.testBit i <;> cases b.testBit i <;> cases (bitsOf g).testBit i <;> simp
end
/-- What the unit adds for a set that does not open. -/
noncomputable def uO (u : Int) (gs : List (List Int)) (x : Nat) : Int := if tv (Opens gs x) = true then 0 else u
noncomputable def dualAt (l : List Int) (u : Int) (gs : List (List Int)) (m c : Nat) : Int := l.getD (dif (2 ^ m - 1) c) 0 - l.getD (2 ^ m - 1) 0 + sumH l c m + uO u gs (dif (2 ^ m - 1) c)
noncomputable def dualL (l : List Int) (u : Int) (gs : List (List Int)) (m n : Nat) : List Int := (List.range n).map (dualAt l u gs m)
theorem dualL_len (l : List Int) (u : Int) (gs : List (List Int)) (m n : Nat) : (dualL l u gs m n).length = n := by simp [dualL]
theorem dualL_at {l : List Int} {u : Int} {gs : List (List Int)} {m n i : Nat} (h : i < n) : (dualL l u gs m n).getD i 0 = dualAt l u gs m i := by
  rw [List.getD_eq_getElem?_getD]
  simp [dualL, h]
section
variable {l : List Int} {u : Int} {gs : List (List Int)} {m : Nat}
theorem uO_mono {a b : Nat} (hu : 0 ≤ u) (hab : a &&& b = a) : uO u gs b ≤ uO u gs a := by
  unfold uO
  by_cases ha : Opens gs a
  · rw [tv_true ha, tv_true (opens_up ha hab)]; exact Int.le_refl _
  · rw [tv_false ha]
    by_cases hb : Opens gs b
    · rw [tv_true hb]; simpa using hu
    · rw [tv_false hb]; exact Int.le_refl _
theorem dual_mono (hl : l.length = 2 ^ m) (hw : Within l) (hM : Meets l) (hu : 0 ≤ u) {a b : Nat} (ha : a < 2 ^ m) (hb : b < 2 ^ m) (hab : a &&& b = a) : dualAt l u gs m a ≤ dualAt l u gs m b := by
  have hA : 2 ^ m - 1 < 2 ^ m := by have := Nat.two_pow_pos m; omega
  have full : ∀ i, (2 ^ m - 1).testBit i = decide (i < m) := fun i => Nat.testBit_two_pow_sub_one m i
  -- what stands outside a is what stands outside b, with d = b without a
  have e1 : dif (2 ^ m - 1) b ||| dif b a % 2 ^ m = dif (2 ^ m - 1) a := by
    have hd : dif b a % 2 ^ m = dif b a := Nat.mod_eq_of_lt (dif_lt hb)
    rw [hd]
    apply Nat.eq_of_testBit_eq; intro i
    have h3 := congrArg (fun x => x.testBit i) hab
    have h4 : i ≥ m → b.testBit i = false := fun hi => Nat.testBit_lt_two_pow (Nat.lt_of_lt_of_le hb (Nat.pow_le_pow_right (by decide) hi))
    simp only [Nat.testBit_and, Nat.testBit_or, dif_bit, full] at h3 ⊢
    by_cases hi : i < m
    · revert h3
      cases a.testBit i <;> cases b.testBit i <;> simp [hi]
    · rw [h4 (by omega)] at h3 ⊢
      revert h3
      cases a.testBit i <;> simp [hi]
  have h1 := rank_add hl hw hM (z := dif (2 ^ m - 1) b) (c := dif b a) (dif_lt hA) (dif_lt hb) m (Nat.le_refl _)
  rw [e1] at h1
  -- the single ranks
  have e2 : sumH l a m + sumH l (dif b a) m = sumH l b m := by
    have h := sumH_mod l a (dif b a) m
    have e3 : a ||| dif b a = b := by
      apply Nat.eq_of_testBit_eq; intro i
      have h3 := congrArg (fun x => x.testBit i) hab
      simp only [Nat.testBit_and, Nat.testBit_or, dif_bit] at h3 ⊢
      revert h3
      cases a.testBit i <;> cases b.testBit i <;> simp
    have e4 : a &&& dif b a = 0 := by
      apply Nat.eq_of_testBit_eq; intro i
      simp only [Nat.testBit_and, dif_bit, Nat.zero_testBit]
      cases a.testBit i <;> cases b.testBit i <;> rfl
    rw [e3, e4, sumH_zero] at h
    omega
  have h2 := uO_mono (gs := gs) hu (a := dif (2 ^ m - 1) b) (b := dif (2 ^ m - 1) a) (by
    apply Nat.eq_of_testBit_eq; intro i
    have h3 := congrArg (fun x => x.testBit i) hab
    simp only [Nat.testBit_and, dif_bit] at h3 ⊢
    revert h3
    cases a.testBit i <;> cases b.testBit i <;> cases (2 ^ m - 1).testBit i <;> simp)
  unfold dualAt
  omega
theorem dual_meets (hl : l.length = 2 ^ m) (hM : Meets l) (hu : 0 ≤ u) (hfit : ∀ a, a < l.length → ∀ b, b < l.length → ¬ Mis l u gs a b) {a b : Nat} (ha : a < 2 ^ m) (hb : b < 2 ^ m) :
    dualAt l u gs m (a ||| b) + dualAt l u gs m (a &&& b) ≤ dualAt l u gs m a + dualAt l u gs m b := by
  have hA : 2 ^ m - 1 < 2 ^ m := by have := Nat.two_pow_pos m; omega
  unfold dualAt
  rw [dif_or, dif_and]
  have hs := sumH_mod l a b m
  have hX : dif (2 ^ m - 1) a < l.length := by rw [hl]; exact dif_lt hA
  have hY : dif (2 ^ m - 1) b < l.length := by rw [hl]; exact dif_lt hA
  generalize dif (2 ^ m - 1) a = X at *
  generalize dif (2 ^ m - 1) b = Y at *
  have h1 := meets_at hM hX hY
  have m1 := uO_mono (gs := gs) hu (a := X &&& Y) (b := X) (by apply Nat.eq_of_testBit_eq; intro i; simp only [Nat.testBit_and]; cases X.testBit i <;> cases Y.testBit i <;> rfl)
  have m2 := uO_mono (gs := gs) hu (a := X) (b := X ||| Y) (by apply Nat.eq_of_testBit_eq; intro i; simp only [Nat.testBit_and, Nat.testBit_or]; cases X.testBit i <;> cases Y.testBit i <;> rfl)
  have m3 := uO_mono (gs := gs) hu (a := X &&& Y) (b := Y) (by apply Nat.eq_of_testBit_eq; intro i; simp only [Nat.testBit_and]; cases X.testBit i <;> cases Y.testBit i <;> rfl)
  have m4 := uO_mono (gs := gs) hu (a := Y) (b := X ||| Y) (by apply Nat.eq_of_testBit_eq; intro i; simp only [Nat.testBit_and, Nat.testBit_or]; cases X.testBit i <;> cases Y.testBit i <;> rfl)
  have v : ∀ z, (uO u gs z = 0 ∧ Opens gs z) ∨ (uO u gs z = u ∧ ¬ Opens gs z) := fun z => by
    unfold uO
    by_cases hz : Opens gs z
    · rw [tv_true hz]; exact .inl ⟨rfl, hz⟩
    · rw [tv_false hz]; exact .inr ⟨rfl, hz⟩
  have hf := hfit X hX Y hY
  rcases v X with ⟨x1, x2⟩ | ⟨x1, x2⟩ <;> rcases v Y with ⟨y1, y2⟩ | ⟨y1, y2⟩ <;> rcases v (X &&& Y) with ⟨z1, z2⟩ | ⟨z1, z2⟩ <;> first
    | omega
    | (have : ¬ (l.getD X 0 + l.getD Y 0 < l.getD (X ||| Y) 0 + l.getD (X &&& Y) 0 + u) := fun hc => hf (.inr ⟨x2, y2, z2, hc⟩)
       omega)
/-- Dual ranks are ranks if none is too great. -/
theorem dual_ok (hr : OkR m u l) (hop : Opens gs (2 ^ m - 1)) (hfit : ∀ a, a < l.length → ∀ b, b < l.length → ¬ Mis l u gs a b) : OkR m u (dualL l u gs m (2 ^ m)) ↔ ∀ x ∈ dualL l u gs m (2 ^ m), x ≤ 100000 := by
  obtain ⟨h1, h2, h3, h4, h5, h6⟩ := hr
  have h3 : l.length = 2 ^ m := by simpa using h3
  have hpos := Nat.two_pow_pos m
  have len := dualL_len l u gs m (2 ^ m)
  have z0 : dualAt l u gs m 0 = 0 := by
    unfold dualAt uO
    rw [dif_zero, sumH_zero, tv_true hop]; simp
  have mono := fun {a b : Nat} (ha : a < 2 ^ m) (hb : b < 2 ^ m) (hab : a &&& b = a) => dual_mono (gs := gs) h3 h5 h6 (by omega : 0 ≤ u) ha hb hab
  constructor
  · intro h x hx
    obtain ⟨i, hi⟩ := List.getElem?_of_mem hx
    have hil := (List.getElem?_eq_some_iff.1 hi).1
    have := (h.2.2.2.2.1 i hil).2
    rw [getD_of hi] at this
    exact this
  · intro h
    refine ⟨h1, h2, by simpa using len, by rw [dualL_at hpos, z0], fun i hi => ?_, fun a ha b hb hbad => ?_⟩
    · rw [len] at hi
      have h7 := mono hpos hi (Nat.zero_and i)
      rw [z0] at h7
      rw [dualL_at hi]
      refine ⟨h7, h _ ?_⟩
      rw [← dualL_at (l := l) (u := u) (gs := gs) (m := m) hi, List.getD_eq_getElem?_getD, List.getElem?_eq_getElem (by omega)]
      exact List.getElem_mem _
    · rw [len] at ha hb
      have hab := Nat.or_lt_two_pow ha hb
      have hcd := Nat.and_lt_two_pow a hb
      unfold Bad at hbad
      rw [dualL_at ha, dualL_at hb, dualL_at hab, dualL_at hcd] at hbad
      have h7 := dual_meets h3 h6 (by omega : 0 ≤ u) hfit ha hb
      rcases hbad with ⟨h8, h9⟩ | h8
      · have := mono ha hb h8; omega
      · omega
end
end Go.Proofs.Ytmkpfllbmdahkaa.Am
/- Contracts: FirstMisfit, of the program and of the reference. Each holds under its own conditions. -/
set_option linter.unusedVariables false
set_option maxRecDepth 20000
namespace Go.Proofs.Ytmkpfllbmdahkaa.Am
open Go Go.RowKit Go.Proofs
/-- What both return: two groups and a code. -/
def FmR (m u : Int) (l : List Int) (h : Int) (gs : List (List Int)) (g0 g1 : List Int) (code : Int) : Prop :=
  (¬ fitC m u l h gs = 0 ∧ g0 = [] ∧ g1 = [] ∧ code = fitC m u l h gs) ∨
  (fitC m u l h gs = 0 ∧ ∃ a b f, Fst l u gs a b f ∧ ((f = false ∧ g0 = [] ∧ g1 = [] ∧ code = 6) ∨ (f = true ∧ g0 = hold a 7 ∧ g1 = hold b 7 ∧ code = 0)))
theorem FmR.one {m u : Int} {l : List Int} {h : Int} {gs : List (List Int)} {g0 g1 g0' g1' : List Int} {code code' : Int} (p : FmR m u l h gs g0 g1 code) (q : FmR m u l h gs g0' g1' code') : g0 = g0' ∧ g1 = g1' ∧ code = code' := by
  rcases p with ⟨h0, rfl, rfl, rfl⟩ | ⟨h0, a, b, f, hf, p⟩ <;> rcases q with ⟨k0, rfl, rfl, rfl⟩ | ⟨k0, a', b', f', kf, q⟩
  · exact ⟨rfl, rfl, rfl⟩
  · exact absurd k0 h0
  · exact absurd h0 k0
  · obtain ⟨rfl, rfl, rfl⟩ := hf.one kf
    rcases p with ⟨rfl, rfl, rfl, rfl⟩ | ⟨rfl, rfl, rfl, rfl⟩ <;> rcases q with ⟨e, rfl, rfl, rfl⟩ | ⟨e, rfl, rfl, rfl⟩ <;> first | exact ⟨rfl, rfl, rfl⟩ | cases e
theorem FmR.len {m u : Int} {l : List Int} {h : Int} {gs : List (List Int)} {g0 g1 : List Int} {code : Int} (p : FmR m u l h gs g0 g1 code) : g0.length ≤ 7 ∧ g1.length ≤ 7 := by
  rcases p with ⟨h0, rfl, rfl, rfl⟩ | ⟨h0, a, b, f, hf, ⟨rfl, rfl, rfl, rfl⟩ | ⟨rfl, rfl, rfl, rfl⟩⟩ <;> first | exact ⟨by simp, by simp⟩ | exact ⟨hold_len _ _, hold_len _ _⟩
/-- Two groups apart from each other, and a code. -/
def GgPost (p : List Int → List Int → Int → Prop) (n : Nat) (v : Value) (H1 : AH) : Prop :=
  ∃ (g0 g1 : List Int) (code : Int) (a0 : Option Addr) (c0 : Nat) (a1 : Option Addr) (c1 : Nat) (S0 S1 : Ids), v = .tuple #[.slice a0 g0.length c0, .slice a1 g1.length c1, .int .i64 code] ∧ p g0 g1 code ∧ KI.Ml S0 H1 (.slice a0 g0.length c0) g0 ∧ KI.Ml S1 H1 (.slice a1 g1.length c1) g1 ∧
    (∀ id, S0 id → New n H1.n id) ∧ (∀ id, S1 id → New n H1.n id) ∧ ∀ id, S0 id → S1 id → False
section
variable {S : Ids} {H0 : AH}
end
end Go.Proofs.Ytmkpfllbmdahkaa.Am
/- What the laws' own functions do at Ranks: sizes, copies, equality, marks. Each holds under its own conditions. -/
set_option linter.unusedVariables false
set_option maxRecDepth 20000
namespace Go.Proofs.Ytmkpfllbmdahkaa.Am
open Go Go.RowKit Go.Proofs
abbrev T_Ranks : Type := (Int) × (Int) × (List Int)
abbrev K_Ranks : Kn T_Ranks := Kn.pair (KI) (Kn.pair (KI) (K_Int64S))
abbrev M_Ranks : Kn T_Ranks := Kn.mp (KI) (Kn.mp (KI) (M_Int64S))
theorem le_Ranks : KLe M_Ranks K_Ranks := KLe.pair ((KLe.refl KI)) (KLe.pair ((KLe.refl KI)) (le_Int64S))
abbrev B_Ranks (x : T_Ranks) : Prop := I64 x.1 ∧ I64 x.2.1 ∧ B_Int64S x.2.2
abbrev W_Ranks (x : T_Ranks) : Prop := I64 x.1 ∧ I64 x.2.1 ∧ W_Int64S x.2.2
abbrev sz_Ranks (x : T_Ranks) : Nat := sz_Int64S x.2.2
abbrev mk_Ranks (k : Int) (x : T_Ranks) : T_Ranks := (x.1, x.2.1, mk_Int64S (k) x.2.2)
theorem size_Ranks {x : T_Ranks} (hB : B_Ranks x) : sz_Ranks x ≤ 1048576 := by have := size_Int64S hB.2.2; simp only [sz_Ranks]; omega
section
variable {S : Ids} {H0 : AH} {W : Ids} {left k : Int}
theorem form_Ranks {x : T_Ranks} {cs : List Value} (h : K_Ranks.R S H0 x cs) : ∃ a1 c1, cs = [.int .i64 x.1, .int .i64 x.2.1, .slice a1 x.2.2.length c1] := by
  obtain ⟨e0, d0, rfl, h0, h0_⟩ := h
  obtain ⟨e1, d1, rfl, h1, h1_⟩ := h0_
  have h2 := h1_
  obtain rfl := KI_of h0
  obtain rfl := KI_of h1
  obtain ⟨a1, c1, rfl⟩ := slform h2
  exact ⟨a1, c1, rfl⟩
theorem formM_Ranks {x : T_Ranks} {cs : List Value} (h : M_Ranks.R S H0 x cs) : ∃ a1 c1, cs = [.int .i64 x.1, .int .i64 x.2.1, .slice a1 x.2.2.length c1] := form_Ranks (le_Ranks.2 _ _ _ _ h)
theorem split_Ranks {x : T_Ranks} {cs : List Value} (h : K_Ranks.R S H0 x cs) : ∃ a1 c1, cs = [.int .i64 x.1, .int .i64 x.2.1, .slice a1 x.2.2.length c1] ∧ K_Int64S.R S H0 x.2.2 [.slice a1 x.2.2.length c1] := by
  obtain ⟨e0, d0, rfl, h0, h0_⟩ := h
  obtain ⟨e1, d1, rfl, h1, h1_⟩ := h0_
  have h2 := h1_
  obtain rfl := KI_of h0
  obtain rfl := KI_of h1
  obtain ⟨a1, c1, rfl⟩ := slform h2
  exact ⟨a1, c1, rfl, h2⟩
theorem splitM_Ranks {x : T_Ranks} {cs : List Value} (h : M_Ranks.R S H0 x cs) : ∃ (a1 : Option Addr) (c1 : Nat) (X2 : Ids), cs = [.int .i64 x.1, .int .i64 x.2.1, .slice a1 x.2.2.length c1] ∧ M_Int64S.R X2 H0 x.2.2 [.slice a1 x.2.2.length c1] ∧ (∀ id, X2 id → S id) := by
  obtain ⟨e0, d0, X0, Y0, rfl, i0, j0, q0, h0, h0_⟩ := h
  obtain ⟨e1, d1, X1, Y1, rfl, i1, j1, q1, h1, h1_⟩ := h0_
  have h2 := h1_
  obtain rfl := KI_of h0
  obtain rfl := KI_of h1
  obtain ⟨a1, c1, rfl⟩ := mlform h2
  exact ⟨a1, c1, Y1, rfl, h2, fun _ p => j0 _ (j1 _ p)⟩
theorem to_Ranks {x : T_Ranks} {cs : List Value} (hB : B_Ranks x) (h : K_Ranks.R S H0 x cs) : SpecM Try.prog S H0 77 [.agg cs.toArray] (fun n v H1 => ∃ cs, v = .agg cs.toArray ∧ M_Ranks.R (New n H1.n) H1 x cs) := by
  obtain ⟨a1, c1, rfl, h2⟩ := split_Ranks h
  refine SpecM.of1 Try.func77 rfl (by kernel_rfl) rfl (fun H _ => ?_)
  refine KW.callN1 rfl rfl rfl rfl rfl (to_Int64S hB.2.2 (On.R h2)) (fun v G2 S2 m2 _ _ hv => ?_)
  obtain ⟨b2, d2, rfl, g2⟩ := hv
  refine KW.retM1 rfl rfl rfl rfl (fun H1 g => ?_)
  refine ⟨_, rfl, ?_⟩
  have k2 : M_Int64S.R (New H.n H1.n) H1 x.2.2 [.slice b2 x.2.2.length d2] := (M_Int64S).more (g.inn (H := G2) (fun _ p => by have := p.1; omega)) (g.keep g2)
  have k1 : (Kn.mp (KI) (M_Int64S)).R (New H.n H1.n) H1 (x.2) [.int .i64 x.2.1, .slice b2 x.2.2.length d2] := mpR (X := None_) (show KI.R None_ H1 _ [.int .i64 x.2.1] from rfl) k2 (fun _ p => p.elim) (fun _ p => p) (fun _ p _ => p.elim)
  have k0 : (Kn.mp (KI) (Kn.mp (KI) (M_Int64S))).R (New H.n H1.n) H1 (x) [.int .i64 x.1, .int .i64 x.2.1, .slice b2 x.2.2.length d2] := mpR (X := None_) (show KI.R None_ H1 _ [.int .i64 x.1] from rfl) k1 (fun _ p => p.elim) (fun _ p => p) (fun _ p _ => p.elim)
  exact k0
theorem eq_Ranks {x : T_Ranks} {cs cs' : List Value} (hB : B_Ranks x) (h : K_Ranks.R S H0 x cs) (h' : K_Ranks.R S H0 x cs') : Spec Try.prog S H0 24 [.agg cs.toArray, .agg cs'.toArray] (fun v => v = .bool true) := by
  obtain ⟨a1, c1, rfl, h2⟩ := split_Ranks h
  obtain ⟨b1, d1, rfl, k2⟩ := split_Ranks h'
  refine Spec.of1 Try.func24 rfl (by kernel_rfl) rfl (fun H _ => ?_)
  refine KW.cF rfl rfl (by first | (simp; done) | decide) ?_
  refine KW.cF rfl rfl (by first | (simp; done) | decide) ?_
  refine KW.callE rfl rfl rfl rfl rfl (eq_Int64S hB.2.2 (On.R h2) (On.R k2)) (fun _ _ => ?_)
  refine KW.cF rfl rfl (by first | (simp; done) | decide) ?_
  exact KW.ret rfl rfl rfl rfl (rfl)
theorem sz_Ranks' {x : T_Ranks} {cs : List Value} (l0 : 0 ≤ left) (l1 : left ≤ 1048576) (hW : W_Ranks x) (h : K_Ranks.R S H0 x cs) : Spec Try.prog S H0 75 [.agg cs.toArray, .int .i64 left] (SzPost left (B_Ranks x)) := by
  obtain ⟨a1, c1, rfl, h2⟩ := split_Ranks h
  refine Spec.of1 Try.func75 rfl (by kernel_rfl) rfl (fun H _ => ?_)
  refine KW.call rfl rfl rfl rfl rfl (sz_Int64S' l0 l1 hW.2.2 (On.R h2)) (fun v _ _ hv => ?_)
  obtain ⟨r2, rfl, k2⟩ := hv
  refine KW.cnd rfl rfl (fun h => KW.ret rfl rfl rfl rfl ⟨-1, rfl, .inl rfl⟩) (fun h => ?_)
  have k2 := k2.resolve_left (by omega)
  exact KW.ret rfl rfl rfl rfl (⟨_, rfl, .inr ⟨k2.1, by have := k2.2.1; omega, hW.1, hW.2.1, k2.2.2⟩⟩)
theorem mark_Ranks {x : T_Ranks} {cs : List Value} (hB : B_Ranks x) (hk : Mk k (sz_Ranks x)) (hW : ∀ id, W id → S id) (h : M_Ranks.R W H0 x cs) : SpecW Try.prog S H0 W 27 [.agg cs.toArray, .int .i64 k] (fun n v H1 => v = .int .i64 (k + (sz_Ranks x : Nat)) ∧ M_Ranks.R W H1 (mk_Ranks k x) cs) := by
  obtain ⟨a1, c1, X2, rfl, h2, i2⟩ := splitM_Ranks h
  refine SpecW.of0 Try.func27 rfl (by kernel_rfl) rfl (fun H hfin hfz => ?_)
  have F2 : Fk M_Int64S X2 (Low H.n) H _ _ := ⟨(M_Int64S).same (fun id hid => (hfz id (hW id (i2 id hid))).2) h2, fun id hid => (hfz id (hW id (i2 id hid))).1⟩
  have T : ∀ id, id < H.n → Low H.n id ∧ (¬ W id → H.m id = H.m id) := fun id hid => ⟨hid, fun _ => rfl⟩
  refine KW.callW F2.i rfl rfl rfl rfl rfl (mark_Int64S hB.2.2 (k := k) (by have := hk.1; have := hk.2; simp only [sz_Ranks] at this; constructor <;> omega) F2.i F2.r) (fun v H2 S2 m2 t2 w2 hv => ?_)
  obtain ⟨rfl, g2⟩ := hv
  have F2 : Fk M_Int64S X2 S2 H2 _ _ := ⟨g2, fun id hid => (t2 id (F2.i id hid)).1⟩
  have T : ∀ id, id < H.n → S2 id ∧ (¬ W id → H2.m id = H.m id) := fun id hid => ⟨(t2 id (T id hid).1).1, fun hw => ((t2 id (T id hid).1).2 (fun o => hw (i2 id o))).trans ((T id hid).2 hw)⟩
  refine KW.retW rfl rfl rfl rfl (fun H1 g => by have := g.n_; omega) (fun id hid hw => ⟨(T id hid).1, (T id hid).2 hw⟩) (fun H1 g => ?_)
  refine ⟨rfl, ?_⟩
  have G2 := (M_Int64S).same (H' := H1) (fun id hid => (g.froz id (F2.i id hid)).2) F2.r
  have k2 : M_Int64S.R (fun id => X2 id) H1 (mk_Int64S (k) x.2.2) [.slice a1 x.2.2.length c1] := G2
  have k1 : (Kn.mp (KI) (M_Int64S)).R (fun id => X2 id) H1 (x.2.1, (mk_Int64S (k) x.2.2)) [.int .i64 x.2.1, .slice a1 x.2.2.length c1] := mpR (X := None_) (show KI.R None_ H1 _ [.int .i64 x.2.1] from rfl) k2 (fun _ p => p.elim) (fun _ p => p) (fun _ p _ => p.elim)
  have k0 : (Kn.mp (KI) (Kn.mp (KI) (M_Int64S))).R (fun id => X2 id) H1 (x.1, x.2.1, (mk_Int64S (k) x.2.2)) [.int .i64 x.1, .int .i64 x.2.1, .slice a1 x.2.2.length c1] := mpR (X := None_) (show KI.R None_ H1 _ [.int .i64 x.1] from rfl) k1 (fun _ p => p.elim) (fun _ p => p) (fun _ p _ => p.elim)
  exact (M_Ranks).more (fun id p => i2 id p) k0
theorem held_Ranks {x : T_Ranks} {cs : List Value} (hB : B_Ranks x) (hk : Mk k (sz_Ranks x)) (h : K_Ranks.R S H0 (mk_Ranks k x) cs) : Spec Try.prog S H0 28 [.agg cs.toArray, .int .i64 k] (fun v => v = .int .i64 (k + (sz_Ranks x : Nat))) := by
  obtain ⟨a1, c1, rfl, h2⟩ := split_Ranks h
  refine Spec.of1 Try.func28 rfl (by kernel_rfl) rfl (fun H _ => ?_)
  refine KW.callE rfl rfl rfl rfl rfl (held_Int64S hB.2.2 (k := k) (by have := hk.1; have := hk.2; simp only [sz_Ranks] at this; constructor <;> omega) (On.R h2)) (fun _ _ => ?_)
  refine KW.no rfl rfl (by have := hk.1; omega) ?_
  exact KW.ret rfl rfl rfl rfl (rfl)
end
end Go.Proofs.Ytmkpfllbmdahkaa.Am
/- What the laws' own functions do at Family: sizes, copies, equality, marks. Each holds under its own conditions. -/
set_option linter.unusedVariables false
set_option maxRecDepth 20000
namespace Go.Proofs.Ytmkpfllbmdahkaa.Am
open Go Go.RowKit Go.Proofs
abbrev T_Family : Type := (Int) × (List (List Int))
abbrev K_Family : Kn T_Family := Kn.pair (KI) (K_Int64SS)
abbrev M_Family : Kn T_Family := Kn.mp (KI) (M_Int64SS)
theorem le_Family : KLe M_Family K_Family := KLe.pair ((KLe.refl KI)) (le_Int64SS)
abbrev B_Family (x : T_Family) : Prop := I64 x.1 ∧ B_Int64SS x.2
abbrev W_Family (x : T_Family) : Prop := I64 x.1 ∧ W_Int64SS x.2
abbrev sz_Family (x : T_Family) : Nat := sz_Int64SS x.2
abbrev mk_Family (k : Int) (x : T_Family) : T_Family := (x.1, mk_Int64SS (k) x.2)
theorem size_Family {x : T_Family} (hB : B_Family x) : sz_Family x ≤ 1048576 := by have := size_Int64SS hB.2; simp only [sz_Family]; omega
section
variable {S : Ids} {H0 : AH} {W : Ids} {left k : Int}
theorem form_Family {x : T_Family} {cs : List Value} (h : K_Family.R S H0 x cs) : ∃ a1 c1, cs = [.int .i64 x.1, .slice a1 x.2.length c1] := by
  obtain ⟨e0, d0, rfl, h0, h0_⟩ := h
  have h1 := h0_
  obtain rfl := KI_of h0
  obtain ⟨a1, c1, rfl⟩ := slform h1
  exact ⟨a1, c1, rfl⟩
theorem formM_Family {x : T_Family} {cs : List Value} (h : M_Family.R S H0 x cs) : ∃ a1 c1, cs = [.int .i64 x.1, .slice a1 x.2.length c1] := form_Family (le_Family.2 _ _ _ _ h)
theorem split_Family {x : T_Family} {cs : List Value} (h : K_Family.R S H0 x cs) : ∃ a1 c1, cs = [.int .i64 x.1, .slice a1 x.2.length c1] ∧ K_Int64SS.R S H0 x.2 [.slice a1 x.2.length c1] := by
  obtain ⟨e0, d0, rfl, h0, h0_⟩ := h
  have h1 := h0_
  obtain rfl := KI_of h0
  obtain ⟨a1, c1, rfl⟩ := slform h1
  exact ⟨a1, c1, rfl, h1⟩
theorem splitM_Family {x : T_Family} {cs : List Value} (h : M_Family.R S H0 x cs) : ∃ (a1 : Option Addr) (c1 : Nat) (X1 : Ids), cs = [.int .i64 x.1, .slice a1 x.2.length c1] ∧ M_Int64SS.R X1 H0 x.2 [.slice a1 x.2.length c1] ∧ (∀ id, X1 id → S id) := by
  obtain ⟨e0, d0, X0, Y0, rfl, i0, j0, q0, h0, h0_⟩ := h
  have h1 := h0_
  obtain rfl := KI_of h0
  obtain ⟨a1, c1, rfl⟩ := mlform h1
  exact ⟨a1, c1, Y0, rfl, h1, fun _ p => j0 _ p⟩
theorem to_Family {x : T_Family} {cs : List Value} (hB : B_Family x) (h : K_Family.R S H0 x cs) : SpecM Try.prog S H0 68 [.agg cs.toArray] (fun n v H1 => ∃ cs, v = .agg cs.toArray ∧ M_Family.R (New n H1.n) H1 x cs) := by
  obtain ⟨a1, c1, rfl, h1⟩ := split_Family h
  refine SpecM.of1 Try.func68 rfl (by kernel_rfl) rfl (fun H _ => ?_)
  refine KW.callN1 rfl rfl rfl rfl rfl (to_Int64SS hB.2 (On.R h1)) (fun v G1 S1 m1 _ _ hv => ?_)
  obtain ⟨b1, d1, rfl, g1⟩ := hv
  refine KW.retM1 rfl rfl rfl rfl (fun H1 g => ?_)
  refine ⟨_, rfl, ?_⟩
  have k1 : M_Int64SS.R (New H.n H1.n) H1 x.2 [.slice b1 x.2.length d1] := (M_Int64SS).more (g.inn (H := G1) (fun _ p => by have := p.1; omega)) (g.keep g1)
  have k0 : (Kn.mp (KI) (M_Int64SS)).R (New H.n H1.n) H1 (x) [.int .i64 x.1, .slice b1 x.2.length d1] := mpR (X := None_) (show KI.R None_ H1 _ [.int .i64 x.1] from rfl) k1 (fun _ p => p.elim) (fun _ p => p) (fun _ p _ => p.elim)
  exact k0
theorem eq_Family {x : T_Family} {cs cs' : List Value} (hB : B_Family x) (h : K_Family.R S H0 x cs) (h' : K_Family.R S H0 x cs') : Spec Try.prog S H0 71 [.agg cs.toArray, .agg cs'.toArray] (fun v => v = .bool true) := by
  obtain ⟨a1, c1, rfl, h1⟩ := split_Family h
  obtain ⟨b1, d1, rfl, k1⟩ := split_Family h'
  refine Spec.of1 Try.func71 rfl (by kernel_rfl) rfl (fun H _ => ?_)
  refine KW.cF rfl rfl (by first | (simp; done) | decide) ?_
  refine KW.callE rfl rfl rfl rfl rfl (eq_Int64SS hB.2 (On.R h1) (On.R k1)) (fun _ _ => ?_)
  refine KW.cF rfl rfl (by first | (simp; done) | decide) ?_
  exact KW.ret rfl rfl rfl rfl (rfl)
theorem sz_Family' {x : T_Family} {cs : List Value} (l0 : 0 ≤ left) (l1 : left ≤ 1048576) (hW : W_Family x) (h : K_Family.R S H0 x cs) : Spec Try.prog S H0 66 [.agg cs.toArray, .int .i64 left] (SzPost left (B_Family x)) := by
  obtain ⟨a1, c1, rfl, h1⟩ := split_Family h
  refine Spec.of1 Try.func66 rfl (by kernel_rfl) rfl (fun H _ => ?_)
  refine KW.call rfl rfl rfl rfl rfl (sz_Int64SS' l0 l1 hW.2 (On.R h1)) (fun v _ _ hv => ?_)
  obtain ⟨r1, rfl, k1⟩ := hv
  refine KW.cnd rfl rfl (fun h => KW.ret rfl rfl rfl rfl ⟨-1, rfl, .inl rfl⟩) (fun h => ?_)
  have k1 := k1.resolve_left (by omega)
  exact KW.ret rfl rfl rfl rfl (⟨_, rfl, .inr ⟨k1.1, by have := k1.2.1; omega, hW.1, k1.2.2⟩⟩)
theorem mark_Family {x : T_Family} {cs : List Value} (hB : B_Family x) (hk : Mk k (sz_Family x)) (hW : ∀ id, W id → S id) (h : M_Family.R W H0 x cs) : SpecW Try.prog S H0 W 72 [.agg cs.toArray, .int .i64 k] (fun n v H1 => v = .int .i64 (k + (sz_Family x : Nat)) ∧ M_Family.R W H1 (mk_Family k x) cs) := by
  obtain ⟨a1, c1, X1, rfl, h1, i1⟩ := splitM_Family h
  refine SpecW.of0 Try.func72 rfl (by kernel_rfl) rfl (fun H hfin hfz => ?_)
  have F1 : Fk M_Int64SS X1 (Low H.n) H _ _ := ⟨(M_Int64SS).same (fun id hid => (hfz id (hW id (i1 id hid))).2) h1, fun id hid => (hfz id (hW id (i1 id hid))).1⟩
  have T : ∀ id, id < H.n → Low H.n id ∧ (¬ W id → H.m id = H.m id) := fun id hid => ⟨hid, fun _ => rfl⟩
  refine KW.callW F1.i rfl rfl rfl rfl rfl (mark_Int64SS hB.2 (k := k) (by have := hk.1; have := hk.2; simp only [sz_Family] at this; constructor <;> omega) F1.i F1.r) (fun v H1 S1 m1 t1 w1 hv => ?_)
  obtain ⟨rfl, g1⟩ := hv
  have F1 : Fk M_Int64SS X1 S1 H1 _ _ := ⟨g1, fun id hid => (t1 id (F1.i id hid)).1⟩
  have T : ∀ id, id < H.n → S1 id ∧ (¬ W id → H1.m id = H.m id) := fun id hid => ⟨(t1 id (T id hid).1).1, fun hw => ((t1 id (T id hid).1).2 (fun o => hw (i1 id o))).trans ((T id hid).2 hw)⟩
  refine KW.retW rfl rfl rfl rfl (fun H1 g => by have := g.n_; omega) (fun id hid hw => ⟨(T id hid).1, (T id hid).2 hw⟩) (fun H1 g => ?_)
  refine ⟨rfl, ?_⟩
  have G1 := (M_Int64SS).same (H' := H1) (fun id hid => (g.froz id (F1.i id hid)).2) F1.r
  have k1 : M_Int64SS.R (fun id => X1 id) H1 (mk_Int64SS (k) x.2) [.slice a1 x.2.length c1] := G1
  have k0 : (Kn.mp (KI) (M_Int64SS)).R (fun id => X1 id) H1 (x.1, (mk_Int64SS (k) x.2)) [.int .i64 x.1, .slice a1 x.2.length c1] := mpR (X := None_) (show KI.R None_ H1 _ [.int .i64 x.1] from rfl) k1 (fun _ p => p.elim) (fun _ p => p) (fun _ p _ => p.elim)
  exact (M_Family).more (fun id p => i1 id p) k0
theorem held_Family {x : T_Family} {cs : List Value} (hB : B_Family x) (hk : Mk k (sz_Family x)) (h : K_Family.R S H0 (mk_Family k x) cs) : Spec Try.prog S H0 79 [.agg cs.toArray, .int .i64 k] (fun v => v = .int .i64 (k + (sz_Family x : Nat))) := by
  obtain ⟨a1, c1, rfl, h1⟩ := split_Family h
  refine Spec.of1 Try.func79 rfl (by kernel_rfl) rfl (fun H _ => ?_)
  refine KW.callE rfl rfl rfl rfl rfl (held_Int64SS hB.2 (k := k) (by have := hk.1; have := hk.2; simp only [sz_Family] at this; constructor <;> omega) (On.R h1)) (fun _ _ => ?_)
  refine KW.no rfl rfl (by have := hk.1; omega) ?_
  exact KW.ret rfl rfl rfl rfl (rfl)
end
end Go.Proofs.Ytmkpfllbmdahkaa.Am
/- Contracts: DualRanks, of the program and of the reference. Each holds under its own conditions. -/
set_option linter.unusedVariables false
set_option linter.unusedSimpArgs false
set_option maxRecDepth 20000
namespace Go.Proofs.Ytmkpfllbmdahkaa.Am
open Go Go.RowKit Go.Proofs
theorem andnot_nat (a b i : Nat) : ((BitVec.ofNat 64 a &&& ~~~BitVec.ofNat 64 b).toNat).testBit i = (decide (i < 64) && (a.testBit i && !b.testBit i)) := by
  rw [BitVec.testBit_toNat, BitVec.getLsbD_and, BitVec.getLsbD_not, BitVec.getLsbD_ofNat, BitVec.getLsbD_ofNat]
  by_cases h : i < 64 <;> simp [h]
theorem dif_small {a b : Nat} (ha : a < 4611686018427387904) : dif a b < 4611686018427387904 := dif_lt (m := 62) ha
theorem andnot_eq {a b : Nat} (ha : a < 4611686018427387904) : (BitVec.ofNat 64 a &&& ~~~BitVec.ofNat 64 b).toNat = dif a b := by
  apply Nat.eq_of_testBit_eq; intro i
  rw [andnot_nat, dif_bit]
  by_cases h : i < 64
  · simp [h]
  · have : a.testBit i = false := Nat.testBit_lt_two_pow (Nat.lt_of_lt_of_le (show a < 2 ^ 62 from ha) (Nat.pow_le_pow_right (by decide) (by omega)))
    simp [h, this]
theorem andnot_u64 {a b : Nat} (ha : a < 4611686018427387904) (hb : b < 4611686018427387904) : IntKind.u64.wrap ((BitVec.ofInt IntKind.u64.bits (a : Int) &&& ~~~BitVec.ofInt IntKind.u64.bits (b : Int)).toNat : Int) = ((dif a b : Nat) : Int) := by
  show IntKind.u64.wrap ((BitVec.ofInt 64 (a : Int) &&& ~~~BitVec.ofInt 64 (b : Int)).toNat : Int) = _
  rw [bv_nat ha, bv_nat hb, andnot_eq ha]
  have := dif_small (b := b) ha
  exact wru (by omega) (by omega)
theorem andnot_i64 {a b : Nat} (ha : a < 4611686018427387904) (hb : b < 4611686018427387904) : IntKind.i64.wrap ((BitVec.ofInt IntKind.i64.bits (a : Int) &&& ~~~BitVec.ofInt IntKind.i64.bits (b : Int)).toNat : Int) = ((dif a b : Nat) : Int) := by
  show IntKind.i64.wrap ((BitVec.ofInt 64 (a : Int) &&& ~~~BitVec.ofInt 64 (b : Int)).toNat : Int) = _
  rw [bv_nat ha, bv_nat hb, andnot_eq ha]
  have := dif_small (b := b) ha
  exact wr (by omega) (by omega)
/-- The sum of the single ranks of some holders. -/
def sumL (l : List Int) : List Int → Int
  | [] => 0
  | h :: hs => l.getD (2 ^ h.toNat) 0 + sumL l hs
theorem sumL_app (l : List Int) (xs : List Int) (h : Int) : sumL l (xs ++ [h]) = sumL l xs + l.getD (2 ^ h.toNat) 0 := by
  induction xs with
  | nil => simp [sumL]
  | cons x xs ih => simp only [List.cons_append, sumL, ih]; omega
theorem sumL_hold (l : List Int) (c : Nat) : ∀ n, sumL l (hold c n) = sumH l c n
  | 0 => rfl
  | n + 1 => by
    rw [hold_next]
    simp only [sumH]
    by_cases h : c.testBit n = true
    · rw [if_pos h, if_pos h, sumL_app, sumL_hold l c n]; rfl
    · rw [if_neg h, if_neg h, sumL_hold l c n]; omega
theorem hold_mem {c n : Nat} {x : Int} (h : x ∈ hold c n) : ∃ i : Nat, x = i ∧ i < n ∧ c.testBit i = true := by
  unfold hold at h
  obtain ⟨i, hi, rfl⟩ := List.mem_map.1 h
  obtain ⟨h1, h2⟩ := List.mem_filter.1 hi
  exact ⟨i, rfl, List.mem_range.1 h1, h2⟩
theorem sumL_in {l : List Int} (hw : Within l) : ∀ xs : List Int, 0 ≤ sumL l xs ∧ sumL l xs ≤ 100000 * xs.length
  | [] => by simp [sumL]
  | x :: xs => by
    have h := sumL_in hw xs
    have h1 : 0 ≤ l.getD (2 ^ x.toNat) 0 ∧ l.getD (2 ^ x.toNat) 0 ≤ 100000 := by
      rcases Nat.lt_or_ge (2 ^ x.toNat) l.length with h | h
      · exact hw _ h
      · rw [List.getD_eq_getElem?_getD, List.getElem?_eq_none h]; show 0 ≤ (0 : Int) ∧ (0 : Int) ≤ 100000; omega
    simp only [sumL, List.length_cons]
    omega
theorem getD_in {l : List Int} (hw : Within l) (i : Nat) : 0 ≤ l.getD i 0 ∧ l.getD i 0 ≤ 100000 := by
  rcases Nat.lt_or_ge i l.length with h | h
  · exact hw _ h
  · rw [List.getD_eq_getElem?_getD, List.getElem?_eq_none h]; show 0 ≤ (0 : Int) ∧ (0 : Int) ≤ 100000; omega
theorem sumL_take {l xs : List Int} {i : Nat} {x : Int} (h : xs[i]? = some x) : sumL l (xs.take (i + 1)) = sumL l (xs.take i) + l.getD (2 ^ x.toNat) 0 := by
  obtain ⟨hi, rfl⟩ := List.getElem?_eq_some_iff.1 h
  rw [List.take_succ_eq_append_getElem hi, sumL_app]
theorem sumH_in {l : List Int} (hw : Within l) (c : Nat) : ∀ n, 0 ≤ sumH l c n ∧ sumH l c n ≤ 100000 * n
  | 0 => by simp [sumH]
  | n + 1 => by
    have h := sumH_in hw c n
    have h1 := getD_in hw (2 ^ n)
    simp only [sumH]
    split <;> omega
theorem ranksM {X : Ids} {H : AH} {v : Value} {m u : Int} {xs : List Int} (h : KI.Ml X H v xs) : M_Ranks.R X H (m, u, xs) [.int .i64 m, .int .i64 u, v] :=
  mpR (X := None_) (cs := [.int .i64 m]) (show KI.R None_ H m _ from rfl) (mpR (X := None_) (cs := [.int .i64 u]) (show KI.R None_ H u _ from rfl) (ml1' h) (fun _ p => p.elim) (fun _ p => p) (fun _ p _ => p.elim)) (fun _ p => p.elim) (fun _ p => p) (fun _ p _ => p.elim)
theorem familyOpens {m : Int} {gs : List (List Int)} {q : Nat} (hq : m = q) (h : codeF m gs = 0) : FamOk m gs ∧ Opens gs (2 ^ q - 1) := by
  unfold codeF at h
  split at h
  · rename_i h1
    have h1 := tv_iff.1 h1
    refine ⟨h1, ?_⟩
    have h2 : gs.length ≠ 0 := fun hc => by
      rw [if_pos hc] at h
      split at h <;> cases h
    obtain ⟨g, hg⟩ : ∃ g, gs[0]? = some g := ⟨gs[0]'(by omega), List.getElem?_eq_getElem (by omega)⟩
    have hgm := List.mem_of_getElem? hg
    refine ⟨g, hgm, ?_⟩
    have hb : bitsOf g < 2 ^ q := bitsOf_lt (fun x hx => by have := h1.below g hgm x hx; omega)
    rw [Nat.and_comm, Nat.and_two_pow_sub_one_eq_mod, Nat.mod_eq_of_lt hb]
  · cases h
theorem range_map_succ' {α : Type} (f : Nat → α) (n : Nat) : (List.range (n + 1)).map f = (List.range n).map f ++ [f n] := by rw [List.range_succ, List.map_append]; rfl
/-- The code of dual ranks. -/
noncomputable def r1_DualRanks (x : T_Ranks) (y : T_Family) : Int :=
  if fitC x.1 x.2.1 x.2.2 y.1 y.2 = 0 then (if tv (∀ a, a < x.2.2.length → ∀ b, b < x.2.2.length → ¬ Mis x.2.2 x.2.1 y.2 a b) = true then (if tv (∀ z ∈ dualL x.2.2 x.2.1 y.2 x.1.toNat (2 ^ x.1.toNat), z ≤ 100000) = true then 0 else 3) else 8) else fitC x.1 x.2.1 x.2.2 y.1 y.2
noncomputable def r0_DualRanks (x : T_Ranks) (y : T_Family) : T_Ranks := if r1_DualRanks x y = 0 then (x.1, x.2.1, dualL x.2.2 x.2.1 y.2 x.1.toNat (2 ^ x.1.toNat)) else (0, 0, [])
/-- Ranks and a code. -/
def MkRC (r : T_Ranks) (code : Int) (n : Nat) (v : Value) (H1 : AH) : Prop := ∃ cs : List Value, v = .tuple #[.agg cs.toArray, .int .i64 code] ∧ M_Ranks.R (New n H1.n) H1 r cs
theorem MkRC.nil {code : Int} {n : Nat} {v : Value} {H1 : AH} (hv : v = .tuple #[.agg #[.int .i64 0, .int .i64 0, .slice none 0 0], .int .i64 code]) : MkRC (0, 0, []) code n v H1 := ⟨_, hv, ranksM (.inl ⟨rfl, _, _, rfl, fun _ => rfl⟩)⟩
theorem built_Ranks (a b : Int) : Try.prog.built 37 [(0, .int .i64 a), (1, .int .i64 b)] = some #[.int .i64 a, .int .i64 b, .slice none 0 0] := by kernel_rfl
theorem built_Ranks0 : Try.prog.built 37 [] = some #[.int .i64 0, .int .i64 0, .slice none 0 0] := by kernel_rfl
section
variable {S : Ids} {H0 : AH}
end
end Go.Proofs.Ytmkpfllbmdahkaa.Am
/- Contracts: the ranks of a scheme, of the program and of the reference. Each holds under its own conditions. -/
set_option linter.unusedVariables false
set_option linter.unusedSimpArgs false
set_option maxRecDepth 20000
namespace Go.Proofs.Ytmkpfllbmdahkaa.Am
open Go Go.RowKit Go.Proofs Go.Proofs.Ytmkpfllbmdahkaa.Pl
/-- The ranks of the rows of the groups with the numbers below n. -/
def srL (p : Int) (k : Nat) (ow : List Int) (rows : List (List Int)) (n : Nat) : List Int := (List.range n).map fun x => rkM p k (heldR ow rows x)
theorem srL_len {p : Int} {k n : Nat} {ow : List Int} {rows : List (List Int)} : (srL p k ow rows n).length = n := by simp [srL]
theorem srL_next {p : Int} {k n : Nat} {ow : List Int} {rows : List (List Int)} : srL p k ow rows (n + 1) = srL p k ow rows n ++ [rkM p k (heldR ow rows n)] := range_map_succ' _ n
def SchOk (x : T_Scheme) : Prop := OkSch x.1 x.2.1 x.2.2.1 x.2.2.2.1 x.2.2.2.2
noncomputable def r1_SchemeRanks (x : T_Scheme) : Int := if tv (SchOk x) = true then (if x.1 ≤ 5 then 0 else 3) else 1
noncomputable def r0_SchemeRanks (x : T_Scheme) : T_Ranks := if r1_SchemeRanks x = 0 then (x.1, 1, srL x.2.2.1 x.2.2.2.1.toNat x.2.1 x.2.2.2.2 (2 ^ x.1.toNat)) else (0, 0, [])
section
variable {S : Ids} {H0 : AH}
theorem split2_Scheme {x : T_Scheme} {cs : List Value} (h : K_Scheme.R S H0 x cs) : ∃ a1 c1 a2 c2, cs = [.int .i64 x.1, .slice a1 x.2.1.length c1, .int .i64 x.2.2.1, .int .i64 x.2.2.2.1, .slice a2 x.2.2.2.2.length c2] ∧ KI.Sl S H0 (.slice a1 x.2.1.length c1) x.2.1 ∧ KI.sl.Sl S H0 (.slice a2 x.2.2.2.2.length c2) x.2.2.2.2 := by
  obtain ⟨a1, c1, a2, c2, rfl, h1, h2⟩ := split_Scheme h
  obtain ⟨a3, c3, e, h3⟩ := split_Matrix h2
  simp only [List.cons.injEq, Value.slice.injEq, true_and, and_true] at e
  obtain ⟨rfl, rfl⟩ := e
  exact ⟨_, _, _, _, rfl, sl1 h1, sl1 h3⟩
theorem specValidScheme (h p c : Int) (hp : I64 p) {a1 c1 a2 c2} {ow : List Int} {rows : List (List Int)} (hO : B_Int64S ow) (hB : B_Int64SS rows) (ho : KI.Sl S H0 (.slice a1 ow.length c1) ow) (hs : KI.sl.Sl S H0 (.slice a2 rows.length c2) rows) :
    Spec Try.prog S H0 107 [.agg #[.int .i64 h, .slice a1 ow.length c1, .int .i64 p, .int .i64 c, .slice a2 rows.length c2]] (fun v => v = .bool (tv (OkSch h ow p c rows))) := by
  refine Spec.of1 Try.func107 rfl (by kernel_rfl) rfl (fun H _ => ?_)
  refine KW.callV1 rfl rfl rfl rfl rfl (fun H1 g _ => l04Ok h p c hp hO hB (g.has3 (j := 0) rfl) ho.up hs.up) (fun _ _ => ?_)
  exact KW.ret rfl rfl rfl rfl (rfl)
theorem hold_has {y : Int} {x q : Nat} (h0 : 0 ≤ y) (h1 : y < q) : decide (y ∈ hold x q) = x.testBit y.toNat := by
  obtain ⟨j, rfl⟩ : ∃ j : Nat, y = j := ⟨y.toNat, by omega⟩
  rw [Int.toNat_natCast]
  by_cases hb : x.testBit j = true
  · rw [hb, decide_eq_true]
    exact List.mem_map.2 ⟨j, List.mem_filter.2 ⟨List.mem_range.2 (by omega), hb⟩, rfl⟩
  · rw [decide_eq_false (fun hm => by obtain ⟨i, h2, _, h3⟩ := hold_mem hm; exact hb (by rw [show j = i by omega]; exact h3))]
    simpa using hb
theorem impl_SchemeRanks {x : T_Scheme} {cs : List Value} (hB : B_Scheme x) (h : K_Scheme.R S H0 x cs) : SpecM Try.prog S H0 23 [.agg cs.toArray] (MkRC (r0_SchemeRanks x) (r1_SchemeRanks x)) := by
  obtain ⟨a1, c1, a2, c2, rfl, s1, s2⟩ := split2_Scheme h
  obtain ⟨h', ow, p, c, rows⟩ := x
  simp only at s1 s2 ⊢
  have hO : B_Int64S ow := hB.2.1
  have hBr : B_Int64SS rows := hB.2.2.2.2
  have hp : I64 p := hB.2.2.1
  refine SpecM.of1 Try.func23 rfl (by kernel_rfl) rfl (fun H _ => ?_)
  refine KW.callE rfl rfl rfl rfl rfl (validScheme h' p c hp hO hBr s1.up s2.up) (fun n9 m9 => ?_)
  by_cases hk : OkSch h' ow p c rows
  · rw [tv_true hk]
    refine KW.cF rfl rfl (by first | (simp; done) | decide) ?_
    by_cases h5 : h' ≤ 5
    · have e1 : r1_SchemeRanks (h', ow, p, c, rows) = 0 := by unfold r1_SchemeRanks; rw [if_pos (show tv (SchOk (h', ow, p, c, rows)) = true from tv_true hk), if_pos h5]
      have e0 : r0_SchemeRanks (h', ow, p, c, rows) = (h', 1, srL p c.toNat ow rows (2 ^ h'.toNat)) := by unfold r0_SchemeRanks; rw [if_pos e1]
      rw [e0, e1]
      obtain ⟨q, rfl⟩ : ∃ q : Nat, h' = q := ⟨h'.toNat, by have := hk.h1; omega⟩
      obtain ⟨k, rfl⟩ : ∃ k : Nat, c = k := ⟨c.toNat, by have := hk.c1; omega⟩
      have hk12 := hk.mat.c1
      have hpr := hk.mat.pr
      simp only [Int.toNat_natCast]
      have hq5 : q ≤ 5 := by omega
      have hpw := small_pow (m := q) (by omega)
      have hpos := Nat.two_pow_pos q
      refine KW.no rfl rfl (by omega) ?_
      refine KW.build rfl rfl rfl rfl rfl (built_Ranks _ _) ?_
      refine KW.lpM rfl rfl (fun s : Nat × Value × List Var => [(1, .pointer (some ⟨H.n, 0, some 0⟩)), (2, .pointer (some ⟨H.n + 1, 0, some 1⟩)), (4, .pointer (some ⟨n9, 0, some 2⟩)), (5, .int .u64 s.1)]) (fun s => Low H.n) (fun s => H) (fun s => [(H.n, ⟨41, true, [.int .i64 q, .slice a1 ow.length c1, .int .i64 p, .int .i64 k, .slice a2 rows.length c2]⟩), (H.n + 1, ⟨37, true, [.int .i64 0, .int .i64 0, .slice none 0 0]⟩), (n9, ⟨37, true, [.int .i64 q, .int .i64 1, s.2.1]⟩)] ++ s.2.2) (fun s => s.1 ≤ 2 ^ q ∧ ((s.1 = 0 ∧ s.2.1 = .slice none 0 0 ∧ s.2.2 = []) ∨ (0 < s.1 ∧ ∃ o, s.2.1 = .slice (some ⟨o, 0, some 1⟩) (srL p k ow rows s.1).length (srL p k ow rows s.1).length ∧ s.2.2 = [(o, ⟨2, true, (srL p k ow rows s.1).map (Value.int .i64)⟩)]))) (fun s => 2 ^ q - s.1) ((0, .slice none 0 0, [])) (⟨by simp only; omega, .inl ⟨rfl, rfl, rfl⟩⟩) ⟨rfl, rfl, rfl, rfl, trivial⟩ rfl rfl rfl (fun s hi bE n => ?_)
      obtain ⟨x, lv, tail⟩ := s
      obtain ⟨hi, hcase⟩ := hi
      simp only at hi hcase
      have hlen := srL_len (p := p) (k := k) (n := x) (ow := ow) (rows := rows)
      have enx := srL_next (p := p) (k := k) (n := x) (ow := ow) (rows := rows)
      rcases hcase with ⟨hc0, rfl, rfl⟩ | ⟨hc0, o, rfl, rfl⟩
      all_goals
        refine KW.callE rfl rfl rfl rfl rfl (everybody (m := q) (by omega)) (fun n8 m8 => ?_)
        refine KW.cnd rfl rfl (fun k2 => ?gin) (fun k2 => ?gout)
        case gin =>
          have k2 : (x : Int) ≤ ((2 ^ q - 1 : Nat) : Int) := k2
          refine KW.callN1 rfl rfl rfl rfl rfl (held (q : Int) p k x (by omega) hO hBr hk s1.up s2.up) (fun v HM SM mM _ _ hv => ?_)
          obtain ⟨a6, c6, rfl, hM⟩ := hv
          refine KW.callN1 rfl rfl rfl rfl rfl (rankM ⟨hpr.1, hpr.2.1⟩ (by omega) (rect_sml (held_rect hk rfl) (by omega) (by have := held_len hk (q := fun i => x.testBit (ow.getD i 0).toNat); omega)) (held_rect hk rfl) hM.up) (fun v HC SC mC _ _ hv => ?_)
          obtain rfl := hv
          rw [show selR rows (rowsP (fun i => x.testBit (ow.getD i 0).toNat) ow.length) = heldR ow rows x from rfl]
          first
            | (refine KW.app0 (v := .int .i64 (rkM p k (heldR ow rows x))) 3 rfl rfl rfl rfl rfl rfl rfl rfl rfl rfl rfl rfl rfl rfl rfl rfl rfl rfl rfl rfl rfl rfl (by decide) ?_
               subst hc0
               exact KW.nxt rfl rfl (fun H' g => ⟨(1, _, _), ⟨by simp only; omega, .inr ⟨by simp, _, rfl, rfl⟩⟩, by simp only; omega, ⟨rfl, rfl, rfl, rfl, trivial⟩, g.back⟩))
            | (refine KW.app1 (xs := (srL p k ow rows x).map (Value.int .i64)) (v := .int .i64 (rkM p k (heldR ow rows x))) 3 4 rfl rfl rfl rfl rfl rfl rfl rfl rfl rfl rfl rfl rfl rfl rfl rfl rfl rfl rfl rfl rfl rfl rfl (by simp) (by show (_ + 1) * 8 ≤ _; omega) (by omega) ?_
               exact KW.nxt rfl rfl (fun H' g => ⟨(x + 1, _, _), ⟨by simp only; omega, .inr ⟨by simp, _, by simp only [enx, List.length_append, List.length_singleton]; rfl, by simp only [enx, List.map_append]; rfl⟩⟩, by simp only; omega, ⟨rfl, rfl, rfl, congrArg (Value.int .u64) (incu64 (by omega)), trivial⟩, g.back.eqT (by simp only [enx, List.map_append]; rfl)⟩))
        case gout =>
          have k2 : ¬ (x : Int) ≤ ((2 ^ q - 1 : Nat) : Int) := k2
          have hcq : x = 2 ^ q := by omega
          first
            | (exfalso; omega)
            | (subst hcq
               refine KW.retM1 rfl rfl rfl rfl (fun H1 g => ?_)
               exact ⟨_, rfl, ranksM (int_ml ⟨g.ge (H1 := H) (j := 3) rfl, (g.blk (j := 3) rfl).2⟩ (g.blk (j := 3) rfl).1 rfl rfl (Nat.le_refl _))⟩)
    · have e1 : r1_SchemeRanks (h', ow, p, c, rows) = 3 := by unfold r1_SchemeRanks; rw [if_pos (show tv (SchOk (h', ow, p, c, rows)) = true from tv_true hk), if_neg h5]
      rw [show r0_SchemeRanks (h', ow, p, c, rows) = (0, 0, []) from by unfold r0_SchemeRanks; rw [e1]; rfl, e1]
      refine KW.yes rfl rfl (by omega) ?_
      refine KW.build rfl rfl rfl rfl rfl (built_Ranks0) ?_
      refine KW.retM1 rfl rfl rfl rfl (fun H1 g => ?_)
      exact MkRC.nil rfl
  · have e1 : r1_SchemeRanks (h', ow, p, c, rows) = 1 := by unfold r1_SchemeRanks; rw [if_neg (by rw [show tv (SchOk (h', ow, p, c, rows)) = false from tv_false hk]; decide)]
    rw [show r0_SchemeRanks (h', ow, p, c, rows) = (0, 0, []) from by unfold r0_SchemeRanks; rw [e1]; rfl, e1, tv_false hk]
    refine KW.cT rfl rfl (by first | (simp; done) | decide) ?_
    refine KW.build rfl rfl rfl rfl rfl (built_Ranks0) ?_
    refine KW.retM1 rfl rfl rfl rfl (fun H1 g => ?_)
    exact MkRC.nil rfl
theorem spec_SchemeRanks {x : T_Scheme} {cs : List Value} (hB : B_Scheme x) (h : K_Scheme.R S H0 x cs) : SpecM Try.prog S H0 21 [.agg cs.toArray] (MkRC (r0_SchemeRanks x) (r1_SchemeRanks x)) := by
  obtain ⟨a1, c1, a2, c2, rfl, s1, s2⟩ := split2_Scheme h
  obtain ⟨h', ow, p, c, rows⟩ := x
  simp only at s1 s2 ⊢
  have hO : B_Int64S ow := hB.2.1
  have hBr : B_Int64SS rows := hB.2.2.2.2
  have hp : I64 p := hB.2.2.1
  refine SpecM.of1 Try.func21 rfl (by kernel_rfl) rfl (fun H _ => ?_)
  refine KW.callE rfl rfl rfl rfl rfl (specValidScheme h' p c hp hO hBr s1.up s2.up) (fun n9 m9 => ?_)
  by_cases hk : OkSch h' ow p c rows
  · rw [tv_true hk]
    refine KW.cF rfl rfl (by first | (simp; done) | decide) ?_
    by_cases h5 : h' ≤ 5
    · have e1 : r1_SchemeRanks (h', ow, p, c, rows) = 0 := by unfold r1_SchemeRanks; rw [if_pos (show tv (SchOk (h', ow, p, c, rows)) = true from tv_true hk), if_pos h5]
      have e0 : r0_SchemeRanks (h', ow, p, c, rows) = (h', 1, srL p c.toNat ow rows (2 ^ h'.toNat)) := by unfold r0_SchemeRanks; rw [if_pos e1]
      rw [e0, e1]
      obtain ⟨q, rfl⟩ : ∃ q : Nat, h' = q := ⟨h'.toNat, by have := hk.h1; omega⟩
      obtain ⟨k, rfl⟩ : ∃ k : Nat, c = k := ⟨c.toNat, by have := hk.c1; omega⟩
      have hk12 := hk.mat.c1
      have hpr := hk.mat.pr
      have hpI : I64 p := hp
      simp only [Int.toNat_natCast]
      have hq5 : q ≤ 5 := by omega
      have hpw := small_pow (m := q) (by omega)
      have hpos := Nat.two_pow_pos q
      refine KW.no rfl rfl (by omega) ?_
      refine KW.build rfl rfl rfl rfl rfl (built_Ranks _ _) ?_
      refine KW.lpM rfl rfl (fun s : Nat × Value × List Var => [(1, .pointer (some ⟨H.n, 0, some 0⟩)), (2, .pointer (some ⟨H.n + 1, 0, some 1⟩)), (4, .pointer (some ⟨n9, 0, some 2⟩)), (5, .int .i64 s.1)]) (fun s => Low H.n) (fun s => H) (fun s => [(H.n, ⟨41, true, [.int .i64 q, .slice a1 ow.length c1, .int .i64 p, .int .i64 k, .slice a2 rows.length c2]⟩), (H.n + 1, ⟨37, true, [.int .i64 0, .int .i64 0, .slice none 0 0]⟩), (n9, ⟨37, true, [.int .i64 q, .int .i64 1, s.2.1]⟩)] ++ s.2.2) (fun s => s.1 ≤ 2 ^ q ∧ ((s.1 = 0 ∧ s.2.1 = .slice none 0 0 ∧ s.2.2 = []) ∨ (0 < s.1 ∧ ∃ o, s.2.1 = .slice (some ⟨o, 0, some 1⟩) (srL p k ow rows s.1).length (srL p k ow rows s.1).length ∧ s.2.2 = [(o, ⟨2, true, (srL p k ow rows s.1).map (Value.int .i64)⟩)]))) (fun s => 2 ^ q - s.1) ((0, .slice none 0 0, [])) (⟨by simp only; omega, .inl ⟨rfl, rfl, rfl⟩⟩) ⟨rfl, rfl, rfl, rfl, trivial⟩ rfl rfl rfl (fun s hi bE n => ?_)
      obtain ⟨x, lv, tail⟩ := s
      obtain ⟨hi, hcase⟩ := hi
      simp only at hi hcase
      have hlen := srL_len (p := p) (k := k) (n := x) (ow := ow) (rows := rows)
      have enx := srL_next (p := p) (k := k) (n := x) (ow := ow) (rows := rows)
      rcases hcase with ⟨hc0, rfl, rfl⟩ | ⟨hc0, o, rfl, rfl⟩
      all_goals
        refine KW.shlI rfl rfl rfl rfl rfl rfl q (wru (by omega) (by omega)) (by omega) ?_
        refine KW.cnd rfl rfl (fun k2 => ?gin) (fun k2 => ?gout)
        case gin =>
          have k2 : (x : Int) < ((2 ^ q : Nat) : Int) := k2
          refine KW.callN1 rfl rfl rfl rfl rfl (l06Holders (x := x) (m := q) (by omega) (by omega)) (fun v HG SG mG _ _ hv => ?_)
          obtain ⟨a5, c5, rfl, hG⟩ := hv
          have hgl := hold_len x q
          refine KW.callNV1 rfl rfl rfl rfl rfl (fun H1 g _ => l04Part (q : Int) p k (id := H.n) (kk := 0) hO hBr hk (by omega) (g.has3 (j := 0) rfl) s1.up s2.up hG.ups) (fun v HM SM mM _ _ hv => ?_)
          obtain ⟨a6, c6, rfl, hM⟩ := hv
          have esel : selR rows (rowsP (fun i => decide (ow.getD i 0 ∈ hold x q)) ow.length) = heldR ow rows x := by
            unfold heldR
            rw [rowsP_congr fun i hi => ?_]
            have hm := hk.own (ow.getD i 0) (by rw [List.getD_eq_getElem?_getD, List.getElem?_eq_getElem hi]; exact List.getElem_mem hi)
            exact hold_has hm.1 (by omega)
          rw [esel] at hM ⊢
          have hRe : Rect p k (heldR ow rows x) := held_rect hk rfl
          have hRl : (heldR ow rows x).length ≤ 20 := held_len hk
          refine KW.callN1 rfl rfl rfl rfl rfl (spec_RankOf' hpI (rect_sml hRe (by omega) (by omega)) hM.up) (fun v HC SC mC _ _ hv => ?_)
          obtain rfl := hv
          have hOM : OkMat p k (heldR ow rows x) := ⟨hpr, by omega, hk12, hRl, fun r hr => hk.mat.row r (selR_mem (held_in hk) hr)⟩
          rw [tv_true hOM, if_pos rfl]
          first
            | (refine KW.app0 (v := .int .i64 (rkM p k (heldR ow rows x))) 3 rfl rfl rfl rfl rfl rfl rfl rfl rfl rfl rfl rfl rfl rfl rfl rfl rfl rfl rfl rfl rfl rfl (by decide) ?_
               subst hc0
               exact KW.nxt rfl rfl (fun H' g => ⟨(1, _, _), ⟨by simp only; omega, .inr ⟨by simp, _, rfl, rfl⟩⟩, by simp only; omega, ⟨rfl, rfl, rfl, rfl, trivial⟩, g.back⟩))
            | (refine KW.app1 (xs := (srL p k ow rows x).map (Value.int .i64)) (v := .int .i64 (rkM p k (heldR ow rows x))) 3 4 rfl rfl rfl rfl rfl rfl rfl rfl rfl rfl rfl rfl rfl rfl rfl rfl rfl rfl rfl rfl rfl rfl rfl (by simp) (by show (_ + 1) * 8 ≤ _; omega) (by omega) ?_
               exact KW.nxt rfl rfl (fun H' g => ⟨(x + 1, _, _), ⟨by simp only; omega, .inr ⟨by simp, _, by simp only [enx, List.length_append, List.length_singleton]; rfl, by simp only [enx, List.map_append]; rfl⟩⟩, by simp only; omega, ⟨rfl, rfl, rfl, congrArg (Value.int .i64) (inc64 (by omega)), trivial⟩, g.back.eqT (by simp only [enx, List.map_append]; rfl)⟩))
        case gout =>
          have k2 : ¬ (x : Int) < ((2 ^ q : Nat) : Int) := k2
          have hcq : x = 2 ^ q := by omega
          first
            | (exfalso; omega)
            | (subst hcq
               refine KW.retM1 rfl rfl rfl rfl (fun H1 g => ?_)
               exact ⟨_, rfl, ranksM (int_ml ⟨g.ge (H1 := H) (j := 3) rfl, (g.blk (j := 3) rfl).2⟩ (g.blk (j := 3) rfl).1 rfl rfl (Nat.le_refl _))⟩)
    · have e1 : r1_SchemeRanks (h', ow, p, c, rows) = 3 := by unfold r1_SchemeRanks; rw [if_pos (show tv (SchOk (h', ow, p, c, rows)) = true from tv_true hk), if_neg h5]
      rw [show r0_SchemeRanks (h', ow, p, c, rows) = (0, 0, []) from by unfold r0_SchemeRanks; rw [e1]; rfl, e1]
      refine KW.yes rfl rfl (by omega) ?_
      refine KW.build rfl rfl rfl rfl rfl (built_Ranks0) ?_
      refine KW.retM1 rfl rfl rfl rfl (fun H1 g => ?_)
      exact MkRC.nil rfl
  · have e1 : r1_SchemeRanks (h', ow, p, c, rows) = 1 := by unfold r1_SchemeRanks; rw [if_neg (by rw [show tv (SchOk (h', ow, p, c, rows)) = false from tv_false hk]; decide)]
    rw [show r0_SchemeRanks (h', ow, p, c, rows) = (0, 0, []) from by unfold r0_SchemeRanks; rw [e1]; rfl, e1, tv_false hk]
    refine KW.cT rfl rfl (by first | (simp; done) | decide) ?_
    refine KW.build rfl rfl rfl rfl rfl (built_Ranks0) ?_
    refine KW.retM1 rfl rfl rfl rfl (fun H1 g => ?_)
    exact MkRC.nil rfl
theorem bound_SchemeRanks {x : T_Scheme} (hB : B_Scheme x) : B_Ranks (r0_SchemeRanks x) := by
  unfold r0_SchemeRanks
  split
  · rename_i h
    refine ⟨hB.1, by unfold I64; simp, ?_⟩
    show (srL _ _ _ _ _).length ≤ 1048576
    rw [srL_len]
    have h5 : x.1 ≤ 5 := by
      unfold r1_SchemeRanks at h
      split at h
      · split at h
        · assumption
        · cases h
      · cases h
    have : 2 ^ x.1.toNat ≤ 2 ^ 5 := Nat.pow_le_pow_right (by decide) (by omega)
    omega
  · exact ⟨by unfold I64; simp, by unfold I64; simp, by show 0 ≤ _; omega⟩
end
end Go.Proofs.Ytmkpfllbmdahkaa.Am
/- Contracts: the change of blinds, of the program and of the reference. Each holds under its own conditions. -/
set_option linter.unusedVariables false
set_option linter.unusedSimpArgs false
set_option maxRecDepth 20000
namespace Go.Proofs.Ytmkpfllbmdahkaa.Am
open Go Go.RowKit Go.Proofs Go.Proofs.Ytmkpfllbmdahkaa.Pl
/-- 1 in the first place, 0 in the others. -/
def unitL (k : Nat) : List Int := 1 :: List.replicate (k - 1) 0
theorem unitL_len {k : Nat} (h : 1 ≤ k) : (unitL k).length = k := by simp [unitL]; omega
theorem unitL_cells {k : Nat} (h : 1 ≤ k) : (List.replicate k (Value.int .i64 0)).set (0 + (0 : Int).toNat * 1) (Value.int .i64 1) = (unitL k).map (Value.int .i64) := by
  obtain ⟨m, rfl⟩ : ∃ m, k = m + 1 := ⟨k - 1, by omega⟩
  simp [unitL, List.replicate_succ]
theorem ech_piv (p : Int) (L : List (List Int)) : ∀ c, (ech p L c).2.length ≤ c
  | 0 => by simp [ech]
  | c + 1 => by
    have h := ech_piv p L c
    simp only [ech]
    split
    · omega
    · simp; omega
theorem rk_le (p : Int) (k : Nat) (L : List (List Int)) : rkM p k L ≤ k := by
  unfold rkM
  have := ech_piv p L (k : Int).toNat
  simp only [Int.toNat_natCast] at this ⊢
  omega
def MatOk (y : T_Matrix) : Prop := OkMat y.1 y.2.1 y.2.2
noncomputable def r1_ChangeBlinds (x : T_Scheme) (y : T_Matrix) : Int :=
  if tv (SchOk x ∧ MatOk y) = true then
    (if y.1 = x.2.2.1 ∧ (y.2.2.length : Int) = x.2.2.2.1 ∧ y.2.1 = x.2.2.2.1 then (if rkM y.1 y.2.1 y.2.2 = y.2.1 ∧ y.2.2.getD 0 [] = unitL y.2.1.toNat then 0 else 4) else 2)
  else 1
noncomputable def r0_ChangeBlinds (x : T_Scheme) (y : T_Matrix) : T_Scheme := if r1_ChangeBlinds x y = 0 then (x.1, x.2.1, (y.1, y.2.1, prodL y.1 x.2.2.2.2 (trL y.2.2 y.2.1.toNat))) else (0, [], (0, 0, []))
/-- A scheme and a code. -/
def MkSC (r : T_Scheme) (code : Int) (n : Nat) (v : Value) (H1 : AH) : Prop := ∃ cs : List Value, v = .tuple #[.agg cs.toArray, .int .i64 code] ∧ M_Scheme.R (New n H1.n) H1 r cs
theorem schemeM {X X1 X2 : Ids} {H : AH} {h p c : Int} {v w : Value} {ow : List Int} {rows : List (List Int)} (h1 : KI.Ml X1 H v ow) (h2 : KI.ml.Ml X2 H w rows) (i1 : ∀ id, X1 id → X id) (i2 : ∀ id, X2 id → X id) (hd : ∀ id, X1 id → X2 id → False) : M_Scheme.R X H (h, ow, (p, c, rows)) [.int .i64 h, v, .int .i64 p, .int .i64 c, w] :=
  have k2 : M_Matrix.R X2 H (p, c, rows) [.int .i64 p, .int .i64 c, w] := mpR (X := None_) (cs := [.int .i64 p]) (show KI.R None_ H p _ from rfl) (mpR (X := None_) (cs := [.int .i64 c]) (show KI.R None_ H c _ from rfl) (ml1' h2) (fun _ p => p.elim) (fun _ p => p) (fun _ p _ => p.elim)) (fun _ p => p.elim) (fun _ p => p) (fun _ p _ => p.elim)
  mpR (X := None_) (cs := [.int .i64 h]) (show KI.R None_ H h _ from rfl) (mpR (cs := [v]) (ml1' h1) k2 i1 i2 hd) (fun _ p => p.elim) (fun _ p => p) (fun _ p _ => p.elim)
theorem MkSC.nil {code : Int} {n : Nat} {v : Value} {H1 : AH} (hv : v = .tuple #[.agg #[.int .i64 0, .slice none 0 0, .int .i64 0, .int .i64 0, .slice none 0 0], .int .i64 code]) : MkSC (0, [], (0, 0, [])) code n v H1 :=
  ⟨_, hv, schemeM (X1 := None_) (X2 := None_) (.inl ⟨rfl, _, _, rfl, fun _ => rfl⟩) (.inl ⟨rfl, _, _, rfl, fun _ => rfl⟩) (fun _ p => p.elim) (fun _ p => p.elim) (fun _ p _ => p.elim)⟩
theorem built_Scheme0 : Try.prog.built 41 [] = some #[.int .i64 0, .slice none 0 0, .int .i64 0, .int .i64 0, .slice none 0 0] := by kernel_rfl
theorem built_Scheme3 (h p c : Int) (a1 : Option Addr) (n1 c1 : Nat) (a2 : Option Addr) (n2 c2 : Nat) : Try.prog.built 41 [(0, .int .i64 h), (1, .slice a1 n1 c1), (2, .agg #[.int .i64 p, .int .i64 c, .slice a2 n2 c2])] = some #[.int .i64 h, .slice a1 n1 c1, .int .i64 p, .int .i64 c, .slice a2 n2 c2] := by kernel_rfl
theorem cb_bad {x : T_Scheme} {y : T_Matrix} (h : ¬ (SchOk x ∧ MatOk y)) : r1_ChangeBlinds x y = 1 ∧ r0_ChangeBlinds x y = (0, [], (0, 0, [])) := by
  have e : r1_ChangeBlinds x y = 1 := by unfold r1_ChangeBlinds; rw [if_neg (by rw [tv_false h]; decide)]
  exact ⟨e, by unfold r0_ChangeBlinds; rw [if_neg (by rw [e]; decide)]⟩
theorem cb_range {x : T_Scheme} {y : T_Matrix} (h : SchOk x ∧ MatOk y) (h2 : ¬ (y.1 = x.2.2.1 ∧ (y.2.2.length : Int) = x.2.2.2.1 ∧ y.2.1 = x.2.2.2.1)) : r1_ChangeBlinds x y = 2 ∧ r0_ChangeBlinds x y = (0, [], (0, 0, [])) := by
  have e : r1_ChangeBlinds x y = 2 := by unfold r1_ChangeBlinds; rw [if_pos (tv_true h), if_neg h2]
  exact ⟨e, by unfold r0_ChangeBlinds; rw [if_neg (by rw [e]; decide)]⟩
theorem cb_state {x : T_Scheme} {y : T_Matrix} (h : SchOk x ∧ MatOk y) (h2 : y.1 = x.2.2.1 ∧ (y.2.2.length : Int) = x.2.2.2.1 ∧ y.2.1 = x.2.2.2.1) (h3 : ¬ (rkM y.1 y.2.1 y.2.2 = y.2.1 ∧ y.2.2.getD 0 [] = unitL y.2.1.toNat)) : r1_ChangeBlinds x y = 4 ∧ r0_ChangeBlinds x y = (0, [], (0, 0, [])) := by
  have e : r1_ChangeBlinds x y = 4 := by unfold r1_ChangeBlinds; rw [if_pos (tv_true h), if_pos h2, if_neg h3]
  exact ⟨e, by unfold r0_ChangeBlinds; rw [if_neg (by rw [e]; decide)]⟩
theorem cb_ok {x : T_Scheme} {y : T_Matrix} (h : SchOk x ∧ MatOk y) (h2 : y.1 = x.2.2.1 ∧ (y.2.2.length : Int) = x.2.2.2.1 ∧ y.2.1 = x.2.2.2.1) (h3 : rkM y.1 y.2.1 y.2.2 = y.2.1 ∧ y.2.2.getD 0 [] = unitL y.2.1.toNat) : r1_ChangeBlinds x y = 0 ∧ r0_ChangeBlinds x y = (x.1, x.2.1, (y.1, y.2.1, prodL y.1 x.2.2.2.2 (trL y.2.2 y.2.1.toNat))) := by
  have e : r1_ChangeBlinds x y = 0 := by unfold r1_ChangeBlinds; rw [if_pos (tv_true h), if_pos h2, if_pos h3]
  exact ⟨e, by unfold r0_ChangeBlinds; rw [if_pos e]⟩
section
variable {S : Ids} {H0 : AH}
theorem unit (k : Nat) (h1 : 1 ≤ k) (hk : k ≤ 1000) : SpecM Try.prog S H0 127 [.int .i64 k] (MkL (unitL k)) := by
  refine SpecM.of1 Try.func127 rfl (by kernel_rfl) rfl (fun H _ => ?_)
  refine KW.mk1 rfl rfl rfl rfl rfl rfl rfl rfl rfl rfl rfl rfl (k) rfl rfl (by omega) (by show 8 * _ ≤ _; omega) ?_
  refine KW.idx0 rfl rfl rfl rfl rfl rfl rfl rfl rfl (by omega) (by omega) ?_
  refine KW.st1 0 rfl rfl rfl rfl rfl rfl rfl rfl rfl rfl rfl rfl (by simp; omega) ?_
  refine KW.retM1 rfl rfl rfl rfl (fun H1 g => ?_)
  have hb := g.blk (j := 0) rfl
  exact ⟨some ⟨H.n, 0, some 1⟩, k, by rw [unitL_len h1]; rfl, int_ml ⟨Nat.le_refl _, hb.2⟩ hb.1 rfl (unitL_cells h1) (by rw [unitL_len h1]; exact Nat.le_refl _)⟩
theorem l04First (k : Nat) (h1 : 1 ≤ k) (hk : k ≤ 1000) : SpecM Try.prog S H0 123 [.int .i64 k] (MkL (unitL k)) := by
  refine SpecM.of1 Try.func123 rfl (by kernel_rfl) rfl (fun H _ => ?_)
  refine KW.mk1 rfl rfl rfl rfl rfl rfl rfl rfl rfl rfl rfl rfl (k) rfl rfl (by omega) (by show 8 * _ ≤ _; omega) ?_
  refine KW.idx0 rfl rfl rfl rfl rfl rfl rfl rfl rfl (by omega) (by omega) ?_
  refine KW.st1 0 rfl rfl rfl rfl rfl rfl rfl rfl rfl rfl rfl rfl (by simp; omega) ?_
  refine KW.retM1 rfl rfl rfl rfl (fun H1 g => ?_)
  have hb := g.blk (j := 0) rfl
  exact ⟨some ⟨H.n, 0, some 1⟩, k, by rw [unitL_len h1]; rfl, int_ml ⟨Nat.le_refl _, hb.2⟩ hb.1 rfl (unitL_cells h1) (by rw [unitL_len h1]; exact Nat.le_refl _)⟩
theorem impl_ChangeBlinds {x : T_Scheme} {y : T_Matrix} {cs ds : List Value} (hB : B_Scheme x) (hM : B_Matrix y) (h : K_Scheme.R S H0 x cs) (k : K_Matrix.R S H0 y ds) : SpecM Try.prog S H0 36 [.agg cs.toArray, .agg ds.toArray] (MkSC (r0_ChangeBlinds x y) (r1_ChangeBlinds x y)) := by
  obtain ⟨a1, c1, a2, c2, rfl, s1, s2⟩ := split2_Scheme h
  obtain ⟨a3, c3, rfl, k3⟩ := split_Matrix k
  have s3 := sl1 k3
  obtain ⟨h', ow, p, c, rows⟩ := x
  obtain ⟨p', c', M⟩ := y
  simp only at s1 s2 s3 ⊢
  have hO : B_Int64S ow := hB.2.1
  have hBr : B_Int64SS rows := hB.2.2.2.2
  have hp : I64 p := hB.2.2.1
  have hp' : I64 p' := hM.1
  have hBM : B_Int64SS M := hM.2.2
  refine SpecM.of1 Try.func36 rfl (by kernel_rfl) rfl (fun H _ => ?_)
  refine KW.callE rfl rfl rfl rfl rfl (validScheme h' p c hp hO hBr s1.up s2.up) (fun _ _ => ?_)
  by_cases hk : OkSch h' ow p c rows
  · rw [tv_true hk]
    refine KW.tF rfl rfl (by first | (simp; done) | decide) ?_
    refine KW.callE rfl rfl rfl rfl rfl (validMatrix p' c' hp' hBM s3.up) (fun _ _ => ?_)
    by_cases hm : OkMat p' c' M
    · rw [tv_true hm]
      refine KW.cF rfl rfl (by first | (simp; done) | decide) ?_
      have hok : SchOk (h', ow, p, c, rows) ∧ MatOk (p', c', M) := ⟨hk, hm⟩
      obtain ⟨q, rfl⟩ : ∃ q : Nat, c = q := ⟨c.toNat, by have := hk.c1; omega⟩
      have hq12 := hk.mat.c1
      have hq1 := hk.c1
      by_cases h2 : p' = p ∧ (M.length : Int) = q ∧ c' = q
      · obtain ⟨rfl, h2b, rfl⟩ := h2
        have hML : M.length = q := by omega
        refine KW.tF rfl rfl (by simp) ?_
        refine KW.tF rfl rfl (by simp [h2b]) ?_
        refine KW.cF rfl rfl (by simp) ?_
        have hpr := hm.pr
        refine KW.callN1 rfl rfl rfl rfl rfl (rankM ⟨hpr.1, hpr.2.1⟩ (by omega) hBM (hm.rect rfl) s3.up) (fun v HC SC mC _ _ hv => ?_)
        obtain rfl := hv
        have hrk := rk_le p' q M
        by_cases h3a : rkM p' q M = q
        · refine KW.tno rfl rfl (by omega) ?_
          refine KW.getL s3.up rfl rfl rfl rfl rfl rfl rfl rfl rfl rfl rfl rfl rfl rfl rfl rfl (by omega) (by omega) (fun r0 ar cr hr hsr => ?_)
          have hr : M[0]? = some r0 := hr
          have hrd : M.getD 0 [] = r0 := by rw [List.getD_eq_getElem?_getD, hr]; rfl
          have hrl := hBM.each r0 (List.mem_of_getElem? hr)
          refine KW.callN1 rfl rfl rfl rfl rfl (unit q (by omega) (by omega)) (fun v HU SU mU _ _ hv => ?_)
          obtain ⟨au, cu, rfl, hU⟩ := hv
          refine KW.callE rfl rfl rfl rfl rfl (equalI hrl hsr.up hU.ups) (fun nE mE => ?_)
          by_cases h3b : r0 = unitL q
          · obtain ⟨e1, e0⟩ := cb_ok (x := (h', ow, p', ↑q, rows)) (y := (p', ↑q, M)) hok ⟨rfl, h2b, rfl⟩ ⟨h3a, by show M.getD 0 [] = unitL (q : Int).toNat; rw [hrd, h3b, Int.toNat_natCast]⟩
            rw [e1, e0, tv_true h3b]
            refine KW.cF rfl rfl (by first | (simp; done) | decide) ?_
            refine KW.callN1 rfl rfl rfl rfl rfl (productOf hk.mat hm hML hBr hBM s2.up s3.up) (fun v HP SP mP _ _ hv => ?_)
            obtain ⟨v', rfl, a5, c5, rfl, hP⟩ := hv
            refine KW.callN1 rfl rfl rfl rfl rfl (cloneI hO s1.up) (fun v HD SD mD _ _ hv => ?_)
            obtain ⟨a6, c6, rfl, hD⟩ := hv
            refine KW.build rfl rfl rfl rfl rfl (built_Scheme3 _ _ _ _ _ _ _ _ _) ?_
            refine KW.retM1 rfl rfl rfl rfl (fun H1 g => ?_)
            refine ⟨_, rfl, schemeM (X1 := New (HP.n + 1) HD.n) (X2 := New nE HP.n) (ml1 (g.keep (ml1' hD))) (ml1 (g.keep (ml1' hP))) (g.inn (H := HD) (fun _ p => by have := p.1; omega)) (g.inn (H := HP) (fun _ p => by have := p.1; omega)) (fun _ p r => by have := p.1; have := r.2; omega)⟩
          · obtain ⟨e1, e0⟩ := cb_state (x := (h', ow, p', ↑q, rows)) (y := (p', ↑q, M)) hok ⟨rfl, h2b, rfl⟩ (fun hc => h3b (by have h9 : M.getD 0 [] = unitL (q : Int).toNat := hc.2; rw [hrd, Int.toNat_natCast] at h9; exact h9))
            rw [e1, e0, tv_false h3b]
            refine KW.cT rfl rfl (by first | (simp; done) | decide) ?_
            refine KW.build rfl rfl rfl rfl rfl (built_Scheme0) ?_
            refine KW.retM1 rfl rfl rfl rfl (fun H1 g => ?_)
            exact MkSC.nil rfl
        · obtain ⟨e1, e0⟩ := cb_state (x := (h', ow, p', ↑q, rows)) (y := (p', ↑q, M)) hok ⟨rfl, h2b, rfl⟩ (fun hc => h3a hc.1)
          rw [e1, e0]
          refine KW.tyes rfl rfl (by omega) ?_
          refine KW.cT rfl rfl (by first | (simp; done) | decide) ?_
          refine KW.build rfl rfl rfl rfl rfl (built_Scheme0) ?_
          refine KW.retM1 rfl rfl rfl rfl (fun H1 g => ?_)
          exact MkSC.nil rfl
      · obtain ⟨e1, e0⟩ := cb_range (x := (h', ow, p, ↑q, rows)) (y := (p', c', M)) hok h2
        rw [e1, e0]
        by_cases h2a : p' = p
        · refine KW.tF rfl rfl (by simp [h2a]) ?_
          by_cases h2b : (M.length : Int) = q
          · refine KW.tF rfl rfl (by simp [h2b]) ?_
            refine KW.cT rfl rfl (by simp; exact fun h => h2 ⟨h2a, h2b, h⟩) ?_
            refine KW.build rfl rfl rfl rfl rfl (built_Scheme0) ?_
            refine KW.retM1 rfl rfl rfl rfl (fun H1 g => ?_)
            exact MkSC.nil rfl
          · refine KW.tT rfl rfl (by simpa using h2b) ?_
            refine KW.cT rfl rfl (by first | (simp; done) | decide) ?_
            refine KW.build rfl rfl rfl rfl rfl (built_Scheme0) ?_
            refine KW.retM1 rfl rfl rfl rfl (fun H1 g => ?_)
            exact MkSC.nil rfl
        · refine KW.tT rfl rfl (by simpa using h2a) ?_
          refine KW.tT rfl rfl (by first | (simp; done) | decide) ?_
          refine KW.cT rfl rfl (by first | (simp; done) | decide) ?_
          refine KW.build rfl rfl rfl rfl rfl (built_Scheme0) ?_
          refine KW.retM1 rfl rfl rfl rfl (fun H1 g => ?_)
          exact MkSC.nil rfl
    · obtain ⟨e1, e0⟩ := cb_bad (x := (h', ow, p, c, rows)) (y := (p', c', M)) (fun hc => hm hc.2)
      rw [e1, e0, tv_false hm]
      refine KW.cT rfl rfl (by first | (simp; done) | decide) ?_
      refine KW.build rfl rfl rfl rfl rfl (built_Scheme0) ?_
      refine KW.retM1 rfl rfl rfl rfl (fun H1 g => ?_)
      exact MkSC.nil rfl
  · obtain ⟨e1, e0⟩ := cb_bad (x := (h', ow, p, c, rows)) (y := (p', c', M)) (fun hc => hk hc.1)
    rw [e1, e0, tv_false hk]
    refine KW.tT rfl rfl (by first | (simp; done) | decide) ?_
    refine KW.cT rfl rfl (by first | (simp; done) | decide) ?_
    refine KW.build rfl rfl rfl rfl rfl (built_Scheme0) ?_
    refine KW.retM1 rfl rfl rfl rfl (fun H1 g => ?_)
    exact MkSC.nil rfl
theorem spec_ChangeBlinds {x : T_Scheme} {y : T_Matrix} {cs ds : List Value} (hB : B_Scheme x) (hM : B_Matrix y) (h : K_Scheme.R S H0 x cs) (k : K_Matrix.R S H0 y ds) : SpecM Try.prog S H0 35 [.agg cs.toArray, .agg ds.toArray] (MkSC (r0_ChangeBlinds x y) (r1_ChangeBlinds x y)) := by
  obtain ⟨a1, c1, a2, c2, rfl, s1, s2⟩ := split2_Scheme h
  obtain ⟨a3, c3, rfl, k3⟩ := split_Matrix k
  have s3 := sl1 k3
  obtain ⟨h', ow, p, c, rows⟩ := x
  obtain ⟨p', c', M⟩ := y
  simp only at s1 s2 s3 ⊢
  have hO : B_Int64S ow := hB.2.1
  have hBr : B_Int64SS rows := hB.2.2.2.2
  have hp : I64 p := hB.2.2.1
  have hp' : I64 p' := hM.1
  have hBM : B_Int64SS M := hM.2.2
  refine SpecM.of1 Try.func35 rfl (by kernel_rfl) rfl (fun H _ => ?_)
  refine KW.callV1 rfl rfl rfl rfl rfl (fun H1 g _ => l04Ok (S := Low H1.n) (H0 := H1) h' p c hp hO hBr (g.has (j := 0) rfl rfl) s1.up s2.up) (fun _ _ => ?_)
  by_cases hk : OkSch h' ow p c rows
  · rw [tv_true hk]
    refine KW.tF rfl rfl (by first | (simp; done) | decide) ?_
    refine KW.callV1 rfl rfl rfl rfl rfl (fun H1 g _ => l03Ok (S := Low H1.n) (H0 := H1) p' c' hp' hBM (g.has3 (j := 1) rfl) s3.up) (fun _ _ => ?_)
    by_cases hm : OkMat p' c' M
    · rw [tv_true hm]
      refine KW.cF rfl rfl (by first | (simp; done) | decide) ?_
      have hok : SchOk (h', ow, p, c, rows) ∧ MatOk (p', c', M) := ⟨hk, hm⟩
      obtain ⟨q, rfl⟩ : ∃ q : Nat, c = q := ⟨c.toNat, by have := hk.c1; omega⟩
      have hq12 := hk.mat.c1
      have hq1 := hk.c1
      by_cases h2 : p' = p ∧ (M.length : Int) = q ∧ c' = q
      · obtain ⟨rfl, h2b, rfl⟩ := h2
        have hML : M.length = q := by omega
        refine KW.tF rfl rfl (by simp) ?_
        refine KW.tF rfl rfl (by simp) ?_
        refine KW.cF rfl rfl (by simp [h2b]) ?_
        have hpr := hm.pr
        refine KW.callNV1 rfl rfl rfl rfl rfl (fun H1 g _ => l03Rank (S := Low H1.n) (H0 := H1) ⟨hpr.1, hpr.2.1⟩ (by omega) hBM (hm.rect rfl) (g.has3 (j := 1) rfl) s3.up) (fun v HC SC mC _ _ hv => ?_)
        obtain rfl := hv
        have hrk := rk_le p' q M
        by_cases h3a : rkM p' q M = q
        · refine KW.tF rfl rfl (by simp [h3a]) ?_
          refine KW.getL s3.up rfl rfl rfl rfl rfl rfl rfl rfl rfl rfl rfl rfl rfl rfl rfl rfl (by omega) (by omega) (fun r0 ar cr hr hsr => ?_)
          have hr : M[0]? = some r0 := hr
          have hrd : M.getD 0 [] = r0 := by rw [List.getD_eq_getElem?_getD, hr]; rfl
          have hrl := hBM.each r0 (List.mem_of_getElem? hr)
          refine KW.callN1 rfl rfl rfl rfl rfl (l04First q (by omega) (by omega)) (fun v HU SU mU _ _ hv => ?_)
          obtain ⟨au, cu, rfl, hU⟩ := hv
          refine KW.callE rfl rfl rfl rfl rfl (l00Same hrl hsr.up hU.ups) (fun nE mE => ?_)
          by_cases h3b : r0 = unitL q
          · obtain ⟨e1, e0⟩ := cb_ok (x := (h', ow, p', ↑q, rows)) (y := (p', ↑q, M)) hok ⟨rfl, h2b, rfl⟩ ⟨h3a, by show M.getD 0 [] = unitL (q : Int).toNat; rw [hrd, h3b, Int.toNat_natCast]⟩
            rw [e1, e0, tv_true h3b]
            refine KW.cF rfl rfl (by first | (simp; done) | decide) ?_
            refine KW.callN1 rfl rfl rfl rfl rfl (specProductOf hk.mat hm hML hBr hBM s2.up s3.up) (fun v HP SP mP _ _ hv => ?_)
            obtain ⟨v', rfl, a5, c5, rfl, hP⟩ := hv
            refine KW.callN1 rfl rfl rfl rfl rfl (l00Own hO s1.up) (fun v HD SD mD _ _ hv => ?_)
            obtain ⟨a6, c6, rfl, hD⟩ := hv
            refine KW.build rfl rfl rfl rfl rfl (built_Scheme3 _ _ _ _ _ _ _ _ _) ?_
            refine KW.retM1 rfl rfl rfl rfl (fun H1 g => ?_)
            refine ⟨_, rfl, schemeM (X1 := New (HP.n + 1) HD.n) (X2 := New nE HP.n) (ml1 (g.keep (ml1' hD))) (ml1 (g.keep (ml1' hP))) (g.inn (H := HD) (fun _ p => by have := p.1; omega)) (g.inn (H := HP) (fun _ p => by have := p.1; omega)) (fun _ p r => by have := p.1; have := r.2; omega)⟩
          · obtain ⟨e1, e0⟩ := cb_state (x := (h', ow, p', ↑q, rows)) (y := (p', ↑q, M)) hok ⟨rfl, h2b, rfl⟩ (fun hc => h3b (by have h9 : M.getD 0 [] = unitL (q : Int).toNat := hc.2; rw [hrd, Int.toNat_natCast] at h9; exact h9))
            rw [e1, e0, tv_false h3b]
            refine KW.cT rfl rfl (by first | (simp; done) | decide) ?_
            refine KW.build rfl rfl rfl rfl rfl (built_Scheme0) ?_
            refine KW.retM1 rfl rfl rfl rfl (fun H1 g => ?_)
            exact MkSC.nil rfl
        · obtain ⟨e1, e0⟩ := cb_state (x := (h', ow, p', ↑q, rows)) (y := (p', ↑q, M)) hok ⟨rfl, h2b, rfl⟩ (fun hc => h3a hc.1)
          rw [e1, e0]
          refine KW.tT rfl rfl (by simpa using h3a) ?_
          refine KW.cT rfl rfl (by first | (simp; done) | decide) ?_
          refine KW.build rfl rfl rfl rfl rfl (built_Scheme0) ?_
          refine KW.retM1 rfl rfl rfl rfl (fun H1 g => ?_)
          exact MkSC.nil rfl
      · obtain ⟨e1, e0⟩ := cb_range (x := (h', ow, p, ↑q, rows)) (y := (p', c', M)) hok h2
        rw [e1, e0]
        by_cases h2a : p' = p
        · refine KW.tF rfl rfl (by simp [h2a]) ?_
          by_cases h2b : c' = q
          · refine KW.tF rfl rfl (by simp [h2b]) ?_
            refine KW.cT rfl rfl (by simp; exact fun h => h2 ⟨h2a, h.trans h2b, h2b⟩) ?_
            refine KW.build rfl rfl rfl rfl rfl (built_Scheme0) ?_
            refine KW.retM1 rfl rfl rfl rfl (fun H1 g => ?_)
            exact MkSC.nil rfl
          · refine KW.tT rfl rfl (by simpa using h2b) ?_
            refine KW.cT rfl rfl (by first | (simp; done) | decide) ?_
            refine KW.build rfl rfl rfl rfl rfl (built_Scheme0) ?_
            refine KW.retM1 rfl rfl rfl rfl (fun H1 g => ?_)
            exact MkSC.nil rfl
        · refine KW.tT rfl rfl (by simpa using h2a) ?_
          refine KW.tT rfl rfl (by first | (simp; done) | decide) ?_
          refine KW.cT rfl rfl (by first | (simp; done) | decide) ?_
          refine KW.build rfl rfl rfl rfl rfl (built_Scheme0) ?_
          refine KW.retM1 rfl rfl rfl rfl (fun H1 g => ?_)
          exact MkSC.nil rfl
    · obtain ⟨e1, e0⟩ := cb_bad (x := (h', ow, p, c, rows)) (y := (p', c', M)) (fun hc => hm hc.2)
      rw [e1, e0, tv_false hm]
      refine KW.cT rfl rfl (by first | (simp; done) | decide) ?_
      refine KW.build rfl rfl rfl rfl rfl (built_Scheme0) ?_
      refine KW.retM1 rfl rfl rfl rfl (fun H1 g => ?_)
      exact MkSC.nil rfl
  · obtain ⟨e1, e0⟩ := cb_bad (x := (h', ow, p, c, rows)) (y := (p', c', M)) (fun hc => hk hc.1)
    rw [e1, e0, tv_false hk]
    refine KW.tT rfl rfl (by first | (simp; done) | decide) ?_
    refine KW.cT rfl rfl (by first | (simp; done) | decide) ?_
    refine KW.build rfl rfl rfl rfl rfl (built_Scheme0) ?_
    refine KW.retM1 rfl rfl rfl rfl (fun H1 g => ?_)
    exact MkSC.nil rfl
end
theorem bound_ChangeBlinds {x : T_Scheme} {y : T_Matrix} (hB : B_Scheme x) (hM : B_Matrix y) : B_Scheme (r0_ChangeBlinds x y) := by
  by_cases h : r1_ChangeBlinds x y = 0
  · have hok : SchOk x ∧ MatOk y := Classical.byContradiction fun hc => by rw [(cb_bad hc).1] at h; cases h
    have hk := hok.1
    have hm := hok.2
    have e : r0_ChangeBlinds x y = (x.1, x.2.1, (y.1, y.2.1, prodL y.1 x.2.2.2.2 (trL y.2.2 y.2.1.toNat))) := by unfold r0_ChangeBlinds; rw [if_pos h]
    rw [e]
    have hp := hm.pr
    refine ⟨hB.1, hB.2.1, hM.1, hM.2.1, rect_sml (p := y.1) (k := y.2.1.toNat) (fun r hr => ?_) (by have := hm.c1; omega) (by have := hk.mat.len; show (prodL _ _ _).length ≤ _; simp [prodL]; omega)⟩
    obtain ⟨w, hw, rfl⟩ := List.mem_map.1 hr
    refine ⟨by rw [List.length_map, trL_len], fun z hz => ?_⟩
    obtain ⟨u, _, rfl⟩ := List.mem_map.1 hz
    have := dotS_in (a := w) (b := u) hp
    exact ⟨this.1, by omega⟩
  · have e : r0_ChangeBlinds x y = (0, [], (0, 0, [])) := by unfold r0_ChangeBlinds; rw [if_neg h]
    rw [e]
    exact ⟨by unfold I64; simp, by show 0 ≤ _; omega, by unfold I64; simp, by unfold I64; simp, ⟨by simp, by simp [lens, sum]⟩⟩
end Go.Proofs.Ytmkpfllbmdahkaa.Am
/- Groups and their bits, plain: a rising group is what its bits hold; chains. No condition beyond each lemma's own. -/
set_option linter.unusedVariables false
namespace Go.Proofs.Ytmkpfllbmdahkaa.Am
open Go Go.RowKit
theorem hold_congr {x y n : Nat} (h : ∀ i, i < n → x.testBit i = y.testBit i) : hold x n = hold y n := by
  unfold hold
  congr 1
  exact List.filter_congr fun i hi => h i (List.mem_range.1 hi)
theorem bitsOf_snoc (g : List Int) (a : Int) : bitsOf (g ++ [a]) = bitsOf g ||| 2 ^ a.toNat := by
  unfold bitsOf
  rw [List.foldl_append]; rfl
theorem rises_front {lo hi : Int} {g : List Int} {a : Int} (h : Rises lo hi (g ++ [a])) : Rises lo hi g ∧ (∀ x ∈ g, x < a) ∧ lo ≤ a ∧ a ≤ hi := by
  have at_ : ∀ i, i < g.length → (g ++ [a]).getD i 0 = g.getD i 0 := fun i hi => by
    rw [List.getD_eq_getElem?_getD, List.getD_eq_getElem?_getD, List.getElem?_append_left hi]
  have last : (g ++ [a]).getD g.length 0 = a := by
    rw [List.getD_eq_getElem?_getD]; simp
  have hr : Rises lo hi g := fun i hi => by
    obtain ⟨h1, h2⟩ := h i (by simp; omega)
    rw [at_ i hi] at h1 h2
    refine ⟨h1, fun h0 => ?_⟩
    have := h2 h0
    rwa [at_ (i - 1) (by omega)] at this
  have hl := h g.length (by simp)
  unfold RiseAt at hl
  rw [last] at hl
  refine ⟨hr, fun x hx => ?_, hl.1.1, hl.1.2⟩
  obtain ⟨i, hi⟩ := List.getElem?_of_mem hx
  have hil := (List.getElem?_eq_some_iff.1 hi).1
  -- each element is at most the last one of g
  have up : ∀ d i, i + d = g.length - 1 → i < g.length → g.getD i 0 ≤ g.getD (g.length - 1) 0 := fun d => by
    induction d with
    | zero => intro i h1 h2; rw [show i = g.length - 1 by omega]; exact Int.le_refl _
    | succ d ih =>
      intro i h1 h2
      have h3 := ih (i + 1) (by omega) (by omega)
      have h4 := (hr (i + 1) (by omega)).2 (by omega)
      simp only [Nat.add_sub_cancel] at h4
      omega
  have h5 := up (g.length - 1 - i) i (by omega) hil
  have h6 := hl.2 (by omega)
  rw [at_ (g.length - 1) (by omega)] at h6
  rw [getD_of hi] at h5
  omega
theorem bitsOf_test {g : List Int} (hg : ∀ x ∈ g, 0 ≤ x) (i : Nat) : (bitsOf g).testBit i = true ↔ (i : Int) ∈ g := by
  have key : ∀ (g : List Int) (a : Nat), (∀ x ∈ g, 0 ≤ x) → ((g.foldl (fun a x => a ||| 2 ^ x.toNat) a).testBit i = true ↔ (a.testBit i = true ∨ (i : Int) ∈ g)) := by
    intro g
    induction g with
    | nil => intro a _; simp
    | cons x g ih =>
      intro a hx
      have h0 := hx x List.mem_cons_self
      simp only [List.foldl_cons]
      rw [ih _ (fun y hy => hx y (List.mem_cons_of_mem _ hy)), Nat.testBit_or, Nat.testBit_two_pow, List.mem_cons]
      have e : x.toNat = i ↔ (i : Int) = x := by omega
      simp only [Bool.or_eq_true, decide_eq_true_eq, e]
      constructor
      · rintro ((h | h) | h)
        · exact .inl h
        · exact .inr (.inl h)
        · exact .inr (.inr h)
      · rintro (h | h | h)
        · exact .inl (.inl h)
        · exact .inl (.inr h)
        · exact .inr h
  have := key g 0 hg
  simpa [bitsOf] using this
theorem hold_bits : ∀ (n : Nat) {g : List Int}, Rises 0 ((n : Int) - 1) g → hold (bitsOf g) n = g
  | 0, g, h => by
    cases g with
    | nil => rfl
    | cons x g => have := (h 0 (by simp)).1; omega
  | n + 1, g, h => by
    rcases List.eq_nil_or_concat g with rfl | ⟨g', a, hga⟩
    · unfold hold bitsOf; simp
    · rw [List.concat_eq_append] at hga
      subst hga
      obtain ⟨h1, h2, h3, h4⟩ := rises_front h
      have hg' : ∀ x ∈ g', 0 ≤ x := fun x hx => (rises_mem h1 x hx).1
      rw [hold_next]
      by_cases ha : a = n
      · subst ha
        have hb : (bitsOf (g' ++ [(n : Int)])).testBit n = true := by rw [bitsOf_snoc, Nat.testBit_or, Nat.testBit_two_pow]; simp
        rw [if_pos hb]
        congr 1
        have h5 : Rises 0 ((n : Int) - 1) g' := fun i hi => by
          obtain ⟨h6, h7⟩ := h1 i hi
          refine ⟨⟨h6.1, ?_⟩, h7⟩
          have := h2 (g'.getD i 0) (by rw [List.getD_eq_getElem?_getD, List.getElem?_eq_getElem hi]; exact List.getElem_mem hi)
          omega
        have ih := hold_bits n h5
        rw [← ih]
        rw [ih]
        refine Eq.trans (hold_congr fun i hi => ?_) ih
        rw [bitsOf_snoc, Nat.testBit_or, Nat.testBit_two_pow]
        have h9 : ¬ n = i := by omega
        simp [h9]
      · have h5 : Rises 0 ((n : Int) - 1) (g' ++ [a]) := fun i hi => by
          obtain ⟨h6, h7⟩ := h i hi
          refine ⟨⟨h6.1, ?_⟩, h7⟩
          have hm : (g' ++ [a]).getD i 0 ∈ g' ++ [a] := by rw [List.getD_eq_getElem?_getD, List.getElem?_eq_getElem hi]; exact List.getElem_mem hi
          rcases List.mem_append.1 hm with h8 | h8
          · have := h2 _ h8; omega
          · have := List.mem_singleton.1 h8; omega
        have hb : ¬ (bitsOf (g' ++ [a])).testBit n = true := fun hc => by
          have := (bitsOf_test (fun x hx => (rises_mem h5 x hx).1) n).1 hc
          have := (rises_mem h5 _ this).2
          omega
        rw [if_neg hb]
        exact hold_bits n h5
end Go.Proofs.Ytmkpfllbmdahkaa.Am
/- Linear equations modulo a prime, in plain Lean: what a round of the echelon does to them, and how many solutions there are. Each holds under its own conditions. -/
set_option linter.unusedVariables false
set_option linter.unusedSimpArgs false
namespace Go.Proofs.Ytmkpfllbmdahkaa.Pl
/-- The sum of the products of the elements of w from column c on and those of a list. -/
def dF (w : List Int) : Nat → List Int → Int
  | _, [] => 0
  | c, a :: t => w.getD c 0 * a + dF w (c + 1) t
theorem sc_get {p b : Int} {w : List Int} {c : Nat} : (sc p b w).getD c 0 = w.getD c 0 * b % p := by
  simp only [sc, List.getD_eq_getElem?_getD, List.getElem?_map]
  cases w[c]? <;> simp
theorem tk_get {p t : Int} {a b : List Int} (h : a.length = b.length) {c : Nat} : (tk p t a b).getD c 0 = (a.getD c 0 + (p - t) * b.getD c 0) % p := by
  simp only [tk, List.getD_eq_getElem?_getD, List.getElem?_zipWith]
  rcases Nat.lt_or_ge c a.length with hc | hc
  · rw [List.getElem?_eq_getElem hc, List.getElem?_eq_getElem (by omega)]; simp
  · rw [List.getElem?_eq_none hc, List.getElem?_eq_none (by omega)]; simp
theorem mod_eq (a p : Int) : ∃ k, a % p = a - p * k := ⟨a / p, by rw [Int.emod_def]⟩
theorem dF_sc {p b : Int} {w : List Int} : ∀ (t : List Int) (c : Nat), ∃ k, dF (sc p b w) c t = b * dF w c t + p * k
  | [], c => ⟨0, by simp [dF]⟩
  | a :: t, c => by
    obtain ⟨k, hk⟩ := dF_sc (p := p) (b := b) (w := w) t (c + 1)
    obtain ⟨m, hm⟩ := mod_eq (w.getD c 0 * b) p
    refine ⟨k - m * a, ?_⟩
    simp only [dF, hk, sc_get, hm]
    grind
theorem dF_tk {p s : Int} {a b : List Int} (h : a.length = b.length) : ∀ (t : List Int) (c : Nat), ∃ k, dF (tk p s a b) c t = dF a c t - s * dF b c t + p * k
  | [], c => ⟨0, by simp [dF]⟩
  | x :: t, c => by
    obtain ⟨k, hk⟩ := dF_tk (p := p) (s := s) h t (c + 1)
    obtain ⟨m, hm⟩ := mod_eq (a.getD c 0 + (p - s) * b.getD c 0) p
    refine ⟨k + b.getD c 0 * x - m * x, ?_⟩
    simp only [dF, hk, tk_get h, hm]
    grind
/-- The row w, whose value stands in column k, holds for x. -/
def Sat (p : Int) (k : Nat) (w x : List Int) : Prop := ∃ m, dF w 0 x = w.getD k 0 + p * m
theorem sat_iff {p : Int} {k : Nat} {w x : List Int} : Sat p k w x ↔ (dF w 0 x - w.getD k 0) % p = 0 := by
  constructor
  · rintro ⟨m, hm⟩
    rw [hm]
    have : w.getD k 0 + p * m - w.getD k 0 = p * m := by omega
    rw [this]
    exact Int.mul_emod_right p m
  · intro h
    obtain ⟨m, hm⟩ := Int.dvd_of_emod_eq_zero h
    exact ⟨m, by omega⟩
theorem sat_sc {p b : Int} {k : Nat} {w x : List Int} (h : Sat p k w x) : Sat p k (sc p b w) x := by
  obtain ⟨m, hm⟩ := h
  obtain ⟨j, hj⟩ := dF_sc (p := p) (b := b) (w := w) x 0
  obtain ⟨i, hi⟩ := mod_eq (w.getD k 0 * b) p
  exact ⟨b * m + j + i, by rw [hj, hm, sc_get, hi]; grind⟩
theorem sat_sc' {p b b' : Int} {k : Nat} {w x : List Int} (hb : ∃ q, b' * b = 1 + p * q) (h : Sat p k (sc p b w) x) : Sat p k w x := by
  obtain ⟨m, hm⟩ := h
  obtain ⟨j, hj⟩ := dF_sc (p := p) (b := b) (w := w) x 0
  obtain ⟨i, hi⟩ := mod_eq (w.getD k 0 * b) p
  obtain ⟨q, hq⟩ := hb
  rw [sc_get, hi, hj] at hm
  refine ⟨b' * m - b' * j - b' * i - q * dF w 0 x + q * w.getD k 0, ?_⟩
  have h1 : b' * (b * dF w 0 x) = b' * (w.getD k 0 * b - p * i + p * m - p * j) := by rw [← hm]; grind
  grind
theorem sat_tk {p s : Int} {k : Nat} {a b x : List Int} (hl : a.length = b.length) (ha : Sat p k a x) (hb : Sat p k b x) : Sat p k (tk p s a b) x := by
  obtain ⟨m, hm⟩ := ha
  obtain ⟨q, hq⟩ := hb
  obtain ⟨j, hj⟩ := dF_tk (p := p) (s := s) hl x 0
  obtain ⟨i, hi⟩ := mod_eq (a.getD k 0 + (p - s) * b.getD k 0) p
  exact ⟨m - s * q + j + i - b.getD k 0, by rw [hj, hm, hq, tk_get hl, hi]; grind⟩
theorem sat_tk' {p s : Int} {k : Nat} {a b x : List Int} (hl : a.length = b.length) (ha : Sat p k (tk p s a b) x) (hb : Sat p k b x) : Sat p k a x := by
  obtain ⟨m, hm⟩ := ha
  obtain ⟨q, hq⟩ := hb
  obtain ⟨j, hj⟩ := dF_tk (p := p) (s := s) hl x 0
  obtain ⟨i, hi⟩ := mod_eq (a.getD k 0 + (p - s) * b.getD k 0) p
  rw [hj, hq, tk_get hl, hi] at hm
  exact ⟨m + s * q - j - i + b.getD k 0, by grind⟩
/-- All rows hold for x. -/
def AllS (p : Int) (k : Nat) (L : List (List Int)) (x : List Int) : Prop := ∀ (j : Nat) r, L[j]? = some r → Sat p k r x
/-- Powers are inverses. -/
def Fer (p : Int) : Prop := 2 ≤ p ∧ ∀ a : Int, 0 < a → a < p → ∃ q, a * pw p a (p - 2).toNat = 1 + p * q
theorem sw_get {L : List (List Int)} {n a : Nat} {u w : List Int} (hu : L[n]? = some u) (hw : L[a]? = some w) (j : Nat) : (sw L n a)[j]? = if j = a then some u else if j = n then some w else L[j]? := by
  obtain ⟨h1, e1⟩ := List.getElem?_eq_some_iff.1 hu
  obtain ⟨h2, e2⟩ := List.getElem?_eq_some_iff.1 hw
  have d1 : L.getD n [] = u := by rw [List.getD_eq_getElem?_getD, hu]; rfl
  have d2 : L.getD a [] = w := by rw [List.getD_eq_getElem?_getD, hw]; rfl
  simp only [sw, d1, d2]
  rw [List.getElem?_set]
  by_cases e : a = j
  · subst e; rw [if_pos rfl, if_pos rfl, if_pos (by rw [List.length_set]; exact h2)]
  · rw [if_neg e, if_neg (Ne.symm e), List.getElem?_set]
    by_cases e' : n = j
    · subst e'; rw [if_pos rfl, if_pos rfl, if_pos h1]
    · rw [if_neg e', if_neg (Ne.symm e')]
theorem nz_val {L : List (List Int)} {c : Nat} : ∀ (d a : Nat), a + d = L.length → nz L c a < L.length → ∃ r, L[nz L c a]? = some r ∧ r.getD c 0 ≠ 0
  | 0, a, h, hl => by rw [nz_end (by omega)] at hl; omega
  | d + 1, a, h, hl => by
    obtain ⟨r, hr⟩ : ∃ r, L[a]? = some r := ⟨L[a]'(by omega), List.getElem?_eq_getElem (by omega)⟩
    by_cases hz : r.getD c 0 = 0
    · rw [← nz_step hr hz] at hl ⊢
      exact nz_val d (a + 1) (by omega) hl
    · rw [nz_stop hr hz]
      exact ⟨r, hr, hz⟩
theorem nz_zero {L : List (List Int)} {c : Nat} : ∀ (d a : Nat), a + d = L.length → ∀ (j : Nat) r, a ≤ j → j < nz L c a → L[j]? = some r → r.getD c 0 = 0
  | 0, a, h, j, r, h1, h2, hr => by rw [nz_end (by omega)] at h2; omega
  | d + 1, a, h, j, r, h1, h2, hr => by
    obtain ⟨u, hu⟩ : ∃ u, L[a]? = some u := ⟨L[a]'(by omega), List.getElem?_eq_getElem (by omega)⟩
    by_cases hz : u.getD c 0 = 0
    · rw [← nz_step hu hz] at h2
      rcases Nat.eq_or_lt_of_le h1 with rfl | h3
      · rw [hu] at hr; cases hr; exact hz
      · exact nz_zero d (a + 1) (by omega) j r (by omega) h2 hr
    · rw [nz_stop hu hz] at h2; omega
/-- What stands in the rows behind a round. -/
theorem rnd_rows {p : Int} {K c n : Nat} {L L' : List (List Int)} (hf : Fer p) (hL : Rect p K L) (hn : n ≤ L.length) (h : rnd p L c n = some L') :
    ∃ (a : Nat) (u w : List Int) (b : Int), n ≤ a ∧ a < L.length ∧ L[n]? = some u ∧ L[a]? = some w ∧ w.getD c 0 ≠ 0 ∧ (∃ q, w.getD c 0 * b = 1 + p * q) ∧ L'.length = L.length ∧ L'[n]? = some (sc p b w) ∧
      (∀ (j : Nat) v, n ≤ j → j < a → L[j]? = some v → v.getD c 0 = 0) ∧
      ∀ j, j ≠ n → L'[j]? = (if j = a then some u else L[j]?).map fun v => tk p (v.getD c 0) v (sc p b w) := by
  unfold rnd at h
  split at h
  · cases h
  · rename_i hne
    have hnz := nz_le (L := L) (c := c) (L.length - n) n (by omega)
    have hlt : nz L c n < L.length := by omega
    obtain ⟨w, hw, hw0⟩ := nz_val (L.length - n) n (by omega) hlt
    have hz := nz_zero (L := L) (c := c) (L.length - n) n (by omega)
    obtain ⟨a, ha⟩ : ∃ a, nz L c n = a := ⟨_, rfl⟩
    rw [ha] at hw hz hnz hlt h
    obtain ⟨u, hu⟩ : ∃ u, L[n]? = some u := ⟨L[n]'(by omega), List.getElem?_eq_getElem (by omega)⟩
    have hswn : (sw L n a)[n]? = some w := by
      rw [sw_get hu hw]
      split
      · rename_i e; subst e; rw [hw] at hu; exact hu.symm
      · rw [if_pos rfl]
    have hd : (sw L n a).getD n [] = w := by rw [List.getD_eq_getElem?_getD, hswn]; rfl
    have hwin := hL w (List.mem_of_getElem? hw)
    have hwc : 0 < w.getD c 0 ∧ w.getD c 0 < p := by
      rcases Nat.lt_or_ge c w.length with hc | hc
      · have h1 : w.getD c 0 = w[c] := by rw [List.getD_eq_getElem?_getD, List.getElem?_eq_getElem hc]; rfl
        have h2 := hwin.2 _ (List.getElem_mem hc)
        rw [← h1] at h2
        omega
      · exact absurd (by rw [List.getD_eq_getElem?_getD, List.getElem?_eq_none hc]; rfl) hw0
    have hlead : lead p L c n = sc p (pw p (w.getD c 0) (p - 2).toNat) w := by unfold lead; rw [ha, hd]
    rw [hlead] at h
    injection h with h
    obtain ⟨b, hb⟩ : ∃ b, pw p (w.getD c 0) (p - 2).toNat = b := ⟨_, rfl⟩
    have hbq := hf.2 _ hwc.1 hwc.2
    rw [hb] at h hbq
    have hlen : ((sw L n a).set n (sc p b w)).length = L.length := by rw [List.length_set, sw_len]
    refine ⟨a, u, w, b, hnz.1, hlt, hu, hw, hw0, hbq, by rw [← h, tks_len, hlen], ?_, fun j v h1 h2 hj => hz j v h1 h2 hj, fun j hj => ?_⟩
    · rw [← h, tks_get, List.getElem?_set, if_pos rfl, if_pos (by rw [sw_len]; omega), Option.map_some, if_neg (by omega)]
    · rw [← h, tks_get, List.getElem?_set, if_neg (Ne.symm hj), sw_get hu hw]
      rcases Nat.lt_or_ge j L.length with hjl | hjl
      · congr 1
        · funext v; rw [if_pos ⟨hjl, hj⟩]
        · split
          · rfl
          · rfl
      · rw [if_neg (by omega), if_neg hj, if_neg (by omega), List.getElem?_eq_none hjl]; rfl
/-- A round changes no solution. -/
theorem rnd_sat {p : Int} {k c n : Nat} {L L' : List (List Int)} (hf : Fer p) (hL : Rect p (k + 1) L) (hn : n ≤ L.length) (h : rnd p L c n = some L') {x : List Int} : AllS p k L' x ↔ AllS p k L x := by
  obtain ⟨a, u, w, b, h1, h2, hu, hw, hw0, ⟨q, hq⟩, hlen, hln, hz, hrest⟩ := rnd_rows hf hL hn h
  have hul := (hL u (List.mem_of_getElem? hu)).1
  have hwl := (hL w (List.mem_of_getElem? hw)).1
  have hscl : (sc p b w).length = w.length := by simp [sc]
  constructor
  · intro hs
    have s1 := hs n _ hln
    have s2 : Sat p k w x := sat_sc' ⟨q, hq⟩ s1
    have s3 : ∀ (j : Nat) v, j ≠ n → (if j = a then some u else L[j]?) = some v → Sat p k v x := fun j v hj hv => by
      have hvl : v.length = k + 1 := by
        split at hv
        · cases hv; exact hul
        · exact (hL v (List.mem_of_getElem? hv)).1
      exact sat_tk' (by rw [hscl, hvl, hwl]) (hs j _ (by rw [hrest j hj, hv]; rfl)) s1
    intro j r hj
    by_cases e : j = a
    · subst e; rw [hw] at hj; cases hj; exact s2
    · by_cases e' : j = n
      · subst e'
        rw [hu] at hj; cases hj
        exact s3 a u (Ne.symm e) (if_pos rfl)
      · exact s3 j r e' (by rw [if_neg e]; exact hj)
  · intro hs j r hj
    have s1 : Sat p k (sc p b w) x := sat_sc (hs a w hw)
    by_cases e : j = n
    · subst e; rw [hln] at hj; cases hj; exact s1
    · rw [hrest j e] at hj
      obtain ⟨v, hv, rfl⟩ := Option.map_eq_some_iff.1 hj
      have hv2 : Sat p k v x ∧ v.length = k + 1 := by
        split at hv
        · cases hv; exact ⟨hs n _ hu, hul⟩
        · exact ⟨hs j _ hv, (hL v (List.mem_of_getElem? hv)).1⟩
      exact sat_tk (by rw [hscl, hv2.2, hwl]) hv2.1 s1
/-- An echelon, as far as column c, with the columns of the first elements. -/
structure Ech (p : Int) (K c : Nat) (E : List (List Int)) (P : List Nat) : Prop where
  rect : Rect p K E
  le : P.length ≤ E.length
  piv : ∀ (i q : Nat) r, P[i]? = some q → E[i]? = some r → q < c ∧ r.getD q 0 = 1 ∧ ∀ j, j < q → r.getD j 0 = 0
  zero : ∀ (i : Nat) r, P.length ≤ i → E[i]? = some r → ∀ j, j < c → r.getD j 0 = 0
  red : ∀ (i q j : Nat) r, P[i]? = some q → j ≠ i → E[j]? = some r → r.getD q 0 = 0
theorem small_mod {p x : Int} (h : 0 ≤ x ∧ x < p) : x % p = x := Int.emod_eq_of_lt h.1 h.2
theorem Rect.el {p : Int} {K : Nat} {L : List (List Int)} (h : Rect p K L) (hp : 0 < p) {i : Nat} {r : List Int} (hr : L[i]? = some r) (c : Nat) : 0 ≤ r.getD c 0 ∧ r.getD c 0 < p := by
  rcases Nat.lt_or_ge c r.length with hc | hc
  · rw [List.getD_eq_getElem?_getD, List.getElem?_eq_getElem hc]
    exact (h r (List.mem_of_getElem? hr)).2 _ (List.getElem_mem hc)
  · rw [List.getD_eq_getElem?_getD, List.getElem?_eq_none hc]; exact ⟨Int.le_refl _, hp⟩
theorem Ech.none_ {p : Int} {K c : Nat} {E : List (List Int)} {P : List Nat} (h : Ech p K c E P) (hr : rnd p E c P.length = none) : Ech p K (c + 1) E P := by
  have hz : nz E c P.length = E.length := by
    unfold rnd at hr
    split at hr
    · assumption
    · cases hr
  refine ⟨h.rect, h.le, fun i q r h1 h2 => ⟨by have := (h.piv i q r h1 h2).1; omega, (h.piv i q r h1 h2).2⟩, fun i r h1 h2 j hj => ?_, h.red⟩
  by_cases e : j = c
  · subst e
    exact nz_zero (E.length - P.length) P.length (by have := h.le; omega) i r h1 (by rw [hz]; exact (List.getElem?_eq_some_iff.1 h2).1) h2
  · exact h.zero i r h1 h2 j (by omega)
theorem Ech.some_ {p : Int} {K c : Nat} {E E' : List (List Int)} {P : List Nat} (hf : Fer p) (h : Ech p K c E P) (hr : rnd p E c P.length = some E') (hR : Rect p K E') : Ech p K (c + 1) E' (P ++ [c]) := by
  have hp : 0 < p := by have := hf.1; omega
  obtain ⟨a, u, w, b, h1, h2, hu, hw, hw0, ⟨q0, hq0⟩, hlen, hln, hz, hrest⟩ := rnd_rows hf h.rect h.le hr
  have hwz : ∀ j, j < c → w.getD j 0 = 0 := fun j hj => h.zero a w h1 hw j hj
  have huz : ∀ j, j < c → u.getD j 0 = 0 := fun j hj => h.zero _ u (Nat.le_refl _) hu j hj
  have hlz : ∀ j, j < c → (sc p b w).getD j 0 = 0 := fun j hj => by rw [sc_get, hwz j hj]; simp
  have hl1 : (sc p b w).getD c 0 = 1 := by
    rw [sc_get, hq0, Int.add_mul_emod_self_left]
    exact Int.emod_eq_of_lt (by omega) (by have := hf.1; omega)
  have hul := (h.rect u (List.mem_of_getElem? hu)).1
  have hwl := (h.rect w (List.mem_of_getElem? hw)).1
  have hscl : (sc p b w).length = w.length := by simp [sc]
  have src : ∀ (j : Nat) r, j ≠ P.length → E'[j]? = some r → ∃ v i, E[i]? = some v ∧ (j < P.length → i = j) ∧ (P.length < j → P.length ≤ i) ∧ ∀ m, r.getD m 0 = (v.getD m 0 + (p - v.getD c 0) * (sc p b w).getD m 0) % p := fun j r hj hr => by
    rw [hrest j hj] at hr
    obtain ⟨v, hv, rfl⟩ := Option.map_eq_some_iff.1 hr
    split at hv
    · rename_i e
      cases hv
      exact ⟨u, P.length, hu, fun h => by omega, fun h => Nat.le_refl _, fun m => tk_get (by rw [hscl, hul, hwl])⟩
    · exact ⟨v, j, hv, fun h => rfl, fun h => by omega, fun m => tk_get (by rw [hscl, (h.rect v (List.mem_of_getElem? hv)).1, hwl])⟩
  have low : ∀ (j : Nat) (r v : List Int) (i : Nat), E[i]? = some v → (∀ m, r.getD m 0 = (v.getD m 0 + (p - v.getD c 0) * (sc p b w).getD m 0) % p) → ∀ m, m < c → r.getD m 0 = v.getD m 0 := fun j r v i hv hm m hmc => by
    rw [hm m, hlz m hmc, Int.mul_zero, Int.add_zero]
    exact small_mod (h.rect.el hp hv m)
  have atc : ∀ (r v : List Int) (i : Nat), E[i]? = some v → (∀ m, r.getD m 0 = (v.getD m 0 + (p - v.getD c 0) * (sc p b w).getD m 0) % p) → r.getD c 0 = 0 := fun r v i hv hm => by
    rw [hm c, hl1]
    have : v.getD c 0 + (p - v.getD c 0) * 1 = p := by omega
    rw [this, Int.emod_self]
  have hPl : (P ++ [c]).length = P.length + 1 := by simp
  have split1 : ∀ {i q : Nat}, (P ++ [c])[i]? = some q → (i < P.length ∧ P[i]? = some q) ∨ (i = P.length ∧ q = c) := fun {i q} hi => by
    rcases Nat.lt_or_ge i P.length with hl | hl
    · rw [List.getElem?_append_left hl] at hi; exact .inl ⟨hl, hi⟩
    · have := (List.getElem?_eq_some_iff.1 hi).1
      rw [hPl] at this
      have e : i = P.length := by omega
      subst e
      rw [List.getElem?_append_right (Nat.le_refl _)] at hi
      simp at hi
      exact .inr ⟨rfl, hi.symm⟩
  refine ⟨hR, by rw [hPl, hlen]; omega, fun i q r hi hr2 => ?_, fun i r hi hr2 j hj => ?_, fun i q j r hi hj hr2 => ?_⟩
  · rcases split1 hi with ⟨hl, hi⟩ | ⟨rfl, rfl⟩
    · obtain ⟨v, i', hv, e1, _, hm⟩ := src i r (by omega) hr2
      have e := e1 hl
      subst e
      obtain ⟨p1, p2, p3⟩ := h.piv i' q v hi hv
      refine ⟨by omega, by rw [low i' r v i' hv hm q p1]; exact p2, fun m hm' => by rw [low i' r v i' hv hm m (by omega)]; exact p3 m hm'⟩
    · rw [hln] at hr2
      cases hr2
      exact ⟨by omega, hl1, hlz⟩
  · rw [hPl] at hi
    obtain ⟨v, i', hv, _, e2, hm⟩ := src i r (by omega) hr2
    by_cases e : j = c
    · subst e; exact atc r v i' hv hm
    · rw [low i r v i' hv hm j (by omega)]
      exact h.zero i' v (e2 (by omega)) hv j (by omega)
  · rcases split1 hi with ⟨hl, hi⟩ | ⟨rfl, rfl⟩
    · have hqc : q < c := by
        obtain ⟨v, hv⟩ : ∃ v, E[i]? = some v := ⟨E[i]'(by have := h.le; omega), List.getElem?_eq_getElem (by have := h.le; omega)⟩
        exact (h.piv i q v hi hv).1
      by_cases e : j = P.length
      · subst e; rw [hln] at hr2; cases hr2; exact hlz q hqc
      · obtain ⟨v, i', hv, e1, e2, hm⟩ := src j r e hr2
        rw [low j r v i' hv hm q hqc]
        refine h.red i q i' v hi (fun e' => ?_) hv
        rcases Nat.lt_or_ge j P.length with hjl | hjl
        · exact hj (by rw [← e1 hjl]; exact e')
        · have := e2 (by omega); omega
    · obtain ⟨v, i', hv, _, _, hm⟩ := src j r hj hr2
      exact atc r v i' hv hm
end Go.Proofs.Ytmkpfllbmdahkaa.Pl
/- How many solutions linear equations have, in plain Lean. Each holds under its own conditions. -/
set_option linter.unusedVariables false
set_option linter.unusedSimpArgs false
namespace Go.Proofs.Ytmkpfllbmdahkaa.Pl
theorem ech_shape {p : Int} {K : Nat} {L : List (List Int)} (hf : Fer p) (h : Rect p K L) : ∀ c, Ech p K c (ech p L c).1 (ech p L c).2
  | 0 => ⟨h, by simp [ech], fun i q r hi => by simp [ech] at hi, fun i r _ _ j hj => absurd hj (Nat.not_lt_zero _), fun i q j r hi => by simp [ech] at hi⟩
  | c + 1 => by
    have ih := ech_shape hf h c
    have hp : 0 < p := by have := hf.1; omega
    simp only [ech]
    split
    · rename_i hr
      exact ih.none_ hr
    · rename_i L' hr
      exact ih.some_ hf hr (rnd_ok hp ih.rect ih.le hr).1
theorem ech_sat {p : Int} {k : Nat} {L : List (List Int)} (hf : Fer p) (h : Rect p (k + 1) L) {x : List Int} : ∀ c, AllS p k (ech p L c).1 x ↔ AllS p k L x
  | 0 => Iff.rfl
  | c + 1 => by
    have ih := ech_sat hf h (x := x) c
    have sh := ech_shape hf h c
    simp only [ech]
    split
    · exact ih
    · rename_i L' hr
      exact (rnd_sat hf sh.rect sh.le hr).trans ih
/-- All lists of m elements. -/
def vec (p : Nat) : Nat → List (List Int)
  | 0 => [[]]
  | m + 1 => (vec p m).flatMap fun t => (List.range p).map fun (a : Nat) => (a : Int) :: t
theorem vec_len {p : Nat} : ∀ (m : Nat) {t : List Int}, t ∈ vec p m → t.length = m
  | 0, t, h => by simp [vec] at h; simp [h]
  | m + 1, t, h => by
    simp only [vec, List.mem_flatMap, List.mem_map] at h
    obtain ⟨u, hu, a, _, rfl⟩ := h
    simp [vec_len m hu]
/-- Counted part by part. -/
theorem count_flat {α β : Type} {l : List α} {f : α → List β} {Q : β → Bool} {R : α → Bool} {q : Nat} (h : ∀ t ∈ l, (f t).countP Q = if R t = true then q else 0) : (l.flatMap f).countP Q = q * l.countP R := by
  induction l with
  | nil => simp
  | cons t l ih =>
    rw [List.flatMap_cons, List.countP_append, List.countP_cons, h t List.mem_cons_self, ih (fun u hu => h u (List.mem_cons_of_mem _ hu)), Nat.mul_add]
    split <;> simp <;> omega
theorem count_one (s : Nat) : ∀ m, (List.range m).countP (fun a => decide (a = s)) = if s < m then 1 else 0
  | 0 => by simp
  | m + 1 => by
    rw [List.range_succ, List.countP_append, count_one s m, List.countP_cons, List.countP_nil]
    by_cases h : m = s
    · subst h; simp
    · rw [show decide (m = s) = false by simp [h]]
      simp only [Nat.zero_add, Bool.false_eq_true, if_false, Nat.add_zero]
      by_cases h2 : s < m
      · rw [if_pos h2, if_pos (by omega)]
      · rw [if_neg h2, if_neg (by omega)]
theorem count_root {p : Int} (hp : 0 < p) (z : Int) : (List.range p.toNat).countP (fun a : Nat => decide (((a : Int) + z) % p = 0)) = 1 := by
  have h1 := Int.emod_nonneg (-z) (show p ≠ 0 by omega)
  have h2 := Int.emod_lt_of_pos (-z) hp
  obtain ⟨s, hs⟩ : ∃ s : Nat, (-z) % p = s := ⟨((-z) % p).toNat, by omega⟩
  have h3 := count_one s p.toNat
  rw [if_pos (by omega)] at h3
  rw [← h3]
  refine List.countP_congr fun a ha => ?_
  have ha := List.mem_range.1 ha
  simp only [decide_eq_true_eq]
  have e : ((a : Int) + z) % p = 0 ↔ (a : Int) % p = (-z) % p := by
    rw [Int.emod_eq_emod_iff_emod_sub_eq_zero]
    rw [show (a : Int) - -z = a + z by omega]
  rw [e, hs, Int.emod_eq_of_lt (by omega) (by omega)]
  omega
/-- How many columns before c are no pivots. -/
def fr (P : List Nat) : Nat → Nat
  | 0 => 0
  | c + 1 => fr P c + if c ∈ P then 0 else 1
theorem fr_mono (P : List Nat) (c : Nat) : fr P c ≤ fr P (c + 1) := by simp only [fr]; omega
theorem fr_le (P : List Nat) {c d : Nat} (h : c ≤ d) : fr P c ≤ fr P d := by
  induction d with
  | zero => have : c = 0 := by omega
            subst this; exact Nat.le_refl _
  | succ d ih =>
    rcases Nat.eq_or_lt_of_le h with e | e
    · rw [e]; exact Nat.le_refl _
    · exact Nat.le_trans (ih (by omega)) (fr_mono P d)
theorem fr_app {P : List Nat} {c : Nat} : ∀ {d : Nat}, d ≤ c → fr (P ++ [c]) d = fr P d
  | 0, _ => rfl
  | d + 1, h => by
    have h1 : d ≠ c := by omega
    simp only [fr]
    rw [fr_app (show d ≤ c by omega)]
    simp [h1]
theorem ech_fr {p : Int} {K : Nat} {L : List (List Int)} (hf : Fer p) (h : Rect p K L) : ∀ c, fr (ech p L c).2 c + (ech p L c).2.length = c
  | 0 => by simp [ech, fr]
  | c + 1 => by
    have ih := ech_fr hf h c
    have sh := ech_shape hf h c
    have hnc : c ∉ (ech p L c).2 := fun hm => by
      obtain ⟨i, hi⟩ := List.getElem?_of_mem hm
      have hil := (List.getElem?_eq_some_iff.1 hi).1
      have := (sh.piv i c _ hi (List.getElem?_eq_getElem (by have := sh.le; omega))).1
      omega
    simp only [ech]
    split
    · simp only [fr, if_neg hnc]; omega
    · simp only [fr, fr_app (Nat.le_refl c), List.length_append, List.length_singleton]
      simp; omega
/-- The rows with pivots in the last m columns hold. -/
def Tail (p : Int) (k : Nat) (E : List (List Int)) (P : List Nat) (m : Nat) (t : List Int) : Prop := ∀ (i q : Nat) r, P[i]? = some q → k - m ≤ q → E[i]? = some r → (dF r (k - m) t - r.getD k 0) % p = 0
theorem count_tail {p : Int} {k : Nat} {E : List (List Int)} {P : List Nat} (hp : 0 < p) (h : Ech p (k + 1) k E P) {D : ∀ m t, Decidable (Tail p k E P m t)} : ∀ m, m ≤ k → (vec p.toNat m).countP (fun t => @decide _ (D m t)) = p.toNat ^ (fr P k - fr P (k - m))
  | 0, _ => by
    have hT : Tail p k E P 0 [] := fun i q r hi hq hr => by
      have := (h.piv i q r hi hr).1
      omega
    simp [vec, hT]
  | m + 1, hm => by
    have ih := count_tail hp h (D := D) m (by omega)
    obtain ⟨c, hc⟩ : ∃ c, k - (m + 1) = c := ⟨_, rfl⟩
    have hc1 : k - m = c + 1 := by omega
    rw [hc1] at ih
    have hfr := fr_le P (show c + 1 ≤ k by omega)
    have hlow : ∀ (t : List Int) (a : Int) (i q : Nat) r, P[i]? = some q → c + 1 ≤ q → E[i]? = some r → dF r c (a :: t) = dF r (c + 1) t := fun t a i q r hi hq hr => by
      simp only [dF]
      rw [(h.piv i q r hi hr).2.2 c (by omega)]
      omega
    have hrest : ∀ (t : List Int) (a : Int), Tail p k E P (m + 1) (a :: t) → Tail p k E P m t := fun t a hT i q r hi hq hr => by
      rw [hc1] at hq ⊢
      have := hT i q r hi (by omega) hr
      rw [hc, hlow t a i q r hi hq hr] at this
      exact this
    simp only [vec]
    by_cases hmem : c ∈ P
    · obtain ⟨i0, hi0⟩ := List.getElem?_of_mem hmem
      have hil := (List.getElem?_eq_some_iff.1 hi0).1
      obtain ⟨r0, hr0⟩ : ∃ r, E[i0]? = some r := ⟨E[i0]'(by have := h.le; omega), List.getElem?_eq_getElem (by have := h.le; omega)⟩
      have hone := (h.piv i0 c r0 hi0 hr0).2.1
      rw [count_flat (R := fun t => @decide _ (D m t)) (q := 1), ih, hc]
      · simp only [fr, if_pos hmem, Nat.add_zero, Nat.one_mul]
      · intro t ht
        have hiff : ∀ a : Int, Tail p k E P (m + 1) (a :: t) ↔ (Tail p k E P m t ∧ (a + (dF r0 (c + 1) t - r0.getD k 0)) % p = 0) := fun a => by
          constructor
          · intro hT
            refine ⟨hrest t a hT, ?_⟩
            have := hT i0 c r0 hi0 (by omega) hr0
            rw [hc] at this
            simp only [dF] at this
            rw [hone] at this
            rw [show a + (dF r0 (c + 1) t - r0.getD k 0) = 1 * a + dF r0 (c + 1) t - r0.getD k 0 by omega]
            exact this
          · rintro ⟨hT, ha⟩ i q r hi hq hr
            rw [hc] at hq ⊢
            rcases Nat.eq_or_lt_of_le hq with e | e
            · subst e
              have : i = i0 := Classical.byContradiction fun hne => by
                have h0 := h.red i c i0 r0 hi (fun e => hne e.symm) hr0
                rw [hone] at h0
                cases h0
              subst this
              rw [hr0] at hr
              cases hr
              simp only [dF]
              rw [hone, show 1 * a + dF r0 (c + 1) t - r0.getD k 0 = a + (dF r0 (c + 1) t - r0.getD k 0) by omega]
              exact ha
            · rw [hlow t a i q r hi e hr]
              have := hT i q r hi (by omega) hr
              rw [hc1] at this
              exact this
        rw [List.countP_map]
        by_cases hT : Tail p k E P m t
        · rw [if_pos (by simpa using hT)]
          refine Eq.trans (List.countP_congr fun a _ => ?_) (count_root hp (dF r0 (c + 1) t - r0.getD k 0))
          simp only [Function.comp, decide_eq_true_eq]
          rw [hiff]
          exact ⟨fun h => h.2, fun h => ⟨hT, h⟩⟩
        · rw [if_neg (by simpa using hT)]
          refine List.countP_eq_zero.2 fun a _ => ?_
          simp only [Function.comp, decide_eq_true_eq]
          rw [hiff]
          exact fun h => hT h.1
    · rw [count_flat (R := fun t => @decide _ (D m t)) (q := p.toNat), ih, hc]
      · have e : fr P (c + 1) = fr P c + 1 := by simp only [fr, if_neg hmem]
        rw [e] at hfr ⊢
        rw [show fr P k - fr P c = (fr P k - (fr P c + 1)) + 1 by omega, Nat.pow_succ, Nat.mul_comm]
      · intro t ht
        have hiff : ∀ a : Int, Tail p k E P (m + 1) (a :: t) ↔ Tail p k E P m t := fun a => by
          refine ⟨hrest t a, fun hT i q r hi hq hr => ?_⟩
          rw [hc] at hq ⊢
          rcases Nat.eq_or_lt_of_le hq with e | e
          · subst e
            exact absurd (List.mem_of_getElem? hi) hmem
          · rw [hlow t a i q r hi e hr]
            have := hT i q r hi (by omega) hr
            rw [hc1] at this
            exact this
        rw [List.countP_map]
        by_cases hT : Tail p k E P m t
        · rw [if_pos (by simpa using hT)]
          rw [List.countP_eq_length.2 (fun a _ => by simp only [Function.comp, decide_eq_true_eq]; exact (hiff a).2 hT), List.length_range]
        · rw [if_neg (by simpa using hT)]
          refine List.countP_eq_zero.2 fun a _ => ?_
          simp only [Function.comp, decide_eq_true_eq]
          rw [hiff]
          exact hT
end Go.Proofs.Ytmkpfllbmdahkaa.Pl
/- Solutions of linear equations, counted by the echelon, and by numbers; in plain Lean. Each holds under its own conditions. -/
set_option linter.unusedVariables false
set_option linter.unusedSimpArgs false
namespace Go.Proofs.Ytmkpfllbmdahkaa.Pl
theorem dF_zero {r : List Int} : ∀ (t : List Int) (c : Nat), (∀ j, c ≤ j → j < c + t.length → r.getD j 0 = 0) → dF r c t = 0
  | [], _, _ => rfl
  | a :: t, c, h => by
    simp only [dF]
    rw [h c (Nat.le_refl _) (by simp), dF_zero t (c + 1) (fun j h1 h2 => h j (by omega) (by simp only [List.length_cons]; omega))]
    omega
/-- No row behind the pivots has a value. -/
def Solv (p : Int) (k : Nat) (W : List (List Int)) : Prop := ∀ (i : Nat) r, (ech p W k).2.length ≤ i → (ech p W k).1[i]? = some r → r.getD k 0 = 0
theorem count_sol {p : Int} {k : Nat} {W : List (List Int)} (hf : Fer p) (hW : Rect p (k + 1) W) {D : ∀ x, Decidable (AllS p k W x)} {D2 : Decidable (Solv p k W)} :
    (vec p.toNat k).countP (fun x => @decide _ (D x)) = if Solv p k W then p.toNat ^ (k - (ech p W k).2.length) else 0 := by
  have hp : 0 < p := by have := hf.1; omega
  have sh := ech_shape hf hW k
  have hfr := ech_fr hf hW k
  have hrow : ∀ x : List Int, x.length = k → (AllS p k W x ↔ Tail p k (ech p W k).1 (ech p W k).2 k x ∧ Solv p k W) := fun x hx => by
    rw [← ech_sat hf hW k]
    constructor
    · intro h
      refine ⟨fun i q r hi _ hr => ?_, fun i r hi hr => ?_⟩
      · rw [Nat.sub_self]; exact sat_iff.1 (h i r hr)
      · have h1 := sat_iff.1 (h i r hr)
        rw [dF_zero x 0 (fun j _ hj => sh.zero i r hi hr j (by omega))] at h1
        have h2 := sh.rect.el hp hr k
        have h3 : r.getD k 0 % p = 0 := by
          have := Int.dvd_of_emod_eq_zero h1
          exact Int.emod_eq_zero_of_dvd (by have h4 := Int.dvd_neg.2 this; rwa [show -(0 - r.getD k 0) = r.getD k 0 by omega] at h4)
        rw [small_mod h2] at h3
        exact h3
    · rintro ⟨hT, hS⟩ i r hr
      rcases Nat.lt_or_ge i (ech p W k).2.length with hi | hi
      · have := hT i ((ech p W k).2[i]) r (List.getElem?_eq_getElem hi) (by omega) hr
        rw [Nat.sub_self] at this
        exact sat_iff.2 this
      · rw [sat_iff, dF_zero x 0 (fun j _ hj => sh.zero i r hi hr j (by omega)), hS i r hi hr]
        simp
  by_cases hS : Solv p k W
  · rw [if_pos hS]
    have h1 := count_tail hp sh (D := fun _ _ => Classical.propDecidable _) k (Nat.le_refl k)
    rw [Nat.sub_self, show fr (ech p W k).2 k - fr (ech p W k).2 0 = k - (ech p W k).2.length by simp only [fr]; omega] at h1
    rw [← h1]
    refine List.countP_congr fun x hx => ?_
    simp only [decide_eq_true_eq]
    rw [hrow x (vec_len k hx)]
    exact ⟨fun h => h.1, fun h => ⟨h, hS⟩⟩
  · rw [if_neg hS]
    refine List.countP_eq_zero.2 fun x hx => ?_
    simp only [decide_eq_true_eq]
    rw [hrow x (vec_len k hx)]
    exact fun h => hS h.2
theorem solv_iff {p : Int} {k : Nat} {W : List (List Int)} (hf : Fer p) (hW : Rect p (k + 1) W) : Solv p k W ↔ k ∉ (ech p W (k + 1)).2 := by
  have sh := ech_shape hf hW k
  have hnc : k ∉ (ech p W k).2 := fun hm => by
    obtain ⟨i, hi⟩ := List.getElem?_of_mem hm
    have hil := (List.getElem?_eq_some_iff.1 hi).1
    have := (sh.piv i k _ hi (List.getElem?_eq_getElem (by have := sh.le; omega))).1
    omega
  unfold Solv
  simp only [ech]
  split
  · rename_i hr
    refine ⟨fun _ => hnc, fun _ i r hi he => ?_⟩
    have := (sh.none_ hr).zero i r hi he k (by omega)
    exact this
  · rename_i L' hr
    obtain ⟨a, u, w, b, h1, h2, hu, hw, hw0, _⟩ := rnd_rows hf sh.rect sh.le hr
    refine ⟨fun h => absurd (h a w h1 hw) hw0, fun h => absurd (by simp) h⟩
theorem take_get {r : List Int} {k c : Nat} (h : c < k) : (r.take k).getD c 0 = r.getD c 0 := by
  simp only [List.getD_eq_getElem?_getD, List.getElem?_take, if_pos h]
theorem nz_take {W : List (List Int)} {k c : Nat} (hc : c < k) : ∀ (d a : Nat), a + d = W.length → nz (W.map (List.take k)) c a = nz W c a
  | 0, a, h => by rw [nz_end (by rw [List.length_map]; omega), nz_end (by omega)]
  | d + 1, a, h => by
    obtain ⟨u, hu⟩ : ∃ u, W[a]? = some u := ⟨W[a]'(by omega), List.getElem?_eq_getElem (by omega)⟩
    have hu' : (W.map (List.take k))[a]? = some (u.take k) := by rw [List.getElem?_map, hu]; rfl
    by_cases hz : u.getD c 0 = 0
    · rw [← nz_step hu hz, ← nz_step hu' (by rw [take_get hc]; exact hz)]
      exact nz_take hc d (a + 1) (by omega)
    · rw [nz_stop hu hz, nz_stop hu' (by rw [take_get hc]; exact hz)]
theorem getD_take {W : List (List Int)} {k a : Nat} : (W.map (List.take k)).getD a [] = (W.getD a []).take k := by
  simp only [List.getD_eq_getElem?_getD, List.getElem?_map]
  cases W[a]? <;> simp
theorem sw_take {W : List (List Int)} {k n a : Nat} : sw (W.map (List.take k)) n a = (sw W n a).map (List.take k) := by
  simp only [sw, getD_take, List.map_set]
theorem sc_take {p b : Int} {r : List Int} {k : Nat} : sc p b (r.take k) = (sc p b r).take k := by simp only [sc, List.map_take]
theorem tk_take {p t : Int} {a b : List Int} {k : Nat} : tk p t (a.take k) (b.take k) = (tk p t a b).take k := by simp only [tk, List.take_zipWith]
theorem tks_take {p : Int} {c n i k : Nat} {r : List Int} {L : List (List Int)} (hc : c < k) : tks p c n (r.take k) (L.map (List.take k)) i = (tks p c n r L i).map (List.take k) := by
  apply List.ext_getElem?
  intro j
  rw [tks_get, List.getElem?_map, List.getElem?_map, tks_get]
  cases L[j]? with
  | none => rfl
  | some w =>
    simp only [Option.map_some]
    split
    · rw [take_get hc, tk_take]
    · rfl
theorem rnd_take {p : Int} {W : List (List Int)} {k c n : Nat} (hc : c < k) (hn : n ≤ W.length) : rnd p (W.map (List.take k)) c n = (rnd p W c n).map (fun L => L.map (List.take k)) := by
  unfold rnd
  have h1 := nz_take (W := W) hc (W.length - n) n (by omega)
  have h2 : lead p (W.map (List.take k)) c n = (lead p W c n).take k := by
    unfold lead
    rw [h1, sw_take, getD_take, take_get hc, sc_take]
  rw [h1, List.length_map, h2]
  split
  · rfl
  · rw [sw_take, ← List.map_set, tks_take hc]
    rfl
theorem ech_take {p : Int} {K k : Nat} {W : List (List Int)} (hf : Fer p) (hW : Rect p K W) : ∀ c, c ≤ k → ech p (W.map (List.take k)) c = ((ech p W c).1.map (List.take k), (ech p W c).2)
  | 0, _ => rfl
  | c + 1, h => by
    have ih := ech_take (k := k) hf hW c (by omega)
    have sh := ech_shape hf hW c
    simp only [ech]
    rw [ih]
    simp only
    rw [rnd_take (show c < k by omega) sh.le]
    cases rnd p (ech p W c).1 c (ech p W c).2.length <;> rfl
/-- The elements of a number, the lowest one first. -/
def dig (p : Nat) : Nat → Nat → List Int
  | 0, _ => []
  | m + 1, n => ((n % p : Nat) : Int) :: dig p m (n / p)
theorem range_mul (a b : Nat) : List.range (a * b) = (List.range a).flatMap fun q => (List.range b).map fun r => q * b + r := by
  induction a with
  | zero => simp
  | succ a ih =>
    rw [Nat.succ_mul, List.range_add, List.range_succ, List.flatMap_append, ih]
    simp
theorem vec_dig {p : Nat} (hp : 0 < p) : ∀ m, vec p m = (List.range (p ^ m)).map (dig p m)
  | 0 => by simp [vec, dig]
  | m + 1 => by
    rw [vec, vec_dig hp m, Nat.pow_succ, range_mul, List.flatMap_map, List.map_flatMap]
    congr 1
    funext q
    rw [List.map_map]
    refine List.map_congr_left fun r hr => ?_
    have hr := List.mem_range.1 hr
    simp only [Function.comp, dig]
    rw [Nat.add_comm, Nat.add_mul_mod_self_right, Nat.mod_eq_of_lt hr, Nat.add_mul_div_right _ _ hp, Nat.div_eq_of_lt hr, Nat.zero_add]
/-- The numbers with the lowest element s, counted. -/
theorem count_low {p : Nat} (hp : 0 < p) {m s : Nat} (hs : s < p) (Q : List Int → Bool) : (List.range (p ^ (m + 1))).countP (fun n => decide (n % p = s) && Q (dig p (m + 1) n)) = (vec p m).countP (fun t => Q ((s : Int) :: t)) := by
  rw [vec_dig hp m, Nat.pow_succ, range_mul, List.countP_map, count_flat (R := fun q => Q ((s : Int) :: dig p m q)) (q := 1)]
  · rw [Nat.one_mul]; rfl
  · intro q hq
    rw [List.countP_map]
    have h1 : ∀ r, r < p → (decide ((q * p + r) % p = s) && Q (dig p (m + 1) (q * p + r))) = (decide (r = s) && Q ((s : Int) :: dig p m q)) := fun r hr => by
      simp only [dig]
      rw [Nat.add_comm, Nat.add_mul_mod_self_right, Nat.mod_eq_of_lt hr, Nat.add_mul_div_right _ _ hp, Nat.div_eq_of_lt hr, Nat.zero_add]
      by_cases e : r = s
      · subst e; rfl
      · simp [e]
    by_cases hQ : Q ((s : Int) :: dig p m q) = true
    · rw [if_pos hQ]
      have h2 := count_one s p
      rw [if_pos hs] at h2
      refine Eq.trans (List.countP_congr fun r hr => ?_) h2
      simp only [Function.comp]
      rw [h1 r (List.mem_range.1 hr), hQ, Bool.and_true]
    · rw [if_neg hQ]
      refine List.countP_eq_zero.2 fun r hr => ?_
      simp only [Function.comp]
      rw [h1 r (List.mem_range.1 hr)]
      simp [hQ]
end Go.Proofs.Ytmkpfllbmdahkaa.Pl
