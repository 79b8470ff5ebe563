/- Contracts: the laws' own functions on rows of numbers (sizes, copies, equality). Each holds under its own conditions. -/
import Derived.Test.YtaepgfafbnjccaaSp2
import Derived.Test.YtaepgfafbnjccaaAm26
import Derived.Test.YtaepgfafbnjccaaAm24
set_option linter.unusedVariables false
set_option maxRecDepth 20000
namespace Go.Proofs.Ytaepgfafbnjccaa.Am
open Go Go.RowKit Go.Proofs
def sum : List Nat → Nat
  | [] => 0
  | n :: l => n + sum l
theorem sum_take {l : List Nat} {i n : Nat} (h : l[i]? = some n) : sum (l.take (i + 1)) = sum (l.take i) + n := by
  induction l generalizing i with
  | nil => simp at h
  | cons m l ih =>
    cases i with
    | zero => cases h; simp [sum]
    | succ i =>
      have h : l[i]? = some n := by simpa using h
      simp only [List.take_succ_cons, sum, ih h]
      omega
theorem sum_le {l : List Nat} (i : Nat) : sum (l.take i) ≤ sum l := by
  induction l generalizing i with
  | nil => simp [sum]
  | cons m l ih =>
    cases i with
    | zero => simp [sum]
    | succ i => simp only [List.take_succ_cons, sum]; have := ih i; omega
abbrev lens (xs : List (List Int)) : List Nat := xs.map List.length
theorem sum_mem {l : List Nat} {n : Nat} (h : n ∈ l) : n ≤ sum l := by
  induction l with
  | nil => simp at h
  | cons m l ih =>
    simp only [sum]
    rcases List.mem_cons.1 h with rfl | h
    · omega
    · have := ih h; omega
section
variable {S : Ids} {H0 : AH}
/-- A size is found, or the sizes are too great. -/
def SzPost (left : Int) (p : Prop) (v : Value) : Prop := ∃ r : Int, v = .int .i64 r ∧ (r = -1 ∨ (0 ≤ r ∧ r ≤ left ∧ p))
theorem szInt64S {a c} {xs : List Int} {left : Int} (h0 : 0 ≤ left) (h1 : left ≤ 1048576) (hx : xs.length ≤ 9223372036854775807) : Spec Try.prog S H0 71 [.slice a xs.length c, .int .i64 left] (SzPost left (xs.length ≤ 1048576)) := by
  refine Spec.of Try.func71 rfl (by kernel_rfl) rfl (fun H hfin hfz => ?_)
  have e : IntKind.i64.wrap (left - (xs.length : Int)) = left - (xs.length : Int) := wr (by omega) (by omega)
  refine KW.cnd rfl rfl (fun h => KW.ret rfl rfl rfl rfl ⟨-1, rfl, .inl rfl⟩) (fun h => KW.ret rfl rfl rfl rfl ⟨_, rfl, .inr ?_⟩)
  rw [e] at h ⊢
  omega
theorem szInt64S' {a c} {xs : List Int} {left : Int} (h0 : 0 ≤ left) (h1 : left ≤ 1048576) (hx : xs.length ≤ 9223372036854775807) : Spec Try.prog S H0 71 [.slice a xs.length c, .int .i64 left] (fun v => ∃ r : Int, v = .int .i64 r ∧ (r = -1 ∨ (0 ≤ r ∧ r = left - xs.length))) := by
  refine Spec.of Try.func71 rfl (by kernel_rfl) rfl (fun H hfin hfz => ?_)
  have e : IntKind.i64.wrap (left - (xs.length : Int)) = left - (xs.length : Int) := wr (by omega) (by omega)
  refine KW.cnd rfl rfl (fun h => KW.ret rfl rfl rfl rfl ⟨-1, rfl, .inl rfl⟩) (fun h => KW.ret rfl rfl rfl rfl ⟨_, rfl, .inr ?_⟩)
  rw [e] at h ⊢
  exact ⟨by omega, rfl⟩
theorem szInt64SS {a c} {xs : List (List Int)} {left : Int} (h0 : 0 ≤ left) (h1 : left ≤ 1048576) (hx : xs.length ≤ 9223372036854775807) (hx' : ∀ x ∈ xs, x.length ≤ 9223372036854775807) (hs : (Kn.int .i64).sl.Sl S H0 (.slice a xs.length c) xs) :
    Spec Try.prog S H0 41 [.slice a xs.length c, .int .i64 left] (SzPost left (xs.length ≤ 1048576 ∧ sum (lens xs) ≤ 1048576)) := by
  refine Spec.of Try.func41 rfl (by kernel_rfl) rfl (fun H hfin hfz => ?_)
  have hs := hs.to hfz
  have e : IntKind.i64.wrap (left - (xs.length : Int)) = left - (xs.length : Int) := wr (by omega) (by omega)
  refine KW.cnd rfl rfl (fun h => KW.ret rfl rfl rfl rfl ⟨-1, rfl, .inl rfl⟩) (fun h => ?_)
  rw [e] at h
  refine KW.lp rfl rfl (fun s : Nat × Int => [(0, .slice a xs.length c), (1, .int .i64 s.2), (5, .int .i64 s.1)]) (fun s => s.1 ≤ xs.length ∧ 0 ≤ s.2 ∧ s.2 = left - xs.length - (sum ((lens xs).take s.1) : Nat)) (fun s => xs.length - s.1) (0, left - xs.length) ⟨by omega, by simp only; omega, by simp [sum]⟩ ⟨rfl, congrArg (Value.int .i64) e, rfl, trivial⟩ (fun s hi b n => ?_)
  obtain ⟨i, r⟩ := s
  obtain ⟨hi, hr0, hr1⟩ := hi
  simp only at hi hr0 hr1
  refine KW.cnd rfl rfl (fun h2 => ?_) (fun h2 => KW.ret rfl rfl rfl rfl ⟨_, rfl, .inr ⟨hr0, by simp only; omega, by omega, ?_⟩⟩)
  · refine KW.getL hs rfl rfl rfl rfl rfl rfl rfl rfl rfl rfl rfl rfl rfl rfl rfl rfl (by omega) h2 (fun y a' m hy hsy => ?_)
    have hy : xs[i]? = some y := hy
    have hyl : (lens xs)[i]? = some y.length := by simp [hy]
    have hsum := sum_take hyl
    refine KW.call rfl rfl rfl rfl rfl (szInt64S' hr0 (by omega) (hx' y (List.mem_of_getElem? hy))) (fun v n' _ hv => ?_)
    obtain ⟨q, rfl, hq⟩ := hv
    refine KW.cnd rfl rfl (fun h3 => KW.ret rfl rfl rfl rfl ⟨-1, rfl, .inl rfl⟩) (fun h3 => ?_)
    exact KW.nxt rfl rfl (fun H g => ⟨(i + 1, q), ⟨by simp only; omega, by simp only; omega, by simp only [hsum]; omega⟩, by simp only; omega, ⟨rfl, rfl, congrArg (Value.int .i64) (inc64 (by omega)), trivial⟩, g⟩)
  · have : i = xs.length := by omega
    subst this
    rw [List.take_of_length_le (by simp)] at hr1
    omega
theorem set_next {α β : Type} (f : α → β) (xs : List α) (i : Nat) (y : α) (hy : xs[i]? = some y) (z : β) : ((xs.take i).map f ++ List.replicate (xs.length - i) z).set (0 + i * 1) (f y) = (xs.take (i + 1)).map f ++ List.replicate (xs.length - (i + 1)) z := by
  obtain ⟨hi, rfl⟩ := List.getElem?_eq_some_iff.1 hy
  have e1 : xs.length - i = (xs.length - (i + 1)) + 1 := by omega
  have e2 : ((xs.take i).map f).length = i := by simp; omega
  rw [Nat.zero_add, Nat.mul_one, List.set_append_right _ _ (by omega), e2, Nat.sub_self, e1, List.replicate_succ, List.set_cons_zero, List.take_succ_eq_append_getElem hi, List.map_append, List.append_assoc]
  rfl
theorem Good.eqT {S : Ids} {H0 H : AH} {T T' : List Var} {n : Nat} (g : Good S H0 T n H) (h : T = T') : Good S H0 T' n H := h ▸ g
theorem toInt64S {a c} {xs : List Int} (hl : xs.length ≤ 1048576) (hs : (Kn.int .i64).Sl S H0 (.slice a xs.length c) xs) : SpecM Try.prog S H0 27 [.slice a xs.length c] (fun n v H1 => ∃ a c, v = .slice a xs.length c ∧ KI.Ml (New n H1.n) H1 (.slice a xs.length c) xs) := by
  refine SpecM.of Try.func27 rfl (by kernel_rfl) rfl (fun H hfin hfz => ?_)
  have hs := hs.to hfz
  refine KW.mk1 rfl rfl rfl rfl rfl rfl rfl rfl rfl rfl rfl rfl xs.length rfl rfl (by omega) (by show 8 * xs.length ≤ _; omega) ?_
  refine KW.lpM rfl rfl (fun i : Nat => [(0, .slice a xs.length c), (3, .slice (some ⟨H.n, 0, some 1⟩) xs.length xs.length), (4, .int .i64 i)]) (fun _ => Low H.n) (fun _ => H) (fun i => [(H.n, ⟨_, true, (xs.take i).map (Value.int .i64) ++ List.replicate (xs.length - i) (Value.int .i64 0)⟩)]) (fun i => i ≤ xs.length) (fun i => xs.length - i) 0 (by omega) ⟨rfl, rfl, rfl, trivial⟩ rfl rfl rfl (fun i hi b n => ?_)
  refine KW.cnd rfl rfl (fun h => ?_) (fun h => ?_)
  · refine KW.getI hs rfl rfl rfl rfl rfl rfl rfl rfl rfl rfl rfl rfl rfl rfl rfl rfl (by omega) h (fun y hy => ?_)
    refine KW.idx0 rfl rfl rfl rfl rfl rfl rfl rfl rfl (by omega) (by omega) ?_
    refine KW.st1 0 rfl rfl rfl rfl rfl rfl rfl rfl rfl rfl rfl rfl (by simp; omega) ?_
    exact KW.nxt rfl rfl (fun H' g => ⟨i + 1, by omega, by omega, ⟨rfl, rfl, congrArg (Value.int .i64) (inc64 (by omega)), trivial⟩, g.eqT (congrArg (fun cs => [(H.n, Blk.mk _ true cs)]) (set_next (Value.int .i64) xs i y hy _))⟩)
  · obtain rfl : i = xs.length := by omega
    refine KW.retM rfl rfl rfl rfl (fun id hid => ⟨hid, rfl⟩) (fun H1 g => ?_)
    have hb := g.blk (j := 0) rfl
    exact ⟨_, _, rfl, int_ml ⟨Nat.le_refl _, hb.2⟩ hb.1 rfl (by simp) (Nat.le_refl _)⟩
theorem toInt64SS {a c} {xs : List (List Int)} (hl : xs.length ≤ 1048576) (hx : ∀ x ∈ xs, x.length ≤ 1048576) (hs : KI.sl.Sl S H0 (.slice a xs.length c) xs) : SpecM Try.prog S H0 43 [.slice a xs.length c] (fun n v H1 => ∃ a c, v = .slice a xs.length c ∧ KI.ml.Ml (New n H1.n) H1 (.slice a xs.length c) xs) := by
  refine SpecM.of Try.func43 rfl (by kernel_rfl) rfl (fun H hfin hfz => ?_)
  have hs := hs.to hfz
  refine KW.mk1 rfl rfl rfl rfl rfl rfl rfl rfl rfl rfl rfl rfl xs.length rfl rfl (by omega) (by show 24 * xs.length ≤ _; omega) ?_
  refine KW.lpM rfl rfl (fun s : MkS => [(0, .slice a xs.length c), (3, .slice (some ⟨H.n, 0, some 1⟩) xs.length xs.length), (4, .int .i64 s.i)]) (fun s => s.S) (fun s => s.A) (fun s => [(H.n, ⟨_, true, s.cs⟩)]) (fun s => MkI KI.ml xs H s) (fun s => xs.length - s.i) ⟨0, Low H.n, H, fun _ _ => False, List.replicate xs.length (.slice none 0 0)⟩
    (MkI.start (by simp)) ⟨rfl, rfl, rfl, trivial⟩ rfl rfl rfl (fun s hi b n => ?_)
  have hle := hi.le
  refine KW.fact (p := H.n < n ∧ ∀ id, s.S id → id < n) (fun _ g => ⟨(g.vars 0 _ rfl).2.1, fun id hid => (g.froz id hid).1⟩) (fun hHn => ?_)
  have hs := hs.st hi.old
  refine KW.cnd rfl rfl (fun h => ?_) (fun h => ?_)
  · refine KW.getL hs rfl rfl rfl rfl rfl rfl rfl rfl rfl rfl rfl rfl rfl rfl rfl rfl (by omega) h (fun y a' m hy hsy => ?_)
    have hy : xs[s.i]? = some y := hy
    refine KW.callN rfl rfl rfl rfl rfl (toInt64S (hx y (List.mem_of_getElem? hy)) hsy) (fun v H1 S' hn st hw hv => ?_)
    obtain ⟨a2, c2, rfl, hv⟩ := hv
    refine KW.idx0 rfl rfl rfl rfl rfl rfl rfl rfl rfl (by omega) (by omega) ?_
    refine KW.st1 0 rfl rfl rfl rfl rfl rfl rfl rfl rfl rfl rfl rfl (by have := hi.len; simp only; omega) ?_
    exact KW.nxt rfl rfl (fun H' g => ⟨_, hi.next hHn.1 hHn.2 st hw hy ⟨_, rfl, hv⟩, by simp only; omega, ⟨rfl, rfl, congrArg (Value.int .i64) (inc64 (by omega)), trivial⟩, g⟩)
  · have he : s.i = xs.length := by omega
    refine KW.retM rfl rfl rfl rfl hi.old (fun H1 g => ?_)
    exact ⟨_, _, rfl, hi.ml he rfl rfl g⟩
theorem eqInt64S {a c a' c'} {xs ys : List Int} (hl : xs.length ≤ 1048576) (hs : (Kn.int .i64).Sl S H0 (.slice a xs.length c) xs) (hs' : (Kn.int .i64).Sl S H0 (.slice a' ys.length c') ys) :
    Spec Try.prog S H0 29 [.slice a xs.length c, .slice a' ys.length c'] (fun v => v = .bool (tv (xs = ys))) := by
  refine Spec.of Try.func29 rfl (by kernel_rfl) rfl (fun H hfin hfz => ?_)
  have hs := hs.to hfz
  have hs' := hs'.to hfz
  have bad : xs ≠ ys → aout [Value.bool false] = .bool (tv (xs = ys)) := fun hx => by rw [tv_false hx]; rfl
  refine KW.cndB rfl rfl (fun h => KW.ret rfl rfl rfl rfl (bad (fun hc => by rw [hc] at h; simp at h))) (fun h => ?_)
  have h : xs.length = ys.length := by simp at h; omega
  refine KW.lp rfl rfl (fun i : Nat => [(0, .slice a xs.length c), (1, .slice a' ys.length c'), (5, .int .i64 i)]) (fun i => i ≤ xs.length ∧ ∀ j, j < i → xs[j]? = ys[j]?) (fun i => xs.length - i) 0 ⟨by omega, fun j h => absurd h (by omega)⟩ ⟨rfl, rfl, rfl, trivial⟩ (fun i hi b n => ?_)
  obtain ⟨hi, hj⟩ := hi
  refine KW.cnd rfl rfl (fun h2 => ?_) (fun h2 => KW.ret rfl rfl rfl rfl ?_)
  · refine KW.getI hs rfl rfl rfl rfl rfl rfl rfl rfl rfl rfl rfl rfl rfl rfl rfl rfl (by omega) h2 (fun x hx => ?_)
    have hx : xs[i]? = some x := hx
    refine KW.getI hs' rfl rfl rfl rfl rfl rfl rfl rfl rfl rfl rfl rfl rfl rfl rfl rfl (by omega) (by omega) (fun y hy => ?_)
    have hy : ys[i]? = some y := hy
    refine KW.cndB rfl rfl (fun h3 => KW.ret rfl rfl rfl rfl (bad (fun hc => ?_))) (fun h3 => ?_)
    · subst hc
      rw [hx] at hy
      cases hy
      simp at h3
    · have h3 : x = y := by simpa using h3
      exact KW.nxt rfl rfl (fun H g => ⟨i + 1, ⟨by omega, upto hj (by rw [hx, hy, h3])⟩, by omega, ⟨rfl, rfl, congrArg (Value.int .i64) (inc64 (by omega)), trivial⟩, g⟩)
  · have : xs = ys := List.ext_getElem? fun j => by
      rcases Nat.lt_or_ge j i with h | h
      · exact hj j h
      · rw [List.getElem?_eq_none (by omega), List.getElem?_eq_none (by omega)]
    rw [tv_true this]; rfl
theorem eqInt64SS {a c a' c'} {xs ys : List (List Int)} (hl : xs.length ≤ 1048576) (hl' : ∀ x ∈ xs, x.length ≤ 1048576) (hs : (Kn.int .i64).sl.Sl S H0 (.slice a xs.length c) xs) (hs' : (Kn.int .i64).sl.Sl S H0 (.slice a' ys.length c') ys) :
    Spec Try.prog S H0 46 [.slice a xs.length c, .slice a' ys.length c'] (fun v => v = .bool (tv (xs = ys))) := by
  refine Spec.of Try.func46 rfl (by kernel_rfl) rfl (fun H hfin hfz => ?_)
  have hs := hs.to hfz
  have hs' := hs'.to hfz
  have bad : xs ≠ ys → aout [Value.bool false] = .bool (tv (xs = ys)) := fun hx => by rw [tv_false hx]; rfl
  refine KW.cndB rfl rfl (fun h => KW.ret rfl rfl rfl rfl (bad (fun hc => by rw [hc] at h; simp at h))) (fun h => ?_)
  have h : xs.length = ys.length := by simp at h; omega
  refine KW.lp rfl rfl (fun i : Nat => [(0, .slice a xs.length c), (1, .slice a' ys.length c'), (5, .int .i64 i)]) (fun i => i ≤ xs.length ∧ ∀ j, j < i → xs[j]? = ys[j]?) (fun i => xs.length - i) 0 ⟨by omega, fun j h => absurd h (by omega)⟩ ⟨rfl, rfl, rfl, trivial⟩ (fun i hi b n => ?_)
  obtain ⟨hi, hj⟩ := hi
  refine KW.cnd rfl rfl (fun h2 => ?_) (fun h2 => KW.ret rfl rfl rfl rfl ?_)
  · refine KW.getL hs rfl rfl rfl rfl rfl rfl rfl rfl rfl rfl rfl rfl rfl rfl rfl rfl (by omega) h2 (fun x ax cx hx hsx => ?_)
    have hx : xs[i]? = some x := hx
    refine KW.getL hs' rfl rfl rfl rfl rfl rfl rfl rfl rfl rfl rfl rfl rfl rfl rfl rfl (by omega) (by omega) (fun y ay cy hy hsy => ?_)
    have hy : ys[i]? = some y := hy
    refine KW.callE rfl rfl rfl rfl rfl (eqInt64S (hl' x (List.mem_of_getElem? hx)) hsx hsy) (fun n' _ => ?_)
    refine KW.cndB rfl rfl (fun h3 => KW.ret rfl rfl rfl rfl (bad (fun hc => ?_))) (fun h3 => ?_)
    · subst hc
      rw [hx] at hy
      cases hy
      rw [tv_true rfl] at h3
      simp at h3
    · have h3 : x = y := tv_iff.1 (by simpa using h3)
      exact KW.nxt rfl rfl (fun H g => ⟨i + 1, ⟨by omega, upto hj (by rw [hx, hy, h3])⟩, by omega, ⟨rfl, rfl, congrArg (Value.int .i64) (inc64 (by omega)), trivial⟩, g⟩)
  · have : xs = ys := List.ext_getElem? fun j => by
      rcases Nat.lt_or_ge j i with h | h
      · exact hj j h
      · rw [List.getElem?_eq_none (by omega), List.getElem?_eq_none (by omega)]
    rw [tv_true this]; rfl
theorem eqInt64S1 {a c a' c'} {xs : List Int} (hl : xs.length ≤ 1048576) (hs : (Kn.int .i64).Sl S H0 (.slice a xs.length c) xs) (hs' : (Kn.int .i64).Sl S H0 (.slice a' xs.length c') xs) :
    Spec Try.prog S H0 29 [.slice a xs.length c, .slice a' xs.length c'] (fun v => v = .bool true) := by
  have := eqInt64S hl hs hs'
  rw [tv_true (rfl : xs = xs)] at this
  exact this
theorem eqInt64SS1 {a c a' c'} {xs : List (List Int)} (hl : xs.length ≤ 1048576) (hl' : ∀ x ∈ xs, x.length ≤ 1048576) (hs : (Kn.int .i64).sl.Sl S H0 (.slice a xs.length c) xs) (hs' : (Kn.int .i64).sl.Sl S H0 (.slice a' xs.length c') xs) :
    Spec Try.prog S H0 46 [.slice a xs.length c, .slice a' xs.length c'] (fun v => v = .bool true) := by
  have := eqInt64SS hl hl' hs hs'
  rw [tv_true (rfl : xs = xs)] at this
  exact this
end
end Go.Proofs.Ytaepgfafbnjccaa.Am
