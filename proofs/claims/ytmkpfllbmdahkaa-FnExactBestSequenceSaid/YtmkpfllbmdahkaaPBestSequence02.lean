/- Contracts and laws on abstract memory, merged. Each holds under its own conditions. -/
import Derived.Test.YtmkpfllbmdahkaaPBestSequence01
/- Contracts: which sets open, and the program's search for a misfit. Each holds under its own conditions. -/
set_option linter.unusedVariables false
set_option maxRecDepth 20000
namespace Go.Proofs.Ytmkpfllbmdahkaa.Am
open Go Go.RowKit Go.Proofs
theorem Fz.trans {S : Ids} {H0 H H' : AH} (h : Fz S H0 H) (k : Fz (Low H.n) H H') : Fz S H0 H' := fun id hid => by
  obtain ⟨h1, h2⟩ := h id hid
  obtain ⟨h3, h4⟩ := k id h1
  exact ⟨h3, h4.trans h2⟩
section
variable {S : Ids} {H0 : AH}
/-- A function value that tells something of each element. -/
def Tells {α : Type} (P : Program) (S : Ids) (H0 : AH) (d : Kn α) (xs : List (List α)) (g : FuncId) (cap : List Value) (p : List α → Bool) : Prop :=
  ∀ H', Fz S H0 H' → ∀ x a c, x ∈ xs → d.Sl (Low H'.n) H' (.slice a x.length c) x → Spec P (Low H'.n) H' g (.slice a x.length c :: cap) (fun v => v = .bool (p x))
theorem Tells.to {α : Type} {P : Program} {d : Kn α} {xs : List (List α)} {g : FuncId} {cap : List Value} {p : List α → Bool} {H : AH} (h : Tells P S H0 d xs g cap p) (hf : Fz S H0 H) : Tells P (Low H.n) H d xs g cap p := fun H' hf' => h H' (hf.trans hf')
theorem indexFunc2 {a c} {xs : List (List Int)} {g : FuncId} {id k : Nat} {sp : Option Nat} {p : List Int → Bool} (hl : xs.length ≤ 1048576) (hs : (Kn.int .i64).sl.Sl S H0 (.slice a xs.length c) xs) (hp : Tells Try.prog S H0 (Kn.int .i64) xs g [.pointer (some ⟨id, k, none⟩)] p) :
    Spec Try.prog S H0 239 [.slice a xs.length c, .func (.func g) #[] #[.pointer (some ⟨id, k, sp⟩)]] (fun v => ∃ r : Int, v = .int .i64 r ∧ (r ≥ 0 ↔ ∃ x ∈ xs, p x = true)) := by
  refine Spec.of Try.func239 rfl (by kernel_rfl) rfl (fun H hfin hfz => ?_)
  have hs := hs.to hfz
  have hp := hp.to hfz
  refine KW.lp rfl rfl (fun i : Nat => [(0, .slice a xs.length c), (1, .func (.func g) #[] #[.pointer (some ⟨id, k, sp⟩)]), (7, .int .i64 xs.length), (8, .int .i64 i)]) (fun i => i ≤ xs.length ∧ ∀ j, j < i → ∀ x, xs[j]? = some x → p x = false) (fun i => xs.length - i) 0 ⟨by omega, fun j h => absurd h (by omega)⟩ ⟨rfl, rfl, rfl, rfl, trivial⟩ (fun i hi b n => ?_)
  obtain ⟨hi, hj⟩ := hi
  refine KW.cnd rfl rfl (fun h => ?_) (fun h => KW.ret rfl rfl rfl rfl ⟨-1, rfl, ?_⟩)
  · refine KW.getL hs rfl rfl rfl rfl rfl rfl rfl rfl rfl rfl rfl rfl rfl rfl rfl rfl (by omega) h (fun x ax cx hx hsx => ?_)
    have hx : xs[i]? = some x := hx
    have hmem := List.mem_of_getElem? hx
    refine KW.callE rfl rfl rfl rfl rfl (hp H (fun id h => ⟨h, rfl⟩) x ax cx hmem hsx) (fun _ _ => ?_)
    refine KW.cndB rfl rfl (fun h2 => KW.ret rfl rfl rfl rfl ⟨(i : Int), rfl, ?_⟩) (fun h2 => ?_)
    · exact ⟨fun _ => ⟨x, hmem, h2⟩, fun _ => by omega⟩
    · exact KW.nxt rfl rfl (fun H g' => ⟨i + 1, ⟨by omega, upto hj (fun y hy => by rw [hx] at hy; cases hy; exact h2)⟩, by omega, ⟨rfl, rfl, rfl, congrArg (Value.int .i64) (inc64 (by omega)), trivial⟩, g'⟩)
  · refine ⟨fun h => absurd h (by decide), fun ⟨x, hx, hpx⟩ => ?_⟩
    obtain ⟨j, hjx⟩ := List.getElem?_of_mem hx
    have := hj j (by have := (List.getElem?_eq_some_iff.1 hjx).1; omega) x hjx
    rw [hpx] at this; cases this
theorem containsFunc2 {a c} {xs : List (List Int)} {g : FuncId} {id k : Nat} {sp : Option Nat} {p : List Int → Bool} (hl : xs.length ≤ 1048576) (hs : (Kn.int .i64).sl.Sl S H0 (.slice a xs.length c) xs) (hp : Tells Try.prog S H0 (Kn.int .i64) xs g [.pointer (some ⟨id, k, none⟩)] p) :
    Spec Try.prog S H0 195 [.slice a xs.length c, .func (.func g) #[] #[.pointer (some ⟨id, k, sp⟩)]] (fun v => v = .bool (tv (∃ x ∈ xs, p x = true))) := by
  refine Spec.of Try.func195 rfl (by kernel_rfl) rfl (fun H hfin hfz => ?_)
  refine KW.call rfl rfl rfl rfl rfl (indexFunc2 hl (hs.to hfz) (hp.to hfz)) (fun v n' _ hv => ?_)
  obtain ⟨r, rfl, hr⟩ := hv
  refine KW.ret rfl rfl rfl rfl ?_
  show Value.bool (decide (r ≥ 0)) = _
  rw [tv_dec, tv_congr hr]
/-- The set c has all holders of a group. -/
def Opens (gs : List (List Int)) (c : Nat) : Prop := ∃ g ∈ gs, c &&& bitsOf g = bitsOf g
/-- All groups are of holders below m. -/
def Below' (m : Nat) (gs : List (List Int)) : Prop := ∀ g ∈ gs, ∀ x ∈ g, 0 ≤ x ∧ x < (m : Int)
theorem below_bits {m : Nat} (hm : m ≤ 7) {gs : List (List Int)} (hb : Below' m gs) {g : List Int} (hg : g ∈ gs) : bitsOf g < 128 := by
  have h3 : bitsOf g < 2 ^ 7 := bitsOf_lt (fun x hx => by have := hb g hg x hx; omega)
  have h4 : (2 : Nat) ^ 7 = 128 := by decide
  omega
theorem FamOk.below {m : Int} {gs : List (List Int)} (h : FamOk m gs) : Below' m.toNat gs := fun g hg x hx => by
  obtain ⟨i, hi⟩ := List.getElem?_of_mem hg
  have h1 := (h.grp i (List.getElem?_eq_some_iff.1 hi).1).1
  rw [getDL_of hi] at h1
  exact rises_bound h.h1 h1 x hx
theorem opens1 {m : Nat} (hm : m ≤ 7) {q : Nat} (hq : q < 4611686018427387904) {g : List Int} (hg : ∀ x ∈ g, 0 ≤ x ∧ x < (m : Int)) (hl : g.length ≤ 1048576) {a c} {id : Nat} {ty : TypeId} {rw : Bool} (hS : S id) (hm' : H0.m id = some ⟨ty, rw, [.int .u64 q]⟩) (hs : (Kn.int .i64).Sl S H0 (.slice a g.length c) g) :
    Spec Try.prog S H0 251 [.slice a g.length c, .pointer (some ⟨id, 0, none⟩)] (fun v => v = .bool (tv (q &&& bitsOf g = bitsOf g))) := by
  refine Spec.of Try.func251 rfl (by kernel_rfl) rfl (fun H hfin hfz => ?_)
  have hm' := ((hfz id hS).2).trans hm'
  have hS : Low H.n id := (hfz id hS).1
  have hb : bitsOf g < 2 ^ m := bitsOf_lt (fun x h => by have := hg x h; omega)
  have hp := small_pow (m := m) (by omega)
  refine KW.ldP hS hm' rfl rfl rfl rfl rfl rfl ?_
  refine KW.callE rfl rfl rfl rfl rfl (crowdOf (m := m) (by omega) (by omega) hg (hs.to hfz)) (fun _ _ => ?_)
  refine KW.callE rfl rfl rfl rfl rfl (contains hq (by omega)) (fun _ _ => ?_)
  exact KW.ret rfl rfl rfl rfl rfl
theorem opens {m : Nat} (hm : m ≤ 7) (h : Int) {q : Nat} (hq : q < 4611686018427387904) {gs : List (List Int)} (hsm : Sml gs) (hb : Below' m gs) {a c} (hs : (Kn.int .i64).sl.Sl S H0 (.slice a gs.length c) gs) :
    Spec Try.prog S H0 218 [familyV h (.slice a gs.length c), .int .u64 q] (fun v => v = .bool (tv (Opens gs q))) := by
  refine Spec.of Try.func218 rfl (by kernel_rfl) rfl (fun H hfin hfz => ?_)
  refine KW.callV rfl rfl rfl rfl rfl (fun H1 g => containsFunc2 (p := fun x => tv (q &&& bitsOf x = bitsOf x)) hsm.len ((hs.to hfz).on (fun id hid => (g.froz id hid).2) (fun id hid => by have := (g.froz id hid).1; have := g.n_; show id < H1.n; omega)) (fun H' hf' x ax cx hx hsx => ?_)) (fun _ _ => ?_)
  · have hb1 := g.blk (j := 1) rfl
    obtain ⟨h1, h2⟩ := hf' _ hb1.2
    exact opens1 hm hq (hb x hx) (hsm.each x hx) h1 (h2.trans hb1.1) hsx
  · refine KW.ret rfl rfl rfl rfl ?_
    show Value.bool (tv _) = _
    congr 1
    exact tv_congr ⟨fun ⟨x, h1, h2⟩ => ⟨x, h1, tv_iff.1 h2⟩, fun ⟨x, h1, h2⟩ => ⟨x, h1, tv_iff.2 h2⟩⟩
end
end Go.Proofs.Ytmkpfllbmdahkaa.Am
/- Contracts: the program's search for a misfit. Each holds under its own conditions. -/
set_option linter.unusedVariables false
set_option maxRecDepth 20000
namespace Go.Proofs.Ytmkpfllbmdahkaa.Am
open Go Go.RowKit Go.Proofs
def Grow (l : List Int) (u : Int) (gs : List (List Int)) (a b : Nat) : Prop := a &&& b = a ∧ ¬ Opens gs a ∧ Opens gs b ∧ l.getD b 0 < l.getD a 0 + u
def Meet (l : List Int) (u : Int) (gs : List (List Int)) (a b : Nat) : Prop := Opens gs a ∧ Opens gs b ∧ ¬ Opens gs (a &&& b) ∧ l.getD a 0 + l.getD b 0 < l.getD (a ||| b) 0 + l.getD (a &&& b) 0 + u
def Mis (l : List Int) (u : Int) (gs : List (List Int)) (a b : Nat) : Prop := Grow l u gs a b ∨ Meet l u gs a b
/-- The first misfit, or that there is none. -/
def Fst (l : List Int) (u : Int) (gs : List (List Int)) (a b : Nat) (f : Bool) : Prop :=
  (f = true ∧ a < l.length ∧ b < l.length ∧ Mis l u gs a b ∧ (∀ a', a' < a → ∀ b', b' < l.length → ¬ Mis l u gs a' b') ∧ ∀ b', b' < b → ¬ Mis l u gs a b') ∨
  (f = false ∧ a = 0 ∧ b = 0 ∧ ∀ a', a' < l.length → ∀ b', b' < l.length → ¬ Mis l u gs a' b')
theorem Fst.one {l : List Int} {u : Int} {gs : List (List Int)} {a b a' b' : Nat} {f f' : Bool} (h : Fst l u gs a b f) (k : Fst l u gs a' b' f') : a = a' ∧ b = b' ∧ f = f' := by
  rcases h with ⟨rfl, h1, h2, h3, h4, h5⟩ | ⟨rfl, rfl, rfl, h4⟩ <;> rcases k with ⟨rfl, k1, k2, k3, k4, k5⟩ | ⟨rfl, rfl, rfl, k4⟩
  · have ha : a = a' := by
      rcases Nat.lt_trichotomy a a' with h | h | h
      · exact absurd h3 (k4 a h b h2)
      · exact h
      · exact absurd k3 (h4 a' h b' k2)
    subst ha
    refine ⟨rfl, ?_, rfl⟩
    rcases Nat.lt_trichotomy b b' with h | h | h
    · exact absurd h3 (k5 b h)
    · exact h
    · exact absurd k3 (h5 b' h)
  · exact absurd h3 (k4 a h1 b h2)
  · exact absurd k3 (h4 a' k1 b' k2)
  · exact ⟨rfl, rfl, rfl⟩
section
variable {S : Ids} {H0 : AH}
end
end Go.Proofs.Ytmkpfllbmdahkaa.Am
/- Contracts: the reference's table of what opens, and its search for a misfit. Each holds under its own conditions. -/
set_option linter.unusedVariables false
set_option maxRecDepth 20000
namespace Go.Proofs.Ytmkpfllbmdahkaa.Am
open Go Go.RowKit Go.Proofs
theorem bool_sl {xs : List Bool} {S : Ids} {H : AH} {id c : Nat} {b : Blk} (hS : S id) (hb : H.m id = some b) (hc : b.cells = xs.map Value.bool) (hl : xs.length ≤ c) : Kn.bool.Sl S H (.slice (some ⟨id, 0, some 1⟩) xs.length c) xs := by
  refine .inr ⟨id, 0, c, b, rfl, hl, hS, hb, by rw [hc]; simp [Kn.bool], fun i x hx => ?_⟩
  obtain ⟨hi, rfl⟩ := List.getElem?_eq_some_iff.1 hx
  show _ = _
  rw [hc]
  show ((xs.map Value.bool).drop (0 + i * 1)).take 1 = _
  rw [List.take_one, Nat.zero_add, Nat.mul_one, List.head?_drop]
  simp [hi]
noncomputable def tabO (gs : List (List Int)) (n : Nat) : List Bool := (List.range n).map fun q => tv (Opens gs q)
theorem tabO_len (gs : List (List Int)) (n : Nat) : (tabO gs n).length = n := by simp [tabO]
theorem tabO_at {gs : List (List Int)} {n q : Nat} (h : q < n) {y : Bool} (hy : (tabO gs n)[q]? = some y) : y = tv (Opens gs q) := by
  unfold tabO at hy
  rw [List.getElem?_map, List.getElem?_range h] at hy
  simpa using hy.symm
theorem tabO_next (gs : List (List Int)) (n : Nat) : tabO gs (n + 1) = tabO gs n ++ [tv (Opens gs n)] := by simp [tabO, List.range_succ]
section
variable {S : Ids} {H0 : AH}
theorem l07Open {m : Nat} (hm : m ≤ 7) {id : Nat} {ty : TypeId} {rw : Bool} {a1 c1} {gs : List (List Int)} (hsm : Sml gs) (hb : Below' m gs) (hS : S id) (hmm : H0.m id = some ⟨ty, rw, [.int .i64 m, .slice a1 gs.length c1]⟩) (hs : (Kn.int .i64).sl.Sl S H0 (.slice a1 gs.length c1) gs) :
    SpecM Try.prog S H0 156 [.pointer (some ⟨id, 0, none⟩)] (fun n v H1 => ∃ a c, v = .slice a (tabO gs (2 ^ m)).length c ∧ Kn.bool.Sl (New n H1.n) H1 (.slice a (tabO gs (2 ^ m)).length c) (tabO gs (2 ^ m))) := by
  refine SpecM.of Try.func156 rfl (by kernel_rfl) rfl (fun H hfin hfz => ?_)
  have hs := hs.to hfz
  have hm2 := ((hfz id hS).2).trans hmm
  have hS2 : Low H.n id := (hfz id hS).1
  have hgl := hsm.len
  have hp := small_pow (m := m) (by omega)
  refine KW.lit rfl rfl rfl rfl rfl rfl rfl rfl rfl rfl [] rfl rfl (fun v hv => by simp at hv) rfl ?_
  refine KW.lpM rfl rfl (fun s : Nat × Nat => [(0, .pointer (some ⟨id, 0, none⟩)), (3, .slice (some ⟨s.2, 0, some 1⟩) s.1 s.1), (4, .int .i64 s.1)]) (fun _ => Low H.n) (fun _ => H) (fun s => [(s.2, ⟨_, true, (tabO gs s.1).map Value.bool⟩)]) (fun s => s.1 ≤ 2 ^ m) (fun s => 2 ^ m - s.1) (0, H.n) (by simp) ⟨rfl, rfl, rfl, trivial⟩ rfl rfl rfl (fun s hi b n => ?_)
  obtain ⟨q, o⟩ := s
  simp only at hi
  refine KW.fact (p := ¬ o < H.n) (fun _ g => (g.vars 0 _ rfl).2.2) (fun ho => ?_)
  refine KW.ldP hS2 hm2 rfl rfl rfl rfl rfl rfl ?_
  refine KW.shlI rfl rfl rfl rfl rfl rfl m (wru (by omega) (by omega)) (by omega) ?_
  refine KW.cnd rfl rfl (fun h => ?_) (fun h => ?_)
  · have hql : q < 2 ^ m := by omega
    refine KW.lp rfl rfl (fun i : Nat => [(0, .pointer (some ⟨id, 0, none⟩)), (3, .slice (some ⟨o, 0, some 1⟩) q q), (4, .int .i64 q), (5, .bool (tv (Opens (gs.take i) q))), (6, .int .i64 i)]) (fun i => i ≤ gs.length) (fun i => gs.length - i) 0 (by omega) ⟨rfl, rfl, rfl, congrArg Value.bool (tv_false (fun ⟨g, hg, _⟩ => by simp at hg)).symm, rfl, trivial⟩ (fun i hi b n => ?_)
    refine KW.ldP hS2 hm2 rfl rfl rfl rfl rfl rfl ?_
    refine KW.cnd rfl rfl (fun h2 => ?_) (fun h2 => ?_)
    · refine KW.ldP hS2 hm2 rfl rfl rfl rfl rfl rfl ?_
      refine KW.getL hs rfl rfl rfl rfl rfl rfl rfl rfl rfl rfl rfl rfl rfl rfl rfl rfl (by omega) h2 (fun g ag cg hg hsg => ?_)
      have hg : gs[i]? = some g := hg
      have hmem := List.mem_of_getElem? hg
      have hbs := below_bits hm hb hmem
      refine KW.callE rfl rfl rfl rfl rfl (l07Bits (m := m) (by omega) (by have := hsm.each g hmem; omega) (hb g hmem) hsg) (fun _ _ => ?_)
      have etake : gs.take (i + 1) = gs.take i ++ [g] := by
        obtain ⟨hi', rfl⟩ := List.getElem?_eq_some_iff.1 hg
        exact List.take_succ_eq_append_getElem hi'
      have eop : Opens (gs.take (i + 1)) q ↔ Opens (gs.take i) q ∨ q &&& bitsOf g = bitsOf g := by
        rw [etake]
        constructor
        · rintro ⟨x, hx, h⟩
          rcases List.mem_append.1 hx with hx | hx
          · exact .inl ⟨x, hx, h⟩
          · obtain rfl : x = g := by simpa using hx
            exact .inr h
        · rintro (⟨x, hx, h⟩ | h)
          · exact ⟨x, List.mem_append_left _ hx, h⟩
          · exact ⟨g, by simp, h⟩
      refine KW.tstB rfl rfl (fun h3 => ?_) (fun h3 => ?_)
      · exact KW.nxt rfl rfl (fun H g' => ⟨i + 1, by omega, by omega, ⟨rfl, rfl, rfl, congrArg Value.bool (tv_true (eop.2 (.inl (tv_iff.1 h3)))).symm, congrArg (Value.int .i64) (inc64 (by omega)), trivial⟩, g'⟩)
      · refine KW.nxt rfl rfl (fun H g' => ⟨i + 1, by omega, by omega, ⟨rfl, rfl, rfl, ?_, congrArg (Value.int .i64) (inc64 (by omega)), trivial⟩, g'⟩)
        show Value.bool (IntKind.i64.wrap ((BitVec.ofInt IntKind.i64.bits ((bitsOf g : Nat) : Int) &&& BitVec.ofInt IntKind.i64.bits (q : Int)).toNat : Int) == ((bitsOf g : Nat) : Int)) = _
        rw [and_i64 (by omega) (by omega), Nat.and_comm]
        congr 1
        by_cases h4 : q &&& bitsOf g = bitsOf g
        · rw [tv_true (eop.2 (.inr h4)), h4]; simp
        · rw [tv_false (fun hc => by rcases eop.1 hc with hc | hc; · rw [tv_true hc] at h3; cases h3
                                     · exact h4 hc)]
          simp; omega
    · have hil : i = gs.length := by omega
      subst hil
      rw [List.take_length]
      refine KW.lit rfl rfl rfl rfl rfl rfl rfl rfl rfl rfl [.bool (tv (Opens gs q))] rfl rfl (fun v hv => by simp at hv; subst hv; rfl) rfl ?_
      refine KW.appT (ys := [.bool (tv (Opens gs q))]) (m := 1) 0 rfl rfl rfl rfl rfl rfl rfl rfl rfl rfl (fun H g => acells_T (g.blk (j := 1) rfl).1 rfl rfl) (by simp [tabO_len]) (fun v hv => by simp at hv; subst hv; rfl) (by decide) (by show (q + 1) * 1 ≤ _; omega) (by omega) ?_
      refine KW.nxt rfl rfl (fun H g' => ⟨(q + 1, _), by simp only; omega, by simp only; omega, ⟨rfl, rfl, congrArg (Value.int .i64) (inc64 (by omega)), trivial⟩, (g'.take 1).eqT ?_⟩)
      rw [tabO_next, List.map_append]
      rfl
  · obtain rfl : q = 2 ^ m := by omega
    refine KW.retM rfl rfl rfl rfl (fun id hid => ⟨hid, rfl⟩) (fun H1 g => ?_)
    have hb := g.blk (j := 0) rfl
    refine ⟨some ⟨o, 0, some 1⟩, 2 ^ m, ?_, bool_sl ⟨by omega, hb.2⟩ hb.1 rfl (by rw [tabO_len]; omega)⟩
    rw [tabO_len]
    rfl
end
end Go.Proofs.Ytmkpfllbmdahkaa.Am
/- Contracts: FitsFamily, of the program and of the reference. Each holds under its own conditions. -/
set_option linter.unusedVariables false
set_option maxRecDepth 20000
namespace Go.Proofs.Ytmkpfllbmdahkaa.Am
open Go Go.RowKit Go.Proofs
/-- What both return. -/
noncomputable def fitsB (m u : Int) (l : List Int) (h : Int) (gs : List (List Int)) : Bool := if fitC m u l h gs = 0 then tv (∀ a, a < l.length → ∀ b, b < l.length → ¬ Mis l u gs a b) else false
noncomputable def fitsV (m u : Int) (l : List Int) (h : Int) (gs : List (List Int)) : Value := .tuple #[.bool (fitsB m u l h gs), .int .i64 (fitC m u l h gs)]
theorem fits_no {m u : Int} {l : List Int} {h : Int} {gs : List (List Int)} (e : ¬ fitC m u l h gs = 0) : fitsV m u l h gs = .tuple #[.bool false, .int .i64 (fitC m u l h gs)] := by unfold fitsV fitsB; rw [if_neg e]
theorem fits_yes {m u : Int} {l : List Int} {h : Int} {gs : List (List Int)} (e : fitC m u l h gs = 0) : fitsV m u l h gs = .tuple #[.bool (tv (∀ a, a < l.length → ∀ b, b < l.length → ¬ Mis l u gs a b)), .int .i64 0] := by unfold fitsV fitsB; rw [if_pos e, e]
theorem fitC_zero {m u : Int} {l : List Int} {h : Int} {gs : List (List Int)} (e : fitC m u l h gs = 0) : OkR m u l ∧ FamOk h gs ∧ m = h := by
  unfold fitC at e
  by_cases h1 : tv (OkR m u l) = true
  · rw [if_pos h1] at e
    by_cases h2 : codeF h gs = 0
    · rw [if_pos h2] at e
      by_cases h3 : m = h
      · refine ⟨tv_iff.1 h1, ?_, h3⟩
        unfold codeF at h2
        by_cases h4 : tv (FamOk h gs) = true
        · exact tv_iff.1 h4
        · rw [if_neg h4] at h2; omega
      · rw [if_neg h3] at e; omega
    · rw [if_neg h2] at e; omega
  · rw [if_neg h1] at e; omega
theorem Fst.none_ {l : List Int} {u : Int} {gs : List (List Int)} {a b : Nat} {f : Bool} (h : Fst l u gs a b f) : (!f) = tv (∀ a, a < l.length → ∀ b, b < l.length → ¬ Mis l u gs a b) := by
  rcases h with ⟨rfl, h1, h2, h3, _⟩ | ⟨rfl, _, _, h4⟩
  · rw [tv_false (fun hc => hc a h1 b h2 h3)]; rfl
  · rw [tv_true h4]; rfl
section
variable {S : Ids} {H0 : AH}
end
end Go.Proofs.Ytmkpfllbmdahkaa.Am
/- Contracts: sets as groups, marks on ranks and families. Each holds under its own conditions. -/
set_option linter.unusedVariables false
set_option maxRecDepth 20000
namespace Go.Proofs.Ytmkpfllbmdahkaa.Am
open Go Go.RowKit Go.Proofs
section
variable {P : Program} {S : Ids} {H0 : AH} {Q : PostC} {k k1 : List It} {e e1 : Env} {T T1 : List Var} {n n1 : Nat} {l1 r1 : List Nat} {d1 : Tmp}
theorem KW.shr {o : Oper} {dr : Bool} {t u : TypeId} {x y : Operand} {ik kk : IntKind} {j : Int} {v : Int} (h : Go1 P k e T n (.op o dr) k1 e1 T1 n1 l1 r1) (hlr : l1 = r1) (ho : o.op = .binOp .shr t x y u) (hd : o.dst = some d1) (hx : ev e1 x = .int ik v) (hy : ev e1 y = .int kk j) (hb : ik.bits = 64) (a m : Nat) (hv : v = a) (hj : j = m) (hm : m ≤ 63)
    (hk : KW P S H0 Q n1 T1 k1 (put1 e1 d1 (.int ik ((a / 2 ^ m : Nat) : Int)))) : KW P S H0 Q n T k e := by
  refine KW.pure h hlr ho hd rfl _ ?_ hk
  subst hj hv
  simp only [pop, hx, hy, abin, ashift]
  rw [if_neg (by omega), hb]
  have e1 : min (m : Int).toNat 64 = m := by omega
  rw [e1]
  congr 2
  rw [Int.fdiv_eq_ediv_of_nonneg _ (by exact Int.pow_nonneg (by decide))]
  exact_mod_cast rfl
end
/-- The holders below n that are in a set. -/
def hold (x n : Nat) : List Int := ((List.range n).filter fun i => x.testBit i).map fun (i : Nat) => (i : Int)
theorem hold_next (x n : Nat) : hold x (n + 1) = if x.testBit n = true then hold x n ++ [(n : Int)] else hold x n := by
  unfold hold
  rw [List.range_succ, List.filter_append, List.map_append]
  by_cases h : x.testBit n = true
  · simp [h]
  · have h : x.testBit n = false := by simpa using h
    simp [h]
theorem hold_len (x n : Nat) : (hold x n).length ≤ n := by
  unfold hold
  rw [List.length_map]
  exact Nat.le_trans (List.length_filter_le _ _) (by simp)
theorem hold_up {x m : Nat} (hx : x < 2 ^ m) : ∀ d, hold x (m + d) = hold x m
  | 0 => rfl
  | d + 1 => by
    rw [← Nat.add_assoc, hold_next, if_neg (by rw [Nat.testBit_lt_two_pow (Nat.lt_of_lt_of_le hx (Nat.pow_le_pow_right (by decide) (by omega)))]; decide)]
    exact hold_up hx d
theorem bit_is {x h : Nat} : (((x / 2 ^ h) &&& 1 : Nat) == 1) = x.testBit h := by
  rw [Nat.testBit_eq_decide_div_mod_eq, Nat.and_one_is_mod]
  rfl
section
variable {S : Ids} {H0 : AH}
theorem has {x h : Nat} (hx : x < 4611686018427387904) (hh : h ≤ 63) : Spec Try.prog S H0 208 [.int .u64 x, .int .i64 h] (fun v => v = .bool (x.testBit h)) := by
  refine Spec.of Try.func208 rfl (by kernel_rfl) rfl (fun H hfin hfz => ?_)
  refine KW.shr rfl rfl rfl rfl rfl rfl rfl x h rfl rfl hh ?_
  refine KW.ret rfl rfl rfl rfl ?_
  show Value.bool (IntKind.u64.wrap ((BitVec.ofInt IntKind.u64.bits ((x / 2 ^ h : Nat) : Int) &&& BitVec.ofInt IntKind.u64.bits ((1 : Nat) : Int)).toNat : Int) == ((1 : Nat) : Int)) = _
  rw [and_u64 (Nat.lt_of_le_of_lt (Nat.div_le_self _ _) hx) (by decide), ← bit_is]
  congr 1
  generalize x / 2 ^ h &&& 1 = q
  by_cases e : q = 1
  · subst e; rfl
  · rw [show (q == 1) = false from by simpa using e]
    simp only [beq_eq_false_iff_ne, ne_eq]
    omega
theorem group {x : Nat} (hx : x < 4611686018427387904) : SpecM Try.prog S H0 164 [.int .u64 x] (fun n v H1 => ∃ a c, v = .slice a (hold x 7).length c ∧ KI.Ml (New n H1.n) H1 (.slice a (hold x 7).length c) (hold x 7)) := by
  refine SpecM.of Try.func164 rfl (by kernel_rfl) rfl (fun H hfin hfz => ?_)
  refine KW.lit rfl rfl rfl rfl rfl rfl rfl rfl rfl rfl [] rfl rfl (fun v hv => by simp at hv) rfl ?_
  refine KW.lpM rfl rfl (fun s : Nat × Nat => [(0, .int .u64 x), (3, .slice (some ⟨s.2, 0, some 1⟩) (hold x s.1).length (hold x s.1).length), (4, .int .i64 s.1)]) (fun _ => Low H.n) (fun _ => H) (fun s => [(s.2, ⟨_, true, (hold x s.1).map (Value.int .i64)⟩)]) (fun s => s.1 ≤ 7) (fun s => 7 - s.1) (0, H.n) (by simp) ⟨rfl, rfl, rfl, trivial⟩ rfl rfl rfl (fun s hi b n => ?_)
  obtain ⟨q, o⟩ := s
  simp only at hi
  refine KW.fact (p := ¬ o < H.n) (fun _ g => (g.vars 0 _ rfl).2.2) (fun ho => ?_)
  have hq := hold_len x q
  refine KW.cnd rfl rfl (fun h => ?_) (fun h => ?_)
  · refine KW.callE rfl rfl rfl rfl rfl (has hx (by omega)) (fun _ _ => ?_)
    refine KW.cndB rfl rfl (fun h2 => ?_) (fun h2 => ?_)
    · refine KW.lit rfl rfl rfl rfl rfl rfl rfl rfl rfl rfl [.int .i64 q] rfl rfl (fun v hv => by simp at hv; subst hv; rfl) rfl ?_
      refine KW.appT (len := (hold x q).length) (ys := [.int .i64 q]) (m := 1) 0 rfl rfl rfl rfl rfl rfl rfl rfl rfl rfl (fun H g => acells_T (g.blk (j := 1) rfl).1 rfl rfl) (by simp) (fun v hv => by simp at hv; subst hv; rfl) (by decide) (by show ((hold x q).length + 1) * 8 ≤ _; omega) (by omega) ?_
      have e := hold_next x q
      rw [if_pos h2] at e
      refine KW.nxt rfl rfl (fun H g' => ⟨(q + 1, _), by simp only; omega, by simp only; omega, ⟨rfl, by simp only [e, List.length_append, List.length_singleton]; rfl, congrArg (Value.int .i64) (inc64 (by omega)), trivial⟩, (g'.take 1).eqT ?_⟩)
      simp only [e, List.map_append]
      rfl
    · have e := hold_next x q
      rw [if_neg (by rw [h2]; decide)] at e
      exact KW.nxt rfl rfl (fun H g' => ⟨(q + 1, o), by simp only; omega, by simp only; omega, ⟨rfl, by simp only [e]; rfl, congrArg (Value.int .i64) (inc64 (by omega)), trivial⟩, g'.eqT (by simp only [e])⟩)
  · obtain rfl : q = 7 := by omega
    refine KW.retM rfl rfl rfl rfl (fun id hid => ⟨hid, rfl⟩) (fun H1 g => ?_)
    have hb := g.blk (j := 0) rfl
    exact ⟨_, _, rfl, int_ml ⟨by omega, hb.2⟩ hb.1 rfl rfl (Nat.le_refl _)⟩
theorem l06Holders {x m : Nat} (hx : x < 4611686018427387904) (hm : m ≤ 63) : SpecM Try.prog S H0 109 [.int .i64 x, .int .i64 m] (fun n v H1 => ∃ a c, v = .slice a (hold x m).length c ∧ KI.Ml (New n H1.n) H1 (.slice a (hold x m).length c) (hold x m)) := by
  refine SpecM.of Try.func109 rfl (by kernel_rfl) rfl (fun H hfin hfz => ?_)
  refine KW.lit rfl rfl rfl rfl rfl rfl rfl rfl rfl rfl [] rfl rfl (fun v hv => by simp at hv) rfl ?_
  refine KW.lpM rfl rfl (fun s : Nat × Nat => [(0, .int .i64 x), (1, .int .i64 m), (5, .slice (some ⟨s.2, 0, some 1⟩) (hold x s.1).length (hold x s.1).length), (6, .int .i64 s.1)]) (fun _ => Low H.n) (fun _ => H) (fun s => [(s.2, ⟨_, true, (hold x s.1).map (Value.int .i64)⟩)]) (fun s => s.1 ≤ m) (fun s => m - s.1) (0, H.n) (by simp) ⟨rfl, rfl, rfl, rfl, trivial⟩ rfl rfl rfl (fun s hi b n => ?_)
  obtain ⟨q, o⟩ := s
  simp only at hi
  refine KW.fact (p := ¬ o < H.n) (fun _ g => (g.vars 0 _ rfl).2.2) (fun ho => ?_)
  have hq := hold_len x q
  refine KW.cnd rfl rfl (fun h => ?_) (fun h => ?_)
  · refine KW.shr rfl rfl rfl rfl rfl rfl rfl x q rfl (wru (by omega) (by omega)) (by omega) ?_
    have eb : (IntKind.i64.wrap ((BitVec.ofInt IntKind.i64.bits ((x / 2 ^ q : Nat) : Int) &&& BitVec.ofInt IntKind.i64.bits ((1 : Nat) : Int)).toNat : Int) == ((1 : Nat) : Int)) = x.testBit q := by
      rw [and_i64 (Nat.lt_of_le_of_lt (Nat.div_le_self _ _) hx) (by decide), ← bit_is]
      generalize x / 2 ^ q &&& 1 = q
      by_cases e : q = 1
      · subst e; rfl
      · rw [show (q == 1) = false from by simpa using e]
        simp only [beq_eq_false_iff_ne, ne_eq]
        omega
    refine KW.cndB rfl rfl (fun h2 => ?_) (fun h2 => ?_)
    · have h2 : x.testBit q = true := eb.symm.trans h2
      refine KW.lit rfl rfl rfl rfl rfl rfl rfl rfl rfl rfl [.int .i64 q] rfl rfl (fun v hv => by simp at hv; subst hv; rfl) rfl ?_
      refine KW.appT (len := (hold x q).length) (ys := [.int .i64 q]) (m := 1) 0 rfl rfl rfl rfl rfl rfl rfl rfl rfl rfl (fun H g => acells_T (g.blk (j := 1) rfl).1 rfl rfl) (by simp) (fun v hv => by simp at hv; subst hv; rfl) (by decide) (by show ((hold x q).length + 1) * 8 ≤ _; omega) (by omega) ?_
      have e := hold_next x q
      rw [if_pos h2] at e
      refine KW.nxt rfl rfl (fun H g' => ⟨(q + 1, _), by simp only; omega, by simp only; omega, ⟨rfl, rfl, by simp only [e, List.length_append, List.length_singleton]; rfl, congrArg (Value.int .i64) (inc64 (by omega)), trivial⟩, (g'.take 1).eqT ?_⟩)
      simp only [e, List.map_append]
      rfl
    · have h2 : x.testBit q = false := eb.symm.trans h2
      have e := hold_next x q
      rw [if_neg (by rw [h2]; decide)] at e
      exact KW.nxt rfl rfl (fun H g' => ⟨(q + 1, o), by simp only; omega, by simp only; omega, ⟨rfl, rfl, by simp only [e]; rfl, congrArg (Value.int .i64) (inc64 (by omega)), trivial⟩, g'.eqT (by simp only [e])⟩)
  · obtain rfl : q = m := by omega
    refine KW.retM rfl rfl rfl rfl (fun id hid => ⟨hid, rfl⟩) (fun H1 g => ?_)
    have hb := g.blk (j := 0) rfl
    exact ⟨_, _, rfl, int_ml ⟨by omega, hb.2⟩ hb.1 rfl rfl (Nat.le_refl _)⟩
theorem markRanks {W : Ids} {m u : Int} {a c} {xs : List Int} {k : Int} (hl : xs.length ≤ 4194304) (hk : 0 ≤ k ∧ k ≤ 1099511627776) (hW : ∀ id, W id → S id) (hs : KI.Ml W H0 (.slice a xs.length c) xs) :
    SpecW Try.prog S H0 W 27 [ranksV m u (.slice a xs.length c), .int .i64 k] (fun n v H1 => v = .int .i64 (k + xs.length) ∧ KI.Ml W H1 (.slice a xs.length c) (cnt k xs.length)) := by
  refine SpecW.of0 Try.func27 rfl (by kernel_rfl) rfl (fun H hfin hfz => ?_)
  have hWl : ∀ id, W id → Low H.n id := fun id hid => (hfz id (hW id hid)).1
  refine KW.callW hWl rfl rfl rfl rfl rfl (markInt64S hl hk hWl (hs.same (fun id hid => (hfz id (hW id hid)).2))) (fun v H1 S' hn st hw hv => ?_)
  obtain ⟨rfl, hv⟩ := hv
  refine KW.retW rfl rfl rfl rfl (fun H2 g => by have := g.n_; omega) (fun id hid hno => ⟨(st id hid).1, (st id hid).2 hno⟩) (fun H2 g => ⟨rfl, hv.same (fun id hid => (g.froz id (st id (hWl id hid)).1).2)⟩)
theorem markFamily {W : Ids} {m : Int} {a c} {xs : List (List Int)} {k : Int} (hl : xs.length ≤ 4194304) (hx : sum (lens xs) ≤ 4194304) (hk : 0 ≤ k ∧ k ≤ 549755813888) (hW : ∀ id, W id → S id) (hs : KI.ml.Ml W H0 (.slice a xs.length c) xs) :
    SpecW Try.prog S H0 W 72 [familyV m (.slice a xs.length c), .int .i64 k] (fun n v H1 => v = .int .i64 (k + sum (lens xs)) ∧ KI.ml.Ml W H1 (.slice a xs.length c) (cnts k (lens xs))) := by
  refine SpecW.of0 Try.func72 rfl (by kernel_rfl) rfl (fun H hfin hfz => ?_)
  have hWl : ∀ id, W id → Low H.n id := fun id hid => (hfz id (hW id hid)).1
  refine KW.callW hWl rfl rfl rfl rfl rfl (markInt64SS hl hx hk hWl (hs.same (fun id hid => (hfz id (hW id hid)).2))) (fun v H1 S' hn st hw hv => ?_)
  obtain ⟨rfl, hv⟩ := hv
  refine KW.retW rfl rfl rfl rfl (fun H2 g => by have := g.n_; omega) (fun id hid hno => ⟨(st id hid).1, (st id hid).2 hno⟩) (fun H2 g => ⟨rfl, hv.same (fun id hid => (g.froz id (st id (hWl id hid)).1).2)⟩)
end
end Go.Proofs.Ytmkpfllbmdahkaa.Am
/- Groups and their bits, plain: a rising group is what its bits hold; chains. No condition beyond each lemma's own. -/
set_option linter.unusedVariables false
namespace Go.Proofs.Ytmkpfllbmdahkaa.Am
open Go Go.RowKit
theorem hold_congr {x y n : Nat} (h : ∀ i, i < n → x.testBit i = y.testBit i) : hold x n = hold y n := by
  unfold hold
  congr 1
  exact List.filter_congr fun i hi => h i (List.mem_range.1 hi)
theorem bitsOf_snoc (g : List Int) (a : Int) : bitsOf (g ++ [a]) = bitsOf g ||| 2 ^ a.toNat := by
  unfold bitsOf
  rw [List.foldl_append]; rfl
theorem rises_front {lo hi : Int} {g : List Int} {a : Int} (h : Rises lo hi (g ++ [a])) : Rises lo hi g ∧ (∀ x ∈ g, x < a) ∧ lo ≤ a ∧ a ≤ hi := by
  have at_ : ∀ i, i < g.length → (g ++ [a]).getD i 0 = g.getD i 0 := fun i hi => by
    rw [List.getD_eq_getElem?_getD, List.getD_eq_getElem?_getD, List.getElem?_append_left hi]
  have last : (g ++ [a]).getD g.length 0 = a := by
    rw [List.getD_eq_getElem?_getD]; simp
  have hr : Rises lo hi g := fun i hi => by
    obtain ⟨h1, h2⟩ := h i (by simp; omega)
    rw [at_ i hi] at h1 h2
    refine ⟨h1, fun h0 => ?_⟩
    have := h2 h0
    rwa [at_ (i - 1) (by omega)] at this
  have hl := h g.length (by simp)
  unfold RiseAt at hl
  rw [last] at hl
  refine ⟨hr, fun x hx => ?_, hl.1.1, hl.1.2⟩
  obtain ⟨i, hi⟩ := List.getElem?_of_mem hx
  have hil := (List.getElem?_eq_some_iff.1 hi).1
  -- each element is at most the last one of g
  have up : ∀ d i, i + d = g.length - 1 → i < g.length → g.getD i 0 ≤ g.getD (g.length - 1) 0 := fun d => by
    induction d with
    | zero => intro i h1 h2; rw [show i = g.length - 1 by omega]; exact Int.le_refl _
    | succ d ih =>
      intro i h1 h2
      have h3 := ih (i + 1) (by omega) (by omega)
      have h4 := (hr (i + 1) (by omega)).2 (by omega)
      simp only [Nat.add_sub_cancel] at h4
      omega
  have h5 := up (g.length - 1 - i) i (by omega) hil
  have h6 := hl.2 (by omega)
  rw [at_ (g.length - 1) (by omega)] at h6
  rw [getD_of hi] at h5
  omega
theorem bitsOf_test {g : List Int} (hg : ∀ x ∈ g, 0 ≤ x) (i : Nat) : (bitsOf g).testBit i = true ↔ (i : Int) ∈ g := by
  have key : ∀ (g : List Int) (a : Nat), (∀ x ∈ g, 0 ≤ x) → ((g.foldl (fun a x => a ||| 2 ^ x.toNat) a).testBit i = true ↔ (a.testBit i = true ∨ (i : Int) ∈ g)) := by
    intro g
    induction g with
    | nil => intro a _; simp
    | cons x g ih =>
      intro a hx
      have h0 := hx x List.mem_cons_self
      simp only [List.foldl_cons]
      rw [ih _ (fun y hy => hx y (List.mem_cons_of_mem _ hy)), Nat.testBit_or, Nat.testBit_two_pow, List.mem_cons]
      have e : x.toNat = i ↔ (i : Int) = x := by omega
      simp only [Bool.or_eq_true, decide_eq_true_eq, e]
      constructor
      · rintro ((h | h) | h)
        · exact .inl h
        · exact .inr (.inl h)
        · exact .inr (.inr h)
      · rintro (h | h | h)
        · exact .inl (.inl h)
        · exact .inl (.inr h)
        · exact .inr h
  have := key g 0 hg
  simpa [bitsOf] using this
theorem hold_bits : ∀ (n : Nat) {g : List Int}, Rises 0 ((n : Int) - 1) g → hold (bitsOf g) n = g
  | 0, g, h => by
    cases g with
    | nil => rfl
    | cons x g => have := (h 0 (by simp)).1; omega
  | n + 1, g, h => by
    rcases List.eq_nil_or_concat g with rfl | ⟨g', a, hga⟩
    · unfold hold bitsOf; simp
    · rw [List.concat_eq_append] at hga
      subst hga
      obtain ⟨h1, h2, h3, h4⟩ := rises_front h
      have hg' : ∀ x ∈ g', 0 ≤ x := fun x hx => (rises_mem h1 x hx).1
      rw [hold_next]
      by_cases ha : a = n
      · subst ha
        have hb : (bitsOf (g' ++ [(n : Int)])).testBit n = true := by rw [bitsOf_snoc, Nat.testBit_or, Nat.testBit_two_pow]; simp
        rw [if_pos hb]
        congr 1
        have h5 : Rises 0 ((n : Int) - 1) g' := fun i hi => by
          obtain ⟨h6, h7⟩ := h1 i hi
          refine ⟨⟨h6.1, ?_⟩, h7⟩
          have := h2 (g'.getD i 0) (by rw [List.getD_eq_getElem?_getD, List.getElem?_eq_getElem hi]; exact List.getElem_mem hi)
          omega
        have ih := hold_bits n h5
        rw [← ih]
        rw [ih]
        refine Eq.trans (hold_congr fun i hi => ?_) ih
        rw [bitsOf_snoc, Nat.testBit_or, Nat.testBit_two_pow]
        have h9 : ¬ n = i := by omega
        simp [h9]
      · have h5 : Rises 0 ((n : Int) - 1) (g' ++ [a]) := fun i hi => by
          obtain ⟨h6, h7⟩ := h i hi
          refine ⟨⟨h6.1, ?_⟩, h7⟩
          have hm : (g' ++ [a]).getD i 0 ∈ g' ++ [a] := by rw [List.getD_eq_getElem?_getD, List.getElem?_eq_getElem hi]; exact List.getElem_mem hi
          rcases List.mem_append.1 hm with h8 | h8
          · have := h2 _ h8; omega
          · have := List.mem_singleton.1 h8; omega
        have hb : ¬ (bitsOf (g' ++ [a])).testBit n = true := fun hc => by
          have := (bitsOf_test (fun x hx => (rises_mem h5 x hx).1) n).1 hc
          have := (rises_mem h5 _ this).2
          omega
        rw [if_neg hb]
        exact hold_bits n h5
end Go.Proofs.Ytmkpfllbmdahkaa.Am
/- Facts on memory with what they rest on, carried over calls. For every program. No condition beyond each theorem's own. -/
set_option linter.unusedVariables false
namespace Go.Proofs.Ytmkpfllbmdahkaa.Am
open Go Go.RowKit
/-- A slice reads as a list, and rests on X, which is frozen. -/
structure Fc {α : Type} (d : Kn α) (X S : Ids) (H : AH) (s : Value) (xs : List α) : Prop where
  r : d.Sl X H s xs
  i : ∀ id, X id → S id
/-- .. an owned one. -/
structure Fm {α : Type} (d : Kn α) (X S : Ids) (H : AH) (s : Value) (xs : List α) : Prop where
  r : d.Ml X H s xs
  i : ∀ id, X id → S id
section
variable {α : Type} {d : Kn α} {X S S' : Ids} {H H1 : AH} {s : Value} {xs : List α}
theorem Fc.st (h : Fc d X S H s xs) (t : St S H S' H1) : Fc d X S' H1 s xs := ⟨h.r.same (fun id hid => (t id (h.i id hid)).2), fun id hid => (t id (h.i id hid)).1⟩
theorem Fm.st (h : Fm d X S H s xs) (t : St S H S' H1) : Fm d X S' H1 s xs := ⟨h.r.same (fun id hid => (t id (h.i id hid)).2), fun id hid => (t id (h.i id hid)).1⟩
theorem Fc.w {W : Ids} (h : Fc d X S H s xs) (t : StW W S H S' H1) (hd : ∀ id, X id → W id → False) : Fc d X S' H1 s xs := ⟨h.r.same (fun id hid => (t id (h.i id hid)).2 (hd id hid)), fun id hid => (t id (h.i id hid)).1⟩
theorem Fm.w {W : Ids} (h : Fm d X S H s xs) (t : StW W S H S' H1) (hd : ∀ id, X id → W id → False) : Fm d X S' H1 s xs := ⟨h.r.same (fun id hid => (t id (h.i id hid)).2 (hd id hid)), fun id hid => (t id (h.i id hid)).1⟩
theorem Fc.sl (h : Fc d X S H s xs) : d.Sl S H s xs := h.r.more h.i
theorem Fm.ml (h : Fm d X S H s xs) : d.Ml S H s xs := h.r.more h.i
theorem Fm.sl (h : Fm d X S H s xs) : d.Sl S H s xs := h.ml.sl
theorem Fm.fc {d' : Kn α} (k : KLe d d') (h : Fm d X S H s xs) : Fc d' X S H s xs := ⟨h.r.to k, h.i⟩
end
/-- What stays frozen over a writer, of what lay below. -/
theorem StW.low {W S S' : Ids} {H H1 : AH} {m : Nat} {H0 : AH} (t : StW W S H S' H1) (h : St (Low m) H0 S H) (hd : ∀ id, id < m → W id → False) : St (Low m) H0 S' H1 := fun id hid => ⟨(t id (h id hid).1).1, ((t id (h id hid).1).2 (hd id hid)).trans (h id hid).2⟩
end Go.Proofs.Ytmkpfllbmdahkaa.Am
/- What stands in memory goes over by itself: an instance says that what stands in one memory stands in a later one; rules that give such instances. For every program. No condition beyond each theorem's own. -/
set_option linter.unusedSimpArgs false
set_option linter.unusedVariables false
namespace Go.Proofs.Ytmkpfllbmdahkaa.Am
open Go Go.RowKit
/-- A step: what stands in (S, H) stands in (S', H'). -/
class Stp (S : outParam Ids) (H : outParam AH) (S' : Ids) (H' : AH) : Prop where
  st : St S H S' H'
class On (S : Ids) (H : AH) (S' : Ids) (H' : AH) : Prop where
  st : St S H S' H'
instance On.refl (S : Ids) (H : AH) : On S H S H := ⟨fun id hid => ⟨hid, rfl⟩⟩
instance On.step {S S1 S2 : Ids} {H H1 H2 : AH} [t : Stp S1 H1 S2 H2] [o : On S H S1 H1] : On S H S2 H2 := ⟨o.st.trans t.st⟩
section
variable {α : Type} {d : Kn α} {X S S' : Ids} {H H' : AH} {s : Value} {xs : List α} {x : α} {cs : List Value}
theorem Kn.Sl.up [o : On S H S' H'] (h : d.Sl S H s xs) : d.Sl S' H' s xs := h.st o.st
theorem Kn.Ml.up [o : On S H S' H'] (h : d.Ml S H s xs) : d.Ml S' H' s xs := Kn.Ml.st h o.st
theorem Kn.Ml.ups [o : On S H S' H'] (h : d.Ml S H s xs) : d.Sl S' H' s xs := (Kn.Ml.st h o.st).sl
/-- .. of a list of owned rows. -/
theorem Kn.Ml.upS [o : On S H S' H'] {xs : List (List α)} (h : d.ml.Ml S H s xs) : d.sl.Sl S' H' s xs := (Kn.Ml.st h o.st).to (KLe.row (KLe.refl d))
theorem On.R [o : On S H S' H'] (h : d.R S H x cs) : d.R S' H' x cs := d.more (fun id hid => (o.st id hid).1) (d.same (fun id hid => (o.st id hid).2) h)
theorem On.blk [o : On S H S' H'] {id : Nat} {b : Blk} (hS : S id) (hm : H.m id = some b) : S' id ∧ H'.m id = some b := ⟨(o.st id hS).1, ((o.st id hS).2).trans hm⟩
/-- What stands behind all, seen from a later end. -/
theorem Good.out {S0 : Ids} {H0 H2 : AH} {T : List Var} {n lo : Nat} (g : Good S0 H0 T n H2) [o : On X H S0 H0] (hX : ∀ id, X id → lo ≤ id) : On X H (New lo H2.n) H2 :=
  ⟨fun id hid => by
    obtain ⟨h1, h2⟩ := o.st id hid
    obtain ⟨h3, h4⟩ := g.froz id h1
    have := g.n_
    exact ⟨⟨hX id hid, by omega⟩, h4.trans h2⟩⟩
/-- Less is spoken of. -/
theorem Good.back {S0 S1 : Ids} {H0 H1 H2 : AH} {T : List Var} {n : Nat} [o : On S0 H0 S1 H1] (g : Good S1 H1 T n H2) : Good S0 H0 T n H2 := g.weak (fun id hid => ⟨(o.st id hid).1, ((o.st id hid).2).symm⟩)
theorem Good.stp {S0 : Ids} {H0 H2 : AH} {T : List Var} {n : Nat} (g : Good S0 H0 T n H2) : Stp S0 H0 (Low H2.n) H2 := ⟨g.st⟩
/-- A variable, for a callee and what it calls. -/
theorem Good.var {S0 : Ids} {H0 H1 : AH} {T : List Var} {n j id : Nat} {b : Blk} (g : Good S0 H0 T n H1) (hj : T[j]? = some (id, b)) [o : On (Low H1.n) H1 S' H'] : S' id ∧ H'.m id = some b := by
  obtain ⟨h1, h2⟩ := g.blk hj
  obtain ⟨h3, h4⟩ := o.st id h2
  exact ⟨h3, h4.trans h1⟩
theorem Good.nle {S0 : Ids} {H0 H1 H2 : AH} {T : List Var} {n : Nat} [o : On (Low H1.n) H1 S0 H0] (g : Good S0 H0 T n H2) : H1.n ≤ n := by
  rcases Nat.eq_zero_or_pos H1.n with h | h
  · omega
  · have := (g.froz (H1.n - 1) (o.st _ (by show _ < _; omega)).1).1; omega
end
section
variable {P : Program} {S : Ids} {H0 : AH} {Q : PostC} {k k1 k2 : List It} {e e1 e2 : Env} {T T1 T2 : List Var} {n n1 n2 : Nat} {l1 r1 l2 r2 : List Nat} {d1 d2 : Tmp}
theorem Spec.of1 {f : FuncId} {fn : Func} {c : Code} {args : List Value} {post : Value → Prop} (hf : P.funcs[f]? = some fn) (hb : fn.body = some c) (hok : fnOkS fn = true) (hs : Nat.ble args.length fn.ntmps = true)
    (h : ∀ H, Stp S H0 (Low H.n) H → KW P (Low H.n) H (Fin1 P fn (fun v H1 => Ext H H1 ∧ Fin' H1 ∧ post v)) H.n [] [.code c] (fun t => args.getD t undef)) : Spec P S H0 f args post :=
  Spec.of hf hb hok hs (fun H _ hfz => h H ⟨fun id hid => hfz id hid⟩)
theorem SpecM.of1 {f : FuncId} {fn : Func} {c : Code} {args : List Value} {post : Nat → Value → AH → Prop} (hf : P.funcs[f]? = some fn) (hb : fn.body = some c) (hok : fnOkS fn = true) (hs : Nat.ble args.length fn.ntmps = true)
    (h : ∀ H, Stp S H0 (Low H.n) H → KW P (Low H.n) H (Fin1 P fn (fun v H1 => Ext H H1 ∧ Fin' H1 ∧ post H.n v H1)) H.n [] [.code c] (fun t => args.getD t undef)) : SpecM P S H0 f args post :=
  SpecM.of hf hb hok hs (fun H _ hfz => h H ⟨fun id hid => hfz id hid⟩)
theorem SpecM.of1L (Z : List Nat) {f : FuncId} {fn : Func} {c : Code} {args : List Value} {post : Nat → Value → AH → Prop} (hf : P.funcs[f]? = some fn) (hb : fn.body = some c) (hok : fnOk fn = true) (hst : stC (relab Z c) = true) (hs : Nat.ble args.length fn.ntmps = true)
    (h : ∀ H, Stp S H0 (Low H.n) H → KW P (Low H.n) H (Fin1 P fn (fun v H1 => Ext H H1 ∧ Fin' H1 ∧ post H.n v H1)) H.n [] [.code (relab Z c)] (fun t => args.getD t undef)) : SpecM P S H0 f args post :=
  SpecM.ofL Z hf hb hok hst hs (fun H _ hfz => h H ⟨fun id hid => hfz id hid⟩)
/-- A call that makes memory. -/
theorem KW.callN1 {dr : Bool} {f : Operand} {xs : Array Operand} {ts : Array TypeId} {g : FuncId} {first cap : Array Value} {o : Oper} {post : Nat → Value → AH → Prop} (h : Go1 P k e T n (.op o dr) k1 e1 T1 n1 l1 r1) (hlr : l1 = r1) (ho : o.op = .call { callee := .value f, args := xs, argTypes := ts }) (hd : o.dst = some d1) (hf : ev e1 f = .func (.func g) first cap)
    (hs : SpecM P S H0 g (cargs e1 first cap xs) post)
    (hk : ∀ v H1 (S' : Ids), n1 ≤ H1.n → Stp S H0 S' H1 → On (New n1 H1.n) H1 S' H1 → post n1 v H1 → KW P S' H1 Q H1.n T1 k1 (put1 e1 d1 (untag v))) : KW P S H0 Q n T k e :=
  KW.callN h hlr ho hd hf hs (fun v H1 S' h1 h2 h3 h4 => hk v H1 S' h1 ⟨h2⟩ ⟨fun id hid => ⟨h3 id hid, rfl⟩⟩ h4)
/-- .. and sees the caller's variables. -/
theorem KW.callNV1 {dr : Bool} {f : Operand} {xs : Array Operand} {ts : Array TypeId} {g : FuncId} {first cap : Array Value} {o : Oper} {post : Nat → Value → AH → Prop} (h : Go1 P k e T n (.op o dr) k1 e1 T1 n1 l1 r1) (hlr : l1 = r1) (ho : o.op = .call { callee := .value f, args := xs, argTypes := ts }) (hd : o.dst = some d1) (hf : ev e1 f = .func (.func g) first cap)
    (hs : ∀ H, Good S H0 T1 n1 H → Stp S H0 (Low H.n) H → SpecM P (Low H.n) H g (cargs e1 first cap xs) post)
    (hk : ∀ v H1 (S' : Ids), n1 ≤ H1.n → Stp S H0 S' H1 → On (New n1 H1.n) H1 S' H1 → post n1 v H1 → KW P S' H1 Q H1.n T1 k1 (put1 e1 d1 (untag v))) : KW P S H0 Q n T k e :=
  KW.callNV h hlr ho hd hf (fun H g => hs H g g.stp) (fun v H1 S' h1 h2 h3 h4 => hk v H1 S' h1 ⟨h2⟩ ⟨fun id hid => ⟨h3 id hid, rfl⟩⟩ h4)
/-- A call that sees the caller's variables, and whose value is known. -/
theorem KW.callV1 {dr : Bool} {f : Operand} {xs : Array Operand} {ts : Array TypeId} {g : FuncId} {first cap : Array Value} {o : Oper} {v : Value} (h : Go1 P k e T n (.op o dr) k1 e1 T1 n1 l1 r1) (hlr : l1 = r1) (ho : o.op = .call { callee := .value f, args := xs, argTypes := ts }) (hd : o.dst = some d1) (hf : ev e1 f = .func (.func g) first cap)
    (hs : ∀ H, Good S H0 T1 n1 H → Stp S H0 (Low H.n) H → Spec P (Low H.n) H g (cargs e1 first cap xs) (fun u => u = v))
    (hk : ∀ n', n1 ≤ n' → KW P S H0 Q n' T1 k1 (put1 e1 d1 (untag v))) : KW P S H0 Q n T k e :=
  KW.callV h hlr ho hd hf (fun H g => hs H g g.stp) hk
theorem KW.callVp1 {dr : Bool} {f : Operand} {xs : Array Operand} {ts : Array TypeId} {g : FuncId} {first cap : Array Value} {o : Oper} {post : Value → Prop} (h : Go1 P k e T n (.op o dr) k1 e1 T1 n1 l1 r1) (hlr : l1 = r1) (ho : o.op = .call { callee := .value f, args := xs, argTypes := ts }) (hd : o.dst = some d1) (hf : ev e1 f = .func (.func g) first cap)
    (hs : ∀ H, Good S H0 T1 n1 H → Stp S H0 (Low H.n) H → Spec P (Low H.n) H g (cargs e1 first cap xs) post)
    (hk : ∀ v n', n1 ≤ n' → post v → KW P S H0 Q n' T1 k1 (put1 e1 d1 (untag v))) : KW P S H0 Q n T k e :=
  KW.callVp h hlr ho hd hf (fun H g => hs H g g.stp) hk
/-- What a maker returns. -/
theorem KW.retM1 {fn : Func} {H : AH} {post : Value → AH → Prop} {vs : List Value} {a b : List Nat} [o : On (Low H.n) H S H0] (h : Go1 P k e T n (.done .ret) k1 e1 T1 n1 l1 r1) (hlr : l1 = r1) (hr : aresT P e1 T1 fn.results.toList = some (vs, a, b)) (hab : a = b)
    (hp : ∀ H1, Good S H0 T1 n1 H1 → post (aout vs) H1) :
    KW P S H0 (Fin1 P fn (fun v H1 => Ext H H1 ∧ Fin' H1 ∧ post v H1)) n T k e :=
  KW.retM h hlr hr hab (fun id hid => o.st id hid) hp
theorem KW.endM1 {fn : Func} {H : AH} {post : Value → AH → Prop} {vs : List Value} {a b : List Nat} [o : On (Low H.n) H S H0] (h : Go1 P k e T n (.done .normal) k1 e1 T1 n1 l1 r1) (hlr : l1 = r1) (hr : aresT P e1 T1 fn.results.toList = some (vs, a, b)) (hab : a = b)
    (hp : ∀ H1, Good S H0 T1 n1 H1 → post (aout vs) H1) :
    KW P S H0 (Fin1 P fn (fun v H1 => Ext H H1 ∧ Fin' H1 ∧ post v H1)) n T k e := by
  refine KW.go h hlr (fun H1 g => ?_)
  have hv := aresT_ok (P := P) g _ hr hab
  have hx : Ext H H1 := ⟨by have := g.nle (H1 := H); have := g.n_; omega, fun id hid => by rw [(g.froz id (o.st id hid).1).2, (o.st id hid).2]⟩
  simp only [Fin1, hv]
  exact ⟨hx, g.fin, hp H1 g⟩
/-- Variables of which nothing more is said. -/
theorem KW.take (m : Nat) (h : KW P S H0 Q n (T.take m) k e) : KW P S H0 Q n T k e := fun H g => h H (g.take m)
/-- The cells of a frozen slice. -/
theorem acells_S {α : Type} {d : Kn α} {a : Option Addr} {c : Nat} {xs : List α} {H : AH} (hd : d.es = 1) (h : d.Sl S H0 (.slice a xs.length c) xs) (g : Good S H0 T n H) : ∃ ys : List Value, acells H (.slice a xs.length c) 1 = some (xs.length, ys) ∧ ys.length = xs.length ∧ ∀ (i : Nat) x, xs[i]? = some x → ∃ v, ys[i]? = some v ∧ d.R S H0 x [v] := by
  rcases h with ⟨rfl, _⟩ | ⟨id, k, c1, b, h1, h2, h3, h4, h5, h6⟩
  · exact ⟨[], by simp [acells], rfl, fun i x h => by simp at h⟩
  · cases xs with
    | nil => exact ⟨[], by simp [acells], rfl, fun i x h => by simp at h⟩
    | cons y xs =>
      cases h1
      have hb : H.m id = some b := ((g.froz id h3).2).trans h4
      rw [hd] at h5 h6
      refine ⟨(b.cells.drop k).take (xs.length + 1), ?_, by simp at h5 ⊢; omega, fun i x hx => ?_⟩
      · simp only [List.length_cons, acells, hd, if_true, hb]
        rw [if_pos (by simp at h5; omega), Nat.mul_one]
      · have hi := (List.getElem?_eq_some_iff.1 hx).1
        simp only [List.length_cons] at hi h5
        obtain ⟨v, hv⟩ : ∃ v, b.cells[k + i * 1]? = some v := ⟨b.cells[k + i * 1]'(by omega), List.getElem?_eq_getElem (by omega)⟩
        have h7 := h6 i x hx
        have e : (b.cells.drop (k + i * 1)).take 1 = [v] := by rw [List.take_one, List.head?_drop, hv]; rfl
        rw [e] at h7
        exact ⟨v, by rw [List.getElem?_take, if_pos (by omega), List.getElem?_drop]; simpa using hv, h7⟩
theorem acells_I {ik : IntKind} {a : Option Addr} {c : Nat} {xs : List Int} {H : AH} (h : (Kn.int ik).Sl S H0 (.slice a xs.length c) xs) (g : Good S H0 T n H) : acells H (.slice a xs.length c) 1 = some (xs.length, xs.map (Value.int ik)) := by
  obtain ⟨ys, h1, h2, h3⟩ := acells_S rfl h g
  rw [h1]
  congr 2
  refine List.ext_getElem? fun i => ?_
  rcases Nat.lt_or_ge i xs.length with hi | hi
  · obtain ⟨v, h4, h5⟩ := h3 i xs[i] (List.getElem?_eq_getElem hi)
    have h5 : [v] = [Value.int ik xs[i]] := h5
    rw [h4, List.getElem?_map, List.getElem?_eq_getElem hi]
    simpa using h5
  · rw [List.getElem?_eq_none (by omega), List.getElem?_eq_none (by simpa using hi)]
/-- Nothing is appended. -/
theorem KW.appZ {o : Oper} {dr : Bool} {t el : TypeId} {x y : Operand} {inf : TypeInfo} {id len c : Nat} (h : Go1 P k e T n (.op o dr) k1 e1 T1 n1 l1 r1) (hlr : l1 = r1) (ho : o.op = .call { callee := .builtin .append, args := #[x, y], argTypes := #[t, t] }) (hd : o.dst = some d1) (hx : ev e1 x = .slice (some ⟨id, 0, some 1⟩) len c)
    (hu : P.underlying t = some (.slice el)) (hi : P.info? el = some inf) (hs : inf.size = 1) (hzo : zeroOkL P el = true) (hy : ∀ H, Good S H0 T1 n1 H → acells H (ev e1 y) 1 = some (0, []))
    (hk : KW P S H0 Q n1 T1 k1 (put1 e1 d1 (.slice (some ⟨id, 0, some 1⟩) len c))) : KW P S H0 Q n T k e := by
  refine KW.go h hlr (KEvt.heap (c := ⟨_, _, _, _, _, _⟩) _ _ _ (by rw [ho]; exact .inr rfl) (fun H g => ⟨none, _, ?_, g⟩) (by rw [hd, put1_eq]; exact hk))
  rw [ho]
  have h1 := hy H g
  simp only [hop, aappend, hu, hi, hs, hx, h1]
  rw [if_pos trivial, if_pos ⟨zeroOkL_ok hzo, by omega, by simp⟩]
  simp
theorem Good.idT {S0 : Ids} {H1 H2 : AH} {T T' : List Var} {n : Nat} (g : Good S0 H1 T n H2) (h : T = T') : Good S0 H1 T' n H2 := h ▸ g
/-- A list is appended to a literal, be it empty or not. -/
theorem KW.appV {o : Oper} {dr : Bool} {t el : TypeId} {x y : Operand} {inf : TypeInfo} {id len m L : Nat} {zs ys : List Value} (j : Nat) (h : Go1 P k e T n (.op o dr) k1 e1 T1 n1 l1 r1) (hlr : l1 = r1) (ho : o.op = .call { callee := .builtin .append, args := #[x, y], argTypes := #[t, t] }) (hd : o.dst = some d1) (hx : ev e1 x = .slice (some ⟨id, 0, some 1⟩) len len) (hT : T1[j]? = some (id, ⟨el, true, zs⟩))
    (hu : P.underlying t = some (.slice el)) (hi : P.info? el = some inf) (hs : inf.size = 1) (hzo : zeroOkL P el = true) (hy : ∀ H, Good S H0 T1 n1 H → acells H (ev e1 y) 1 = some (m, ys)) (hyl : ys.length = m) (hlen : zs.length = len) (hone : ∀ v ∈ ys, v.oneCell' = true) (hb : (len + m) * inf.bytes ≤ 140737488355328) (hml : len + m ≤ 9223372036854775807) (hL : len + m = L)
    (hk : ∀ o n', n1 ≤ n' → KW P S H0 Q n' (T1.set j (o, ⟨el, true, zs ++ ys⟩)) k1 (put1 e1 d1 (.slice (some ⟨o, 0, some 1⟩) L L))) : KW P S H0 Q n T k e := by
  subst hL
  rcases Nat.eq_zero_or_pos m with hm | hm
  · subst hm
    have hys : ys = [] := List.eq_nil_of_length_eq_zero hyl
    subst hys
    refine KW.appZ h hlr ho hd hx hu hi hs hzo hy ?_
    have h1 := hk id n1 (Nat.le_refl _)
    have e1 : T1.set j (id, ⟨el, true, zs ++ []⟩) = T1 := by
      rw [List.append_nil]
      refine List.ext_getElem? fun i => ?_
      by_cases hij : j = i
      · subst hij
        rw [List.getElem?_set_self (List.getElem?_eq_some_iff.1 hT).1, hT]
      · rw [List.getElem?_set_ne hij]
    rw [e1] at h1
    exact h1
  · exact KW.appT j h hlr ho hd hx hT hu hi hs hzo hy hlen hone (by omega) hb hml (hk _ _ (Nat.le_succ _))
/-- One element more, to a slice that one has made: a literal of one element, then append. -/
theorem KW.app1 (j m0 : Nat) {o o' : Oper} {dr dr' : Bool} {t el t' : TypeId} {m : Nat} {parts : Array (Nat × Operand)} {inf : TypeInfo} {z : Value} {x y : Operand} {len c id : Nat} {xs : List Value} {v : Value} (h : Go1 P k e T n (.op o dr) k1 e1 T1 n1 l1 r1) (hlr : l1 = r1) (ho : o.op = .buildSlice t m parts) (hd : o.dst = some d1)
    (hu : P.underlying t = some (.slice el)) (hi : P.info? el = some inf) (hs : inf.size = 1) (hz : inf.zero = some z) (hz1 : z.cells = #[z]) (hzo : zeroOkL P el = true) (hp : (parts.toList.map fun p => (p.1, ev e1 p.2)) = [(0, v)]) (hm : m = 1) (hv : v.cells = #[v]) (ho1 : v.oneCell' = true)
    (h' : Go1 P k1 (put1 e1 d1 (.slice (some ⟨n1, 0, some 1⟩) 1 1)) (T1 ++ [(n1, ⟨el, true, [v]⟩)]) (n1 + 1) (.op o' dr') k2 e2 T2 n2 l2 r2) (hlr' : l2 = r2) (ho' : o'.op = .call { callee := .builtin .append, args := #[x, y], argTypes := #[t', t'] }) (hd' : o'.dst = some d2) (hx' : ev e2 x = .slice (some ⟨id, 0, some 1⟩) len c) (hT : T2[j]? = some (id, ⟨el, true, xs⟩))
    (hu' : P.underlying t' = some (.slice el)) (hy' : ev e2 y = .slice (some ⟨n1, 0, some 1⟩) 1 1) (hT2 : T2[m0]? = some (n1, ⟨el, true, [v]⟩)) (hlen : xs.length = len) (hb : (len + 1) * inf.bytes ≤ 140737488355328) (hml : len + 1 ≤ 9223372036854775807)
    (hk : KW P S H0 Q (n2 + 1) ((T2.set j (n2, ⟨el, true, xs ++ [v]⟩)).take m0) k2 (put1 e2 d2 (.slice (some ⟨n2, 0, some 1⟩) (len + 1) (len + 1)))) : KW P S H0 Q n T k e :=
  KW.lit h hlr ho hd hu hi hs hz hz1 hzo [v] (by rw [hp]; rfl) hm (fun u hu => by rw [List.mem_singleton.1 hu]; exact hv) rfl
    (KW.appT (ys := [v]) (m := 1) j h' hlr' ho' hd' hx' hT hu' hi hs hzo (fun H g => by rw [hy']; exact acells_T (g.blk hT2).1 rfl rfl) hlen (fun u hu => by rw [List.mem_singleton.1 hu]; exact ho1) (by decide) hb hml (KW.take m0 hk))
/-- The first element. -/
theorem KW.app0 (m0 : Nat) {o o' : Oper} {dr dr' : Bool} {t el t' : TypeId} {m : Nat} {parts : Array (Nat × Operand)} {inf : TypeInfo} {z : Value} {x y : Operand} {v : Value} (h : Go1 P k e T n (.op o dr) k1 e1 T1 n1 l1 r1) (hlr : l1 = r1) (ho : o.op = .buildSlice t m parts) (hd : o.dst = some d1)
    (hu : P.underlying t = some (.slice el)) (hi : P.info? el = some inf) (hs : inf.size = 1) (hz : inf.zero = some z) (hz1 : z.cells = #[z]) (hzo : zeroOkL P el = true) (hp : (parts.toList.map fun p => (p.1, ev e1 p.2)) = [(0, v)]) (hm : m = 1) (hv : v.cells = #[v]) (ho1 : v.oneCell' = true)
    (h' : Go1 P k1 (put1 e1 d1 (.slice (some ⟨n1, 0, some 1⟩) 1 1)) (T1 ++ [(n1, ⟨el, true, [v]⟩)]) (n1 + 1) (.op o' dr') k2 e2 T2 n2 l2 r2) (hlr' : l2 = r2) (ho' : o'.op = .call { callee := .builtin .append, args := #[x, y], argTypes := #[t', t'] }) (hd' : o'.dst = some d2) (hx' : ev e2 x = .slice none 0 0)
    (hu' : P.underlying t' = some (.slice el)) (hy' : ev e2 y = .slice (some ⟨n1, 0, some 1⟩) 1 1) (hT2 : T2[m0]? = some (n1, ⟨el, true, [v]⟩)) (hb : inf.bytes ≤ 140737488355328)
    (hk : KW P S H0 Q (n2 + 1) (T2.take m0 ++ [(n2, ⟨el, true, [v]⟩)]) k2 (put1 e2 d2 (.slice (some ⟨n2, 0, some 1⟩) 1 1))) : KW P S H0 Q n T k e :=
  KW.lit h hlr ho hd hu hi hs hz hz1 hzo [v] (by rw [hp]; rfl) hm (fun u hu => by rw [List.mem_singleton.1 hu]; exact hv) rfl
    (KW.appN (ys := [v]) (m := 1) h' hlr' ho' hd' hx' hu' hi hs hzo (fun H g => by rw [hy']; exact acells_T (g.blk hT2).1 rfl rfl) (fun u hu => by rw [List.mem_singleton.1 hu]; exact ho1) (by decide) (by omega) (by decide) (fun H g => hk H
      ⟨g.n_, g.fin, g.froz, fun i w hi => by
        rw [List.getElem?_append] at hi
        split at hi
        · rename_i hlt
          rw [List.getElem?_take] at hi
          split at hi
          · exact g.vars i w (by rw [List.getElem?_append_left (List.getElem?_eq_some_iff.1 hi).1]; exact hi)
          · cases hi
        · rename_i hge
          obtain ⟨h1, h2⟩ := List.getElem?_eq_some_iff.1 hi
          simp at h1 h2
          subst h2
          exact g.vars T2.length _ (by simp),
      fun i i' u w hi hi' he => by
        have hm0 := (List.getElem?_eq_some_iff.1 hT2).1
        have get : ∀ {i : Nat} {u : Var}, (T2.take m0 ++ [(n2, ⟨el, true, [v]⟩)])[i]? = some u → (i = m0 ∧ u = (n2, ⟨el, true, [v]⟩)) ∨ (i < m0 ∧ (T2 ++ [(n2, (⟨el, true, [v]⟩ : Blk))])[i]? = some u) := fun {i u} hi => by
          have hl : (T2.take m0).length = m0 := by rw [List.length_take]; omega
          rw [List.getElem?_append] at hi
          split at hi
          · rename_i hlt
            rw [List.getElem?_take] at hi
            split at hi
            · exact .inr ⟨by omega, by rw [List.getElem?_append_left (by omega)]; exact hi⟩
            · cases hi
          · obtain ⟨h1, h2⟩ := List.getElem?_eq_some_iff.1 hi
            simp at h1 h2
            exact .inl ⟨by omega, h2.symm⟩
        have lst : (T2 ++ [(n2, (⟨el, true, [v]⟩ : Blk))])[T2.length]? = some (n2, ⟨el, true, [v]⟩) := by simp
        rcases get hi with ⟨e1, rfl⟩ | ⟨e1, k1⟩ <;> rcases get hi' with ⟨e2, rfl⟩ | ⟨e2, k2⟩
        · omega
        · have := g.dist _ _ _ _ lst k2 he; omega
        · have := g.dist _ _ _ _ k1 lst he; omega
        · exact g.dist _ _ _ _ k1 k2 he⟩))
/-- A struct of parts. -/
theorem KW.build {o : Oper} {dr : Bool} {t : TypeId} {parts : Array (Nat × Operand)} {cs : Array Value} (h : Go1 P k e T n (.op o dr) k1 e1 T1 n1 l1 r1) (hlr : l1 = r1) (ho : o.op = .build t parts) (hd : o.dst = some d1) (hz : zeroOkL P t = true) (hb : P.built t (parts.toList.map fun p => (p.1, ev e1 p.2)) = some cs) (hk : KW P S H0 Q n1 T1 k1 (put1 e1 d1 (.agg cs))) : KW P S H0 Q n T k e := by
  refine KW.pure h hlr ho hd rfl _ ?_ hk
  simp only [pop, abuild, hb]
  rw [if_pos (zeroOkL_ok hz)]
/-- A test of which the answer is known. -/
theorem KW.tT {t : Bool} (h : Go1 P k e T n (.test (some d1) t) k1 e1 T1 n1 l1 r1) (hlr : l1 = r1) (ht : t = true) (hk : KW P S H0 Q n1 T1 k1 (put1 e1 d1 (.bool true))) : KW P S H0 Q n T k e :=
  KW.tstB h hlr (fun _ => hk) (fun h => by rw [ht] at h; cases h)
theorem KW.tF {t : Bool} (h : Go1 P k e T n (.test (some d1) t) k1 e1 T1 n1 l1 r1) (hlr : l1 = r1) (ht : t = false) (hk : KW P S H0 Q n1 T1 k1 (put1 e1 d1 (.bool false))) : KW P S H0 Q n T k e :=
  KW.tstB h hlr (fun h => by rw [ht] at h; cases h) (fun _ => hk)
theorem KW.cT {t : Bool} {a b : Code} (h : Go1 P k e T n (.cond t a b) k1 e1 T1 n1 l1 r1) (hlr : l1 = r1) (ht : t = true) (hk : KW P S H0 Q n1 T1 (.code a :: k1) e1) : KW P S H0 Q n T k e :=
  KW.cndB h hlr (fun _ => hk) (fun h => by rw [ht] at h; cases h)
theorem KW.cF {t : Bool} {a b : Code} (h : Go1 P k e T n (.cond t a b) k1 e1 T1 n1 l1 r1) (hlr : l1 = r1) (ht : t = false) (hk : KW P S H0 Q n1 T1 (.code b :: k1) e1) : KW P S H0 Q n T k e :=
  KW.cndB h hlr (fun h => by rw [ht] at h; cases h) (fun _ => hk)
theorem KW.yes {p : Prop} [Decidable p] {a b : Code} (h : Go1 P k e T n (.cond (decide p) a b) k1 e1 T1 n1 l1 r1) (hlr : l1 = r1) (ht : p) (hk : KW P S H0 Q n1 T1 (.code a :: k1) e1) : KW P S H0 Q n T k e :=
  KW.cnd h hlr (fun _ => hk) (fun h => (h ht).elim)
theorem KW.no {p : Prop} [Decidable p] {a b : Code} (h : Go1 P k e T n (.cond (decide p) a b) k1 e1 T1 n1 l1 r1) (hlr : l1 = r1) (ht : ¬ p) (hk : KW P S H0 Q n1 T1 (.code b :: k1) e1) : KW P S H0 Q n T k e :=
  KW.cnd h hlr (fun h => (ht h).elim) (fun _ => hk)
theorem KW.tyes {p : Prop} [Decidable p] (h : Go1 P k e T n (.test (some d1) (decide p)) k1 e1 T1 n1 l1 r1) (hlr : l1 = r1) (ht : p) (hk : KW P S H0 Q n1 T1 k1 (put1 e1 d1 (.bool true))) : KW P S H0 Q n T k e :=
  KW.tst h hlr (fun _ => hk) (fun h => (h ht).elim)
theorem KW.tno {p : Prop} [Decidable p] (h : Go1 P k e T n (.test (some d1) (decide p)) k1 e1 T1 n1 l1 r1) (hlr : l1 = r1) (ht : ¬ p) (hk : KW P S H0 Q n1 T1 k1 (put1 e1 d1 (.bool false))) : KW P S H0 Q n T k e :=
  KW.tst h hlr (fun h => (ht h).elim) (fun _ => hk)
end
theorem bload_at {P : Program} {b : Blk} {t : TypeId} {k : Nat} {v : Value} {td : TypeDesc} (hc : b.cells[k]? = some v) (hu : P.underlying t = some td) (hnot : (match td with | .struct _ => false | .array _ _ => false | _ => true) = true) : bload P b t k = some v := by
  unfold bload
  simp only [hu]
  cases td <;> first | exact hc | (simp at hnot)
/-- A block that one may write becomes a variable. -/
theorem KW.thaw {P : Program} {S : Ids} {H0 : AH} {Q : PostC} {k : List It} {e : Env} {T : List Var} {n : Nat} (o : Nat) (b : Blk) (hS : S o) (hm : H0.m o = some b) (hk : KW P (fun id => S id ∧ id ≠ o) H0 Q n (T ++ [(o, b)]) k e) : KW P S H0 Q n T k e := fun H g => by
  have get : ∀ {i : Nat} {u : Var}, (T ++ [(o, b)])[i]? = some u → (i = T.length ∧ u = (o, b)) ∨ (T[i]? = some u) := fun {i u} hi => by
    rw [List.getElem?_append] at hi
    split at hi
    · exact .inr hi
    · obtain ⟨h1, h2⟩ := List.getElem?_eq_some_iff.1 hi
      simp at h1 h2
      exact .inl ⟨by omega, h2.symm⟩
  refine hk H ⟨g.n_, g.fin, fun id hid => g.froz id hid.1, fun i u hi => ?_, fun i j u w hi hj he => ?_⟩
  · rcases get hi with ⟨_, rfl⟩ | h
    · obtain ⟨h1, h2⟩ := g.froz o hS
      exact ⟨h2.trans hm, h1, fun h => h.2 rfl⟩
    · exact ⟨(g.vars i u h).1, (g.vars i u h).2.1, fun hh => (g.vars i u h).2.2 hh.1⟩
  · rcases get hi with ⟨e1, rfl⟩ | h1 <;> rcases get hj with ⟨e2, rfl⟩ | h2
    · omega
    · exact absurd (by rw [← he]; exact hS) (g.vars j w h2).2.2
    · exact absurd (by rw [he]; exact hS) (g.vars i u h1).2.2
    · exact g.dist i j u w h1 h2 he
theorem On.thaw {X S : Ids} {H H0 : AH} {o : Nat} [t : On X H S H0] (h : ∀ id, X id → id ≠ o) : On X H (fun id => S id ∧ id ≠ o) H0 := ⟨fun id hid => ⟨⟨(t.st id hid).1, h id hid⟩, (t.st id hid).2⟩⟩
theorem Kn.Ml.ints {ik : IntKind} {X : Ids} {H : AH} {v : Value} {xs : List Int} (h : (Kn.int ik).Ml X H v xs) (hx : xs ≠ []) : ∃ (o c : Nat) (b : Blk), v = .slice (some ⟨o, 0, some 1⟩) xs.length c ∧ xs.length ≤ c ∧ X o ∧ H.m o = some b ∧ b.rw = true ∧ xs.length ≤ b.cells.length ∧ ∀ (i : Nat) x, xs[i]? = some x → b.cells[i]? = some (.int ik x) := by
  rcases h with ⟨h, _⟩ | ⟨o, c, b, W, h1, h2, h3, h4, h5, h6, h7, h8, h9⟩
  · exact absurd h hx
  · refine ⟨o, c, b, h1, h2, h3, h4, h5, by have : xs.length * 1 ≤ b.cells.length := h6; omega, fun i x hi => ?_⟩
    have : ((b.cells.drop (0 + i * 1)).take 1) = [.int ik x] := h9 i x hi
    have := cell_of this
    simpa using this
theorem mlI_of {ik : IntKind} {X : Ids} {H : AH} {o c : Nat} {b : Blk} {ys : List Int} (hX : X o) (hm : H.m o = some b) (hrw : b.rw = true) (hc : ys.length ≤ c) (hl : ys.length ≤ b.cells.length) (h : ∀ (i : Nat) x, ys[i]? = some x → b.cells[i]? = some (.int ik x)) : (Kn.int ik).Ml X H (.slice (some ⟨o, 0, some 1⟩) ys.length c) ys :=
  .inr ⟨o, c, b, fun _ _ => False, rfl, hc, hX, hm, hrw, by show ys.length * 1 ≤ _; omega, fun _ _ h => h.elim, fun _ _ _ h => h.elim, fun i x hi => by
    show (b.cells.drop (0 + i * 1)).take 1 = [_]
    rw [List.take_one, Nat.zero_add, Nat.mul_one, List.head?_drop, h i x hi]; rfl⟩
/-- A whole number, wrapped to no effect. -/
theorem vI {x y : Int} (h : x = y) (h1 : -9223372036854775808 ≤ y) (h2 : y ≤ 9223372036854775807) : Value.int .i64 (IntKind.i64.wrap x) = .int .i64 y := by rw [h, wr h1 h2]
theorem vU {x y : Int} (h : x = y) (h1 : 0 ≤ y) (h2 : y < 18446744073709551616) : Value.int .u64 (IntKind.u64.wrap x) = .int .u64 y := by rw [h, wru h1 h2]
theorem Good.ints {S0 : Ids} {H0 H1 : AH} {T : List Var} {n j id c : Nat} {b : Blk} {ik : IntKind} {xs : List Int} (g : Good S0 H0 T n H1) (hj : T[j]? = some (id, b)) (hb : b.cells = xs.map (Value.int ik)) (hl : xs.length ≤ c) : (Kn.int ik).Sl (Low H1.n) H1 (.slice (some ⟨id, 0, some 1⟩) xs.length c) xs :=
  int_sl (g.blk hj).2 (g.blk hj).1 hb hl
/-- The place of a variable is behind what was there. -/
theorem Good.ge {S0 : Ids} {H0 H1 H2 : AH} {T : List Var} {n j id : Nat} {b : Blk} [o : On (Low H1.n) H1 S0 H0] (g : Good S0 H0 T n H2) (hj : T[j]? = some (id, b)) : H1.n ≤ id := by
  rcases Nat.lt_or_ge id H1.n with h | h
  · exact absurd (o.st id h).1 (g.vars j _ hj).2.2
  · exact h
end Go.Proofs.Ytmkpfllbmdahkaa.Am
/- Rows that are made one behind the other and kept in a list of one's own. For every program. No condition beyond each theorem's own. -/
set_option linter.unusedSimpArgs false
set_option linter.unusedVariables false
namespace Go.Proofs.Ytmkpfllbmdahkaa.Am
open Go Go.RowKit
/-- The cells cs bear the rows; all that they lead to lies in V, which is frozen and lies between lo and hi. -/
structure RowsB {α : Type} (d : Kn α) (S : Ids) (A : AH) (V : Ids) (rows : List α) (cs : List Value) : Prop where
  len : cs.length = rows.length
  sub : ∀ id, V id → S id
  rows : ∃ W : Nat → Ids, (∀ j id, W j id → V id) ∧ (∀ i j id, W i id → W j id → i = j) ∧ ∀ (j : Nat) x, rows[j]? = some x → ∃ v, cs[j]? = some v ∧ d.R (W j) A x [v]
section
variable {α : Type} {d : Kn α} {S S' V : Ids} {A A' : AH} {rows : List α} {cs : List Value}
theorem RowsB.nil (S : Ids) (A : AH) : RowsB d S A (fun _ => False) [] [] := ⟨rfl, fun _ h => h.elim, fun _ _ => False, fun _ _ h => h.elim, fun _ _ _ h => h.elim, fun j x h => by simp at h⟩
theorem RowsB.up [o : On S A S' A'] (h : RowsB d S A V rows cs) : RowsB d S' A' V rows cs := by
  obtain ⟨W, h1, h2, h3⟩ := h.rows
  refine ⟨h.len, fun id hid => (o.st id (h.sub id hid)).1, W, h1, h2, fun j x hx => ?_⟩
  obtain ⟨v, h4, h5⟩ := h3 j x hx
  exact ⟨v, h4, d.same (fun id hid => (o.st id (h.sub id (h1 j id hid))).2) h5⟩
theorem RowsB.snoc {X : Ids} {x : α} {v : Value} (h : RowsB d S A V rows cs) (hx : d.R X A x [v]) (hS : ∀ id, X id → S id) (hd : ∀ id, V id → X id → False) : RowsB d S A (fun id => V id ∨ X id) (rows ++ [x]) (cs ++ [v]) := by
  obtain ⟨W, h1, h2, h3⟩ := h.rows
  refine ⟨by simp [h.len], fun id hid => hid.elim (h.sub id) (hS id), fun j id => if j = rows.length then X id else W j id, fun j id hid => ?_, fun i j id hi hj => ?_, fun j y hy => ?_⟩
  · simp only at hid
    split at hid
    · exact .inr hid
    · exact .inl (h1 j id hid)
  · simp only at hi hj
    split at hi <;> split at hj
    · omega
    · exact (hd id (h1 j id hj) hi).elim
    · exact (hd id (h1 i id hi) hj).elim
    · exact h2 i j id hi hj
  · rcases Nat.lt_or_ge j rows.length with hj | hj
    · rw [List.getElem?_append_left hj] at hy
      obtain ⟨u, h4, h5⟩ := h3 j y hy
      refine ⟨u, by rw [List.getElem?_append_left (by rw [h.len]; exact hj)]; exact h4, ?_⟩
      show d.R (fun id => if j = rows.length then X id else W j id) A y [u]
      rw [show (fun id => if j = rows.length then X id else W j id) = W j from by funext id; rw [if_neg (by omega)]]
      exact h5
    · have hjl := (List.getElem?_eq_some_iff.1 hy).1
      simp at hjl
      obtain rfl : j = rows.length := by omega
      simp at hy
      subst hy
      refine ⟨v, by rw [← h.len]; simp, ?_⟩
      show d.R (fun id => if rows.length = rows.length then X id else W rows.length id) A x [v]
      rw [show (fun id => if rows.length = rows.length then X id else W rows.length id) = X from by funext id; simp]
      exact hx
/-- What has been made reads as a list that one owns. -/
theorem RowsB.ml {T : List Var} {n j o : Nat} {ty : TypeId} {H2 : AH} {X : Ids} (h : RowsB d S A V rows cs) (hd : d.es = 1) (g : Good S A T n H2) (hT : T[j]? = some (o, ⟨ty, true, cs⟩)) (hX : X o) (hV : ∀ id, V id → X id) : d.Ml X H2 (.slice (some ⟨o, 0, some 1⟩) rows.length rows.length) rows := by
  obtain ⟨W, h1, h2, h3⟩ := h.rows
  have hb := g.blk hT
  have hno := (g.vars j _ hT).2.2
  refine .inr ⟨o, rows.length, _, W, by rw [hd], Nat.le_refl _, hX, hb.1, rfl, by simp only [hd, h.len]; omega, fun i id hid => ⟨hV id (h1 i id hid), fun e => hno (e ▸ h.sub id (h1 i id hid))⟩, h2, fun i x hx => ?_⟩
  obtain ⟨v, h4, h5⟩ := h3 i x hx
  have e : ((cs.drop (0 + i * d.es)).take d.es) = [v] := by
    rw [hd, Nat.zero_add, Nat.mul_one, List.take_one, List.head?_drop, h4]; rfl
  simp only
  rw [e]
  exact d.same (fun id hid => (g.froz id (h.sub id (h1 i id hid))).2) h5
end
/-- .. of rows of numbers: what a maker of such a list yields. -/
def MkSS (xs : List (List Int)) (n : Nat) (v : Value) (H1 : AH) : Prop := ∃ a c, v = .slice a xs.length c ∧ (Kn.int .i64).ml.Ml (New n H1.n) H1 (.slice a xs.length c) xs
theorem KW.ids {P : Program} {S : Ids} {H0 : AH} {Q : PostC} {k : List It} {e : Env} {T : List Var} {n : Nat} (hk : (∀ id, S id → id < n) → (∀ (j : Nat) o b, T[j]? = some (o, b) → o < n ∧ ¬ S o) → KW P S H0 Q n T k e) : KW P S H0 Q n T k e :=
  fun H g => hk (fun id hid => (g.froz id hid).1) (fun j o b hj => ⟨(g.vars j _ hj).2.1, (g.vars j _ hj).2.2⟩) H g
end Go.Proofs.Ytmkpfllbmdahkaa.Am
/- What the laws' own functions do, type by type: rows of numbers; how structs stand in memory. Each holds under its own conditions. -/
set_option linter.unusedVariables false
set_option maxRecDepth 20000
namespace Go.Proofs.Ytmkpfllbmdahkaa.Am
open Go Go.RowKit Go.Proofs
theorem all_of {α : Type} {xs : List α} {p : α → Prop} (h : ∀ j, j < xs.length → ∀ x, xs[j]? = some x → p x) : ∀ x ∈ xs, p x := fun x hx => by
  obtain ⟨j, hj⟩ := List.getElem?_of_mem hx
  exact h j (List.getElem?_eq_some_iff.1 hj).1 x hj
def None_ : Ids := fun _ => False
section
variable {α β : Type} {d : Kn α} {S S' X Y Z : Ids} {H H' : AH} {v : Value} {xs : List α} {x : α} {y : β} {cs ds : List Value}
theorem sl1 (h : d.sl.R S H xs [v]) : d.Sl S H v xs := by
  obtain ⟨s, h1, h2⟩ := h
  obtain rfl : v = s := by simpa using h1
  exact h2
theorem sl1' (h : d.Sl S H v xs) : d.sl.R S H xs [v] := ⟨v, rfl, h⟩
theorem ml1 (h : d.ml.R S H xs [v]) : d.Ml S H v xs := by
  obtain ⟨s, h1, h2⟩ := h
  obtain rfl : v = s := by simpa using h1
  exact h2
theorem ml1' (h : d.Ml S H v xs) : d.ml.R S H xs [v] := ⟨v, rfl, h⟩
theorem mlform (h : d.ml.R S H xs cs) : ∃ a c, cs = [.slice a xs.length c] := by
  obtain ⟨s, rfl, h2⟩ := h
  obtain ⟨a, c, rfl⟩ := h2.form
  exact ⟨a, c, rfl⟩
theorem slform (h : d.sl.R S H xs cs) : ∃ a c, cs = [.slice a xs.length c] := by
  obtain ⟨s, rfl, h2⟩ := h
  obtain ⟨a, c, rfl⟩ := h2.form
  exact ⟨a, c, rfl⟩
theorem prR {a : Kn α} {b : Kn β} (h : a.R S H x cs) (k : b.R S H y ds) : (Kn.pair a b).R S H (x, y) (cs ++ ds) := ⟨cs, ds, rfl, h, k⟩
theorem mpR {a : Kn α} {b : Kn β} (h : a.R X H x cs) (k : b.R Y H y ds) (hX : ∀ id, X id → Z id) (hY : ∀ id, Y id → Z id) (hd : ∀ id, X id → Y id → False) : (Kn.mp a b).R Z H (x, y) (cs ++ ds) := ⟨cs, ds, X, Y, rfl, hX, hY, hd, h, k⟩
theorem Good.keep {S0 : Ids} {H0 H2 : AH} {T : List Var} {n : Nat} (g : Good S0 H0 T n H2) [o : On X H S0 H0] (h : d.R X H x cs) : d.R X H2 x cs :=
  d.same (fun id hid => ((g.froz id (o.st id hid).1).2).trans (o.st id hid).2) h
theorem Good.inn {S0 : Ids} {H0 H2 : AH} {T : List Var} {n lo : Nat} (g : Good S0 H0 T n H2) [o : On X H S0 H0] (hX : ∀ id, X id → lo ≤ id) : ∀ id, X id → New lo H2.n id := fun id hid => ⟨hX id hid, by have := (g.froz id (o.st id hid).1).1; have := g.n_; omega⟩
end
/-- A fact on memory with what it rests on. -/
structure Fk {α : Type} (d : Kn α) (X S : Ids) (H : AH) (x : α) (cs : List Value) : Prop where
  r : d.R X H x cs
  i : ∀ id, X id → S id
section
variable {α : Type} {d : Kn α} {X X' S S' W : Ids} {H H1 : AH} {x : α} {cs : List Value}
theorem Fk.up [o : On S H S' H1] (h : Fk d X S H x cs) : Fk d X S' H1 x cs := ⟨d.same (fun id hid => (o.st id (h.i id hid)).2) h.r, fun id hid => (o.st id (h.i id hid)).1⟩
theorem Fk.all [o : On S H S' H1] (h : Fk d X S H x cs) : d.R S' H1 x cs := d.more (fun id hid => (o.st id (h.i id hid)).1) (d.same (fun id hid => (o.st id (h.i id hid)).2) h.r)
theorem Fk.w (h : Fk d X S H x cs) (t : StW W S H S' H1) (hd : ∀ id, X id → W id → False) : Fk d X S' H1 x cs := ⟨d.same (fun id hid => (t id (h.i id hid)).2 (hd id hid)) h.r, fun id hid => (t id (h.i id hid)).1⟩
theorem Fk.mk' (h : d.R X H x cs) (k : d.R X H x cs → d.R X' H x cs) (hi : ∀ id, X' id → S id) : Fk d X' S H x cs := ⟨k h, hi⟩
theorem Fk.on [o : On X H S H1] (h : d.R X H x cs) : Fk d X S H1 x cs := ⟨d.same (fun id hid => (o.st id hid).2) h, fun id hid => (o.st id hid).1⟩
theorem Fk.st (h : Fk d X S H x cs) : d.R S H x cs := d.more h.i h.r
theorem Fk.le {d' : Kn α} (k : KLe d d') (h : Fk d X S H x cs) : Fk d' X S H x cs := ⟨k.2 _ _ _ _ h.r, h.i⟩
end
/-- Marks, row by row. -/
def mks {α : Type} (mk : Int → α → α) (sz : α → Nat) (k : Int) : List α → List α
  | [] => []
  | x :: l => mk k x :: mks mk sz (k + sz x) l
theorem mks_len {α : Type} (mk : Int → α → α) (sz : α → Nat) (k : Int) (l : List α) : (mks mk sz k l).length = l.length := by
  induction l generalizing k with
  | nil => rfl
  | cons n l ih => simp [mks, ih]
theorem mks_at {α : Type} {mk : Int → α → α} {sz : α → Nat} {l : List α} {i : Nat} {x : α} (k : Int) (h : l[i]? = some x) : (mks mk sz k l)[i]? = some (mk (k + sum ((l.map sz).take i)) x) := by
  induction l generalizing i k with
  | nil => simp at h
  | cons m l ih =>
    cases i with
    | zero => cases h; simp [mks, sum]
    | succ i =>
      have h : l[i]? = some x := by simpa using h
      simp only [mks, List.getElem?_cons_succ, List.map_cons, List.take_succ_cons, sum]
      rw [ih (k + sz m) h]
      congr 2
      omega
abbrev K_Int64S : Kn (List Int) := KI.sl
abbrev M_Int64S : Kn (List Int) := KI.ml
abbrev B_Int64S (x : List Int) : Prop := x.length ≤ 1048576
abbrev W_Int64S (x : List Int) : Prop := x.length ≤ 9223372036854775807
abbrev sz_Int64S (x : List Int) : Nat := x.length
abbrev mk_Int64S (k : Int) (x : List Int) : List Int := cnt k x.length
abbrev K_Int64SS : Kn (List (List Int)) := KI.sl.sl
abbrev M_Int64SS : Kn (List (List Int)) := KI.ml.ml
abbrev B_Int64SS (x : List (List Int)) : Prop := Sml x
abbrev W_Int64SS (x : List (List Int)) : Prop := x.length ≤ 9223372036854775807 ∧ ∀ y ∈ x, y.length ≤ 9223372036854775807
abbrev sz_Int64SS (x : List (List Int)) : Nat := sum (lens x)
abbrev mk_Int64SS (k : Int) (x : List (List Int)) : List (List Int) := mks mk_Int64S sz_Int64S k x
theorem cnts_mks (k : Int) (l : List (List Int)) : cnts k (lens l) = mks mk_Int64S sz_Int64S k l := by
  induction l generalizing k with
  | nil => rfl
  | cons x l ih => simp only [lens, List.map_cons, cnts, mks] at ih ⊢; rw [ih]
theorem size_Int64S {x : List Int} (hB : B_Int64S x) : sz_Int64S x ≤ 1048576 := hB
theorem size_Int64SS {x : List (List Int)} (hB : B_Int64SS x) : sz_Int64SS x ≤ 1048576 := hB.tot
theorem le_Int64S : KLe M_Int64S K_Int64S := KLe.row (KLe.refl KI)
theorem le_Int64SS : KLe M_Int64SS K_Int64SS := KLe.row le_Int64S
section
variable {S : Ids} {H0 : AH} {W : Ids} {a a' : Option Addr} {c c' : Nat} {left k : Int}
theorem to_Int64S {x : List Int} (hB : B_Int64S x) (hs : K_Int64S.R S H0 x [.slice a x.length c]) : SpecM Try.prog S H0 30 [.slice a x.length c] (fun n v H1 => ∃ a c, v = .slice a x.length c ∧ M_Int64S.R (New n H1.n) H1 x [.slice a x.length c]) := fun H h1 h2 => by
  obtain ⟨m, v, H1, h3, h4, h5, a, c, h6, h7⟩ := toInt64S hB (sl1 hs) H h1 h2
  exact ⟨m, v, H1, h3, h4, h5, a, c, h6, ml1' h7⟩
theorem to_Int64SS {x : List (List Int)} (hB : B_Int64SS x) (hs : K_Int64SS.R S H0 x [.slice a x.length c]) : SpecM Try.prog S H0 102 [.slice a x.length c] (fun n v H1 => ∃ a c, v = .slice a x.length c ∧ M_Int64SS.R (New n H1.n) H1 x [.slice a x.length c]) := fun H h1 h2 => by
  obtain ⟨m, v, H1, h3, h4, h5, a, c, h6, h7⟩ := toInt64SS hB.len hB.each (sl1 hs) H h1 h2
  exact ⟨m, v, H1, h3, h4, h5, a, c, h6, ml1' h7⟩
theorem eq_Int64S {x : List Int} (hB : B_Int64S x) (hs : K_Int64S.R S H0 x [.slice a x.length c]) (hs' : K_Int64S.R S H0 x [.slice a' x.length c']) : Spec Try.prog S H0 32 [.slice a x.length c, .slice a' x.length c'] (fun v => v = .bool true) := eqInt64S1 hB (sl1 hs) (sl1 hs')
theorem eq_Int64SS {x : List (List Int)} (hB : B_Int64SS x) (hs : K_Int64SS.R S H0 x [.slice a x.length c]) (hs' : K_Int64SS.R S H0 x [.slice a' x.length c']) : Spec Try.prog S H0 105 [.slice a x.length c, .slice a' x.length c'] (fun v => v = .bool true) := eqInt64SS1 hB.len hB.each (sl1 hs) (sl1 hs')
theorem sz_Int64S' {x : List Int} (h0 : 0 ≤ left) (h1 : left ≤ 1048576) (hW : W_Int64S x) (hs : K_Int64S.R S H0 x [.slice a x.length c]) : Spec Try.prog S H0 106 [.slice a x.length c, .int .i64 left] (SzPost left (B_Int64S x)) := szInt64S h0 h1 hW
theorem sz_Int64SS' {x : List (List Int)} (h0 : 0 ≤ left) (h1 : left ≤ 1048576) (hW : W_Int64SS x) (hs : K_Int64SS.R S H0 x [.slice a x.length c]) : Spec Try.prog S H0 99 [.slice a x.length c, .int .i64 left] (SzPost left (B_Int64SS x)) := fun H h2 h3 => by
  obtain ⟨m, v, H1, h4, h5, h6, r, h7, h8⟩ := szInt64SS h0 h1 hW.1 hW.2 (sl1 hs) H h2 h3
  exact ⟨m, v, H1, h4, h5, h6, r, h7, h8.imp id (fun h => ⟨h.1, h.2.1, ⟨h.2.2.1, h.2.2.2⟩⟩)⟩
/-- Where marks may begin. -/
abbrev Mk (k : Int) (z : Nat) : Prop := 0 ≤ k ∧ k + z ≤ 274877906944
theorem mark_Int64S {x : List Int} (hB : B_Int64S x) (hk : Mk k (sz_Int64S x)) (hW : ∀ id, W id → S id) (hs : M_Int64S.R W H0 x [.slice a x.length c]) : SpecW Try.prog S H0 W 33 [.slice a x.length c, .int .i64 k] (fun n v H1 => v = .int .i64 (k + sz_Int64S x) ∧ M_Int64S.R W H1 (mk_Int64S k x) [.slice a x.length c]) := fun H h1 h2 => by
  obtain ⟨m, v, H1, h3, h4, h5, h6, h7, h8⟩ := markInt64S (by show x.length ≤ _; have : x.length ≤ 1048576 := hB; omega) ⟨hk.1, by have := hk.2; omega⟩ hW (ml1 hs) H h1 h2
  exact ⟨m, v, H1, h3, h4, h5, h6, h7, ml1' h8⟩
theorem mark_Int64SS {x : List (List Int)} (hB : B_Int64SS x) (hk : Mk k (sz_Int64SS x)) (hW : ∀ id, W id → S id) (hs : M_Int64SS.R W H0 x [.slice a x.length c]) : SpecW Try.prog S H0 W 128 [.slice a x.length c, .int .i64 k] (fun n v H1 => v = .int .i64 (k + sz_Int64SS x) ∧ M_Int64SS.R W H1 (mk_Int64SS k x) [.slice a x.length c]) := fun H h1 h2 => by
  obtain ⟨m, v, H1, h3, h4, h5, h6, h7, h8⟩ := markInt64SS (by have := hB.len; omega) (by have := hB.tot; omega) ⟨hk.1, by have := hk.2; omega⟩ hW (ml1 hs) H h1 h2
  exact ⟨m, v, H1, h3, h4, h5, h6, h7, ml1' (by rw [cnts_mks] at h8; exact h8)⟩
end
end Go.Proofs.Ytmkpfllbmdahkaa.Am
/- Contracts: whether a function value tells true of an element of a slice. Each holds under its own conditions. -/
set_option linter.unusedVariables false
set_option maxRecDepth 20000
namespace Go.Proofs.Ytmkpfllbmdahkaa.Am
open Go Go.RowKit Go.Proofs
section
variable {S : Ids} {H0 : AH}
/-- A function value that tells something of each number. -/
def TellsI (P : Program) (S : Ids) (H0 : AH) (xs : List Int) (g : FuncId) (cap : List Value) (p : Int → Bool) : Prop :=
  ∀ S' H', On S H0 S' H' → ∀ y ∈ xs, Spec P S' H' g (.int .i64 y :: cap) (fun v => v = .bool (p y))
theorem TellsI.up {P : Program} {S' : Ids} {H' : AH} {xs : List Int} {g : FuncId} {cap : List Value} {p : Int → Bool} [o : On S H0 S' H'] (h : TellsI P S H0 xs g cap p) : TellsI P S' H' xs g cap p := fun S2 H2 o2 => h S2 H2 ⟨o.st.trans o2.st⟩
theorem indexFuncI {a c} {xs : List Int} {g : FuncId} {id k : Nat} {sp : Option Nat} {p : Int → Bool} (hl : xs.length ≤ 4611686018427387904) (hs : KI.Sl S H0 (.slice a xs.length c) xs) (hp : TellsI Try.prog S H0 xs g [.pointer (some ⟨id, k, none⟩)] p) :
    Spec Try.prog S H0 241 [.slice a xs.length c, .func (.func g) #[] #[.pointer (some ⟨id, k, sp⟩)]] (fun v => ∃ r : Int, v = .int .i64 r ∧ (r ≥ 0 ↔ ∃ x ∈ xs, p x = true)) := by
  refine Spec.of1 Try.func241 rfl (by kernel_rfl) rfl (fun H _ => ?_)
  refine KW.lp rfl rfl (fun i : Nat => [(0, .slice a xs.length c), (1, .func (.func g) #[] #[.pointer (some ⟨id, k, sp⟩)]), (7, .int .i64 xs.length), (8, .int .i64 i)]) (fun i => i ≤ xs.length ∧ ∀ j, j < i → ∀ x, xs[j]? = some x → p x = false) (fun i => xs.length - i) (0) (⟨by omega, fun j h => absurd h (by omega)⟩) ⟨rfl, rfl, rfl, rfl, trivial⟩ (fun i hi bE n => ?_)
  obtain ⟨hi, hj⟩ := hi
  refine KW.cnd rfl rfl (fun h => ?_) (fun h => ?_)
  · refine KW.getI hs.up rfl rfl rfl rfl rfl rfl rfl rfl rfl rfl rfl rfl rfl rfl rfl rfl (by omega) (h) (fun x hx => ?_)
    have hx : xs[i]? = some x := hx
    have hmem := List.mem_of_getElem? hx
    refine KW.callE rfl rfl rfl rfl rfl (hp _ _ inferInstance x hmem) (fun _ _ => ?_)
    refine KW.cndB rfl rfl (fun h2 => ?_) (fun h2 => ?_)
    · exact KW.ret rfl rfl rfl rfl (⟨(i : Int), rfl, fun _ => ⟨x, hmem, h2⟩, fun _ => by omega⟩)
    · refine KW.nxt rfl rfl (fun H' g => ⟨i + 1, ⟨by omega, upto hj (fun y hy => by rw [hx] at hy; cases hy; exact h2)⟩, by first | omega | (simp only; omega), ⟨rfl, rfl, rfl, congrArg (Value.int .i64) (inc64 (by omega)), trivial⟩, g⟩)
  · refine KW.ret rfl rfl rfl rfl ⟨-1, rfl, fun h => absurd h (by decide), fun ⟨x, hx, hpx⟩ => ?_⟩
    obtain ⟨j, hjx⟩ := List.getElem?_of_mem hx
    have := hj j (by have := (List.getElem?_eq_some_iff.1 hjx).1; omega) x hjx
    rw [hpx] at this; cases this
theorem containsFuncI {a c} {xs : List Int} {g : FuncId} {id k : Nat} {sp : Option Nat} {p : Int → Bool} (hl : xs.length ≤ 4611686018427387904) (hs : KI.Sl S H0 (.slice a xs.length c) xs) (hp : TellsI Try.prog S H0 xs g [.pointer (some ⟨id, k, none⟩)] p) :
    Spec Try.prog S H0 198 [.slice a xs.length c, .func (.func g) #[] #[.pointer (some ⟨id, k, sp⟩)]] (fun v => v = .bool (tv (∃ x ∈ xs, p x = true))) := by
  refine Spec.of1 Try.func198 rfl (by kernel_rfl) rfl (fun H _ => ?_)
  refine KW.call rfl rfl rfl rfl rfl (indexFuncI hl hs.up hp.up) (fun v _ _ hv => ?_)
  obtain ⟨r, rfl, hr⟩ := hv
  refine KW.ret rfl rfl rfl rfl ?_
  show Value.bool (decide (r ≥ 0)) = _
  rw [tv_dec, tv_congr hr]
/-- A function value that tells something of each row. -/
def TellsL (P : Program) (S : Ids) (H0 : AH) (xs : List (List Int)) (g : FuncId) (cap : List Value) (p : List Int → Bool) : Prop :=
  ∀ S' H', On S H0 S' H' → ∀ y ∈ xs, ∀ a c, KI.Sl S' H' (.slice a y.length c) y → Spec P S' H' g (.slice a y.length c :: cap) (fun v => v = .bool (p y))
theorem TellsL.up {P : Program} {S' : Ids} {H' : AH} {xs : List (List Int)} {g : FuncId} {cap : List Value} {p : List Int → Bool} [o : On S H0 S' H'] (h : TellsL P S H0 xs g cap p) : TellsL P S' H' xs g cap p := fun S2 H2 o2 => h S2 H2 ⟨o.st.trans o2.st⟩
theorem indexFuncL {a c} {xs : List (List Int)} {g : FuncId} {id k : Nat} {sp : Option Nat} {p : List Int → Bool} (hl : xs.length ≤ 4611686018427387904) (hs : KI.sl.Sl S H0 (.slice a xs.length c) xs) (hp : TellsL Try.prog S H0 xs g [.pointer (some ⟨id, k, none⟩)] p) :
    Spec Try.prog S H0 239 [.slice a xs.length c, .func (.func g) #[] #[.pointer (some ⟨id, k, sp⟩)]] (fun v => ∃ r : Int, v = .int .i64 r ∧ (r ≥ 0 ↔ ∃ x ∈ xs, p x = true)) := by
  refine Spec.of1 Try.func239 rfl (by kernel_rfl) rfl (fun H _ => ?_)
  refine KW.lp rfl rfl (fun i : Nat => [(0, .slice a xs.length c), (1, .func (.func g) #[] #[.pointer (some ⟨id, k, sp⟩)]), (7, .int .i64 xs.length), (8, .int .i64 i)]) (fun i => i ≤ xs.length ∧ ∀ j, j < i → ∀ x, xs[j]? = some x → p x = false) (fun i => xs.length - i) (0) (⟨by omega, fun j h => absurd h (by omega)⟩) ⟨rfl, rfl, rfl, rfl, trivial⟩ (fun i hi bE n => ?_)
  obtain ⟨hi, hj⟩ := hi
  refine KW.cnd rfl rfl (fun h => ?_) (fun h => ?_)
  · refine KW.getL hs.up rfl rfl rfl rfl rfl rfl rfl rfl rfl rfl rfl rfl rfl rfl rfl rfl (by omega) (h) (fun x ax cx hx hsx => ?_)
    have hx : xs[i]? = some x := hx
    have hmem := List.mem_of_getElem? hx
    refine KW.callE rfl rfl rfl rfl rfl (hp _ _ inferInstance x hmem _ _ hsx) (fun _ _ => ?_)
    refine KW.cndB rfl rfl (fun h2 => ?_) (fun h2 => ?_)
    · exact KW.ret rfl rfl rfl rfl (⟨(i : Int), rfl, fun _ => ⟨x, hmem, h2⟩, fun _ => by omega⟩)
    · refine KW.nxt rfl rfl (fun H' g => ⟨i + 1, ⟨by omega, upto hj (fun y hy => by rw [hx] at hy; cases hy; exact h2)⟩, by first | omega | (simp only; omega), ⟨rfl, rfl, rfl, congrArg (Value.int .i64) (inc64 (by omega)), trivial⟩, g⟩)
  · refine KW.ret rfl rfl rfl rfl ⟨-1, rfl, fun h => absurd h (by decide), fun ⟨x, hx, hpx⟩ => ?_⟩
    obtain ⟨j, hjx⟩ := List.getElem?_of_mem hx
    have := hj j (by have := (List.getElem?_eq_some_iff.1 hjx).1; omega) x hjx
    rw [hpx] at this; cases this
theorem containsFuncL {a c} {xs : List (List Int)} {g : FuncId} {id k : Nat} {sp : Option Nat} {p : List Int → Bool} (hl : xs.length ≤ 4611686018427387904) (hs : KI.sl.Sl S H0 (.slice a xs.length c) xs) (hp : TellsL Try.prog S H0 xs g [.pointer (some ⟨id, k, none⟩)] p) :
    Spec Try.prog S H0 195 [.slice a xs.length c, .func (.func g) #[] #[.pointer (some ⟨id, k, sp⟩)]] (fun v => v = .bool (tv (∃ x ∈ xs, p x = true))) := by
  refine Spec.of1 Try.func195 rfl (by kernel_rfl) rfl (fun H _ => ?_)
  refine KW.call rfl rfl rfl rfl rfl (indexFuncL hl hs.up hp.up) (fun v _ _ hv => ?_)
  obtain ⟨r, rfl, hr⟩ := hv
  refine KW.ret rfl rfl rfl rfl ?_
  show Value.bool (decide (r ≥ 0)) = _
  rw [tv_dec, tv_congr hr]
end
end Go.Proofs.Ytmkpfllbmdahkaa.Am
/- Contracts: primes, elements, valid matrices, of the program and of the reference. Each holds under its own conditions. -/
set_option linter.unusedVariables false
set_option maxRecDepth 20000
namespace Go.Proofs.Ytmkpfllbmdahkaa.Am
open Go Go.RowKit Go.Proofs
section
variable {P : Program} {S : Ids} {H0 : AH} {Q : PostC} {k k1 : List It} {e e1 : Env} {T T1 : List Var} {n n1 : Nat} {l1 r1 : List Nat} {d1 : Tmp}
theorem KW.rem {o : Oper} {dr : Bool} {t u : TypeId} {x y : Operand} {ik : IntKind} {a b : Int} (h : Go1 P k e T n (.op o dr) k1 e1 T1 n1 l1 r1) (hlr : l1 = r1) (ho : o.op = .binOp .rem t x y u) (hd : o.dst = some d1) (hx : ev e1 x = .int ik a) (hy : ev e1 y = .int ik b) (ha : 0 ≤ a) (hb : b ≠ 0)
    (hk : KW P S H0 Q n1 T1 k1 (put1 e1 d1 (.int ik (a % b)))) : KW P S H0 Q n T k e := by
  refine KW.pure h hlr ho hd rfl _ ?_ hk
  simp only [pop, hx, hy, abin, aint, if_true]
  rw [if_neg hb, Int.tmod_eq_emod_of_nonneg ha]
theorem KW.quo {o : Oper} {dr : Bool} {t u : TypeId} {x y : Operand} {a b : Int} (h : Go1 P k e T n (.op o dr) k1 e1 T1 n1 l1 r1) (hlr : l1 = r1) (ho : o.op = .binOp .quo t x y u) (hd : o.dst = some d1) (hx : ev e1 x = .int .i64 a) (hy : ev e1 y = .int .i64 b) (ha : 0 ≤ a ∧ a ≤ 9223372036854775807) (hb : 0 < b)
    (hk : KW P S H0 Q n1 T1 k1 (put1 e1 d1 (.int .i64 (a / b)))) : KW P S H0 Q n T k e := by
  refine KW.pure h hlr ho hd rfl _ ?_ hk
  simp only [pop, hx, hy, abin, aint, if_true]
  rw [if_neg (by omega), Int.tdiv_eq_ediv_of_nonneg ha.1]
  have h1 : 0 ≤ a / b := Int.ediv_nonneg ha.1 (by omega)
  have h2 : a / b ≤ a := Int.ediv_le_self _ ha.1
  rw [wr (by omega) (by omega)]
end
/-- A prime up to 31. -/
def PrimeP (p : Int) : Prop := 2 ≤ p ∧ p ≤ 31 ∧ ∀ d : Nat, 2 ≤ d → (d : Int) < p → ¬ p % d = 0
theorem prime_of {p : Int} {d : Nat} (h2 : 2 ≤ p) (h31 : p ≤ 31) (hd : 2 ≤ d) (hdd : ¬ (d : Int) * d ≤ p) (h : ∀ j : Nat, 2 ≤ j → j < d → ¬ p % j = 0) : PrimeP p := by
  refine ⟨h2, h31, fun q hq hqp hm => ?_⟩
  rcases Nat.lt_or_ge q d with hlt | hge
  · exact h q hq hlt hm
  · obtain ⟨r, hr⟩ := Int.dvd_of_emod_eq_zero hm
    have hr1 : 1 < r := by
      rcases Int.lt_or_le 1 r with h | h
      · exact h
      · have : (q : Int) * r ≤ q * 1 := Int.mul_le_mul_of_nonneg_left h (by omega)
        omega
    obtain ⟨s, rfl⟩ : ∃ s : Nat, r = s := ⟨r.toNat, by omega⟩
    have hs : (s : Int) < d := by
      rcases Int.lt_or_le (s : Int) d with h | h
      · exact h
      · have h1 : (d : Int) * d ≤ q * s := Int.mul_le_mul (by omega) h (by omega) (by omega)
        omega
    refine h s (by omega) (by omega) ?_
    rw [hr, Int.mul_emod_left]
theorem upto2 {d : Nat} {Q : Nat → Prop} (h : ∀ j, 2 ≤ j → j < d → Q j) (hd : Q d) : ∀ j, 2 ≤ j → j < d + 1 → Q j := fun j h2 hj => by
  rcases Nat.lt_or_ge j d with hl | hg
  · exact h j h2 hl
  · obtain rfl : j = d := by omega
    exact hd
section
variable {S : Ids} {H0 : AH}
theorem isPrime (p : Int) : Spec Try.prog S H0 194 [.int .i64 p] (fun v => v = .bool (tv (PrimeP p))) := by
  refine Spec.of1 Try.func194 rfl (by kernel_rfl) rfl (fun H _ => ?_)
  refine KW.lp rfl rfl (fun d : Nat => [(0, .int .i64 p), (3, .int .i64 d)]) (fun d => (2 ≤ d ∧ d ≤ 6) ∧ ∀ j : Nat, 2 ≤ j → j < d → ¬ p % j = 0) (fun d => 6 - d) (2) (⟨by omega, fun j h h' => by omega⟩) ⟨rfl, rfl, trivial⟩ (fun d hi bE n => ?_)
  obtain ⟨hd, hi⟩ := hi
  have hdd : (d : Int) * d ≤ 36 := by
    have : (d : Int) * d ≤ 6 * 6 := Int.mul_le_mul (by omega) (by omega) (by omega) (by omega)
    omega
  have hdd' : 0 ≤ (d : Int) * d := Int.mul_nonneg (by omega) (by omega)
  have ew : IntKind.i64.wrap ((d : Int) * d) = d * d := wr (by omega) (by omega)
  have fin : ¬ (d : Int) * d ≤ p ∨ ¬ p ≤ 31 → (decide (2 ≤ p ∧ p ≤ 31) : Bool) = tv (PrimeP p) := fun hx => by
    rw [tv_dec]
    refine tv_congr ⟨fun h => ?_, fun h => ⟨h.1, h.2.1⟩⟩
    exact prime_of h.1 h.2 hd.1 (hx.resolve_right (fun hc => hc h.2)) hi
  refine KW.tst rfl rfl (fun h => ?_) (fun h => ?_)
  · rw [ew] at h
    refine KW.cnd rfl rfl (fun h1 => ?_) (fun h1 => ?_)
    · refine KW.rem rfl rfl rfl rfl rfl rfl (by omega) (by omega) ?_
      refine KW.cndB rfl rfl (fun h2 => ?_) (fun h2 => ?_)
      · have hdp : (d : Int) < p := by
          have : (d : Int) * 2 ≤ d * d := Int.mul_le_mul_of_nonneg_left (by omega) (by omega)
          omega
        exact KW.ret rfl rfl rfl rfl (by rw [tv_false (fun hp => hp.2.2 d hd.1 hdp (by simpa using h2))]; rfl)
      · have h2 : ¬ p % (d : Int) = 0 := by simpa using h2
        have hd5 : d ≤ 5 := by
          rcases Nat.lt_or_ge d 6 with h | h
          · omega
          · have : (6 : Int) * 6 ≤ d * d := Int.mul_le_mul (by omega) (by omega) (by omega) (by omega)
            omega
        refine KW.nxt rfl rfl (fun H' g => ⟨d + 1, ⟨by omega, upto2 hi h2⟩, by first | omega | (simp only; omega), ⟨rfl, congrArg (Value.int .i64) (inc64 (by omega)), trivial⟩, g⟩)
    · refine KW.callE rfl rfl rfl rfl rfl (within _ _ _) (fun _ _ => ?_)
      exact KW.ret rfl rfl rfl rfl (congrArg Value.bool (fin (.inr h1)))
  · rw [ew] at h
    refine KW.cF rfl rfl (by first | (simp; done) | decide) ?_
    refine KW.callE rfl rfl rfl rfl rfl (within _ _ _) (fun _ _ => ?_)
    exact KW.ret rfl rfl rfl rfl (congrArg Value.bool (fin (.inl h)))
theorem specIsPrime (p : Int) : Spec Try.prog S H0 191 [.int .i64 p] (fun v => v = .bool (tv (PrimeP p))) := by
  refine Spec.of1 Try.func191 rfl (by kernel_rfl) rfl (fun H _ => ?_)
  refine KW.callE rfl rfl rfl rfl rfl (l00In _ _ _) (fun _ _ => ?_)
  refine KW.cndB rfl rfl (fun h => ?_) (fun h => ?_)
  · exact KW.ret rfl rfl rfl rfl (by rw [tv_false (fun hp => by have := hp.1; have := hp.2.1; simp at h; omega)]; rfl)
  have h : 2 ≤ p ∧ p ≤ 31 := by simpa using h
  refine KW.lp rfl rfl (fun d : Nat => [(0, .int .i64 p), (3, .int .i64 d)]) (fun d => (2 ≤ d ∧ (d : Int) ≤ p) ∧ ∀ j : Nat, 2 ≤ j → j < d → ¬ p % j = 0) (fun d => 32 - d) (2) (⟨by omega, fun j h h' => by omega⟩) ⟨rfl, rfl, trivial⟩ (fun d hi bE n => ?_)
  obtain ⟨hd, hi⟩ := hi
  refine KW.cnd rfl rfl (fun h1 => ?_) (fun h1 => ?_)
  · refine KW.rem rfl rfl rfl rfl rfl rfl (by omega) (by omega) ?_
    refine KW.cndB rfl rfl (fun h2 => ?_) (fun h2 => ?_)
    · exact KW.ret rfl rfl rfl rfl (by rw [tv_false (fun hp => hp.2.2 d hd.1 h1 (by simpa using h2))]; rfl)
    · refine KW.nxt rfl rfl (fun H' g => ⟨d + 1, ⟨by omega, upto2 hi (by simpa using h2)⟩, by first | omega | (simp only; omega), ⟨rfl, congrArg (Value.int .i64) (inc64 (by omega)), trivial⟩, g⟩)
  · exact KW.ret rfl rfl rfl rfl (by rw [tv_true (p := PrimeP p) ⟨h.1, h.2, fun j h2 hj => hi j h2 (by omega)⟩]; rfl)
/-- All are elements of the field. -/
def Elems (p : Int) (xs : List Int) : Prop := ∀ x ∈ xs, 0 ≤ x ∧ x ≤ p - 1
theorem areElements1 (p y : Int) (hp : I64 p) (hy : p ≠ -9223372036854775808) {id : Nat} {b : Blk} (hb : b.cells = [.int .i64 p]) (hv : S id ∧ H0.m id = some b) : Spec Try.prog S H0 206 [.int .i64 y, .pointer (some ⟨id, 0, none⟩)] (fun v => v = .bool (!decide (0 ≤ y ∧ y ≤ p - 1))) := by
  refine Spec.of1 Try.func206 rfl (by kernel_rfl) rfl (fun H _ => ?_)
  obtain ⟨hS1, hm1⟩ := On.blk (S' := Low H.n) (H' := H) hv.1 hv.2
  obtain ⟨ty, rw, cs⟩ := b
  subst hb
  refine KW.ldP hS1 hm1 rfl rfl rfl rfl rfl rfl ?_
  refine KW.callE rfl rfl rfl rfl rfl (within _ _ _) (fun _ _ => ?_)
  have e : IntKind.i64.wrap (p - 1) = p - 1 := wr (by have := hp.1; omega) (by have := hp.2; omega)
  refine KW.ret rfl rfl rfl rfl ?_
  rw [e]; rfl
theorem areElements (p : Int) (hp : I64 p) {a c} {xs : List Int} (hl : xs.length ≤ 4611686018427387904) (hs : KI.Sl S H0 (.slice a xs.length c) xs) : Spec Try.prog S H0 143 [.int .i64 p, .slice a xs.length c] (fun v => v = .bool (tv (PrimeP p ∧ Elems p xs))) := by
  refine Spec.of1 Try.func143 rfl (by kernel_rfl) rfl (fun H _ => ?_)
  refine KW.callE rfl rfl rfl rfl rfl (isPrime p) (fun _ _ => ?_)
  refine KW.tstB rfl rfl (fun h => ?_) (fun h => ?_)
  · have h := tv_iff.1 h
    refine KW.callV1 rfl rfl rfl rfl rfl (fun H1 g _ => containsFuncI (p := fun y => !decide (0 ≤ y ∧ y ≤ p - 1)) hl hs.up (fun S' H' o y _ => areElements1 p y hp (by have := h.1; omega) rfl (g.var (j := 0) rfl))) (fun _ _ => ?_)
    refine KW.ret rfl rfl rfl rfl ?_
    show Value.bool (!tv (∃ x ∈ xs, (!decide (0 ≤ x ∧ x ≤ p - 1)) = true)) = _
    by_cases hx : Elems p xs
    · rw [tv_true (p := PrimeP p ∧ Elems p xs) ⟨h, hx⟩, tv_false (fun ⟨x, h1, h2⟩ => by have := hx x h1; simp at h2; omega)]; rfl
    · rw [tv_false (p := PrimeP p ∧ Elems p xs) (fun hc => hx hc.2), tv_true ?_]; · rfl
      refine Classical.byContradiction fun hc => hx fun x h1 => ?_
      refine Classical.byContradiction fun h2 => hc ⟨x, h1, by simp; omega⟩
  · exact KW.ret rfl rfl rfl rfl (by rw [tv_false (p := PrimeP p ∧ Elems p xs) (fun hc => by rw [tv_true hc.1] at h; cases h)]; rfl)
end
/-- A matrix that is valid. -/
structure OkMat (p c : Int) (rows : List (List Int)) : Prop where
  pr : PrimeP p
  c0 : 0 ≤ c
  c1 : c ≤ 12
  len : rows.length ≤ 20
  row : ∀ r ∈ rows, (r.length : Int) = c ∧ Elems p r
theorem tvn {q : Prop} {b : Bool} (h : b = false) (h' : q → b = true) : Value.bool false = .bool (tv q) := by rw [tv_false (fun hq => by rw [h' hq] at h; cases h)]
section
variable {S : Ids} {H0 : AH}
theorem validMatrix1 (p c : Int) (hp : I64 p) {y : List Int} (hl : y.length ≤ 1048576) {a m} (hs : KI.Sl S H0 (.slice a y.length m) y) {id : Nat} {b : Blk} {v : Value} (hb : b.cells = [.int .i64 p, .int .i64 c, v]) (hv : S id ∧ H0.m id = some b) :
    Spec Try.prog S H0 196 [.slice a y.length m, .pointer (some ⟨id, 0, none⟩)] (fun v => v = .bool (!tv ((y.length : Int) = c ∧ (PrimeP p ∧ Elems p y)))) := by
  refine Spec.of1 Try.func196 rfl (by kernel_rfl) rfl (fun H _ => ?_)
  obtain ⟨hS1, hm1⟩ := On.blk (S' := Low H.n) (H' := H) hv.1 hv.2
  obtain ⟨ty, rw, cs⟩ := b
  subst hb
  refine KW.ldP hS1 hm1 rfl rfl rfl rfl rfl rfl ?_
  refine KW.tstB rfl rfl (fun h => ?_) (fun h => ?_)
  · exact KW.ret rfl rfl rfl rfl (by rw [tv_false (p := (y.length : Int) = c ∧ (PrimeP p ∧ Elems p y)) (fun hc => by rw [hc.1] at h; simp at h)]; rfl)
  · have h : (y.length : Int) = c := by simpa using h
    refine KW.ldP hS1 hm1 rfl rfl rfl rfl rfl rfl ?_
    refine KW.callE rfl rfl rfl rfl rfl (areElements p hp (by omega) hs.up) (fun _ _ => ?_)
    refine KW.ret rfl rfl rfl rfl ?_
    rw [tv_congr (q := (y.length : Int) = c ∧ (PrimeP p ∧ Elems p y)) ⟨fun hx => ⟨h, hx⟩, fun hx => hx.2⟩]; rfl
theorem validMatrix (p c : Int) (hp : I64 p) {a m} {rows : List (List Int)} (hB : B_Int64SS rows) (hs : KI.sl.Sl S H0 (.slice a rows.length m) rows) :
    Spec Try.prog S H0 103 [.agg #[.int .i64 p, .int .i64 c, .slice a rows.length m]] (fun v => v = .bool (tv (OkMat p c rows))) := by
  refine Spec.of1 Try.func103 rfl (by kernel_rfl) rfl (fun H _ => ?_)
  refine KW.callE rfl rfl rfl rfl rfl (isPrime p) (fun _ _ => ?_)
  refine KW.tstB rfl rfl (fun h1 => ?_) (fun h1 => ?_)
  · have k1 := tv_iff.1 h1
    refine KW.callE rfl rfl rfl rfl rfl (within _ _ _) (fun _ _ => ?_)
    refine KW.tstB rfl rfl (fun h2 => ?_) (fun h2 => ?_)
    · have k2 : 0 ≤ c ∧ c ≤ 12 := by simpa using h2
      refine KW.tst rfl rfl (fun h3 => ?_) (fun h3 => ?_)
      · have h3 : (rows.length : Int) ≤ 20 := h3
        refine KW.callV1 rfl rfl rfl rfl rfl (fun H1 g _ => containsFuncL (p := fun y => !tv ((y.length : Int) = c ∧ (PrimeP p ∧ Elems p y))) (by omega) hs.up (fun S' H' o y hy a c hsy => validMatrix1 p _ hp (hB.each y hy) hsy rfl (g.var (j := 0) rfl))) (fun _ _ => ?_)
        refine KW.ret rfl rfl rfl rfl ?_
        show Value.bool (!tv (∃ x ∈ rows, (!tv ((x.length : Int) = c ∧ (PrimeP p ∧ Elems p x))) = true)) = _
        by_cases hx : OkMat p c rows
        · rw [tv_true hx, tv_false (fun ⟨x, h1, h2⟩ => by rw [tv_true ⟨(hx.row x h1).1, k1, (hx.row x h1).2⟩] at h2; cases h2)]; rfl
        · rw [tv_false hx, tv_true ?_]; · rfl
          refine Classical.byContradiction fun hc => hx ⟨k1, k2.1, k2.2, by omega, fun x h1 => ?_⟩
          refine Classical.byContradiction fun h2 => hc ⟨x, h1, by rw [tv_false (fun h => h2 ⟨h.1, h.2.2⟩)]; rfl⟩
      · have h3 : ¬ (rows.length : Int) ≤ 20 := h3
        exact KW.ret rfl rfl rfl rfl (by rw [tv_false (p := OkMat p c rows) (fun hc => by have := hc.len; omega)]; rfl)
    · have k2 : ¬ (0 ≤ c ∧ c ≤ 12) := by simpa using h2
      repeat first | refine KW.tT rfl rfl rfl ?_ | refine KW.tF rfl rfl rfl ?_
      exact KW.ret rfl rfl rfl rfl (by rw [tv_false (p := OkMat p c rows) (fun hc => k2 ⟨hc.c0, hc.c1⟩)]; rfl)
  · repeat first | refine KW.tT rfl rfl rfl ?_ | refine KW.tF rfl rfl rfl ?_
    exact KW.ret rfl rfl rfl rfl (by rw [tv_false (p := OkMat p c rows) (fun hc => by rw [tv_true hc.pr] at h1; cases h1)]; rfl)
theorem l03Row (p c : Int) (hp : I64 (p - 1)) {a m} {xs : List Int} (hl : xs.length ≤ 1048576) (hs : KI.Sl S H0 (.slice a xs.length m) xs) :
    Spec Try.prog S H0 192 [.int .i64 p, .int .i64 c, .slice a xs.length m] (fun v => v = .bool (tv ((xs.length : Int) = c ∧ Elems p xs))) := by
  refine Spec.of1 Try.func192 rfl (by kernel_rfl) rfl (fun H _ => ?_)
  have ep : IntKind.i64.wrap (p - 1) = p - 1 := wr (by have := hp.1; omega) (by have := hp.2; omega)
  refine KW.lp rfl rfl (fun i : Nat => [(0, .int .i64 p), (1, .int .i64 c), (2, .slice a xs.length m), (7, .int .i64 i)]) (fun i => i ≤ xs.length ∧ ∀ j, j < i → ∀ x, xs[j]? = some x → 0 ≤ x ∧ x ≤ p - 1) (fun i => xs.length - i) (0) (⟨by omega, fun j h => absurd h (by omega)⟩) ⟨rfl, rfl, rfl, rfl, trivial⟩ (fun i hi bE n => ?_)
  obtain ⟨hi, hj⟩ := hi
  refine KW.cnd rfl rfl (fun h => ?_) (fun h => ?_)
  · refine KW.getI hs.up rfl rfl rfl rfl rfl rfl rfl rfl rfl rfl rfl rfl rfl rfl rfl rfl (by omega) (h) (fun y hy => ?_)
    have hy : xs[i]? = some y := hy
    refine KW.callE rfl rfl rfl rfl rfl (l00In _ _ _) (fun _ _ => ?_)
    rw [ep]
    refine KW.cndB rfl rfl (fun h2 => ?_) (fun h2 => ?_)
    · have h2 : ¬ (0 ≤ y ∧ y ≤ p - 1) := by simp at h2; omega
      exact KW.ret rfl rfl rfl rfl (by rw [tv_false (p := (xs.length : Int) = c ∧ Elems p xs) (fun hc => h2 (hc.2 y (List.mem_of_getElem? hy)))]; rfl)
    · refine KW.nxt rfl rfl (fun H' g => ⟨i + 1, ⟨by omega, upto hj (fun z hz => by rw [hy] at hz; cases hz; simpa using h2)⟩, by first | omega | (simp only; omega), ⟨rfl, rfl, rfl, congrArg (Value.int .i64) (inc64 (by omega)), trivial⟩, g⟩)
  · refine KW.ret rfl rfl rfl rfl ?_
    show Value.bool (((xs.length : Nat) : Int) == c) = _
    congr 1
    have hE : Elems p xs := fun x hx => by
      obtain ⟨j, hjx⟩ := List.getElem?_of_mem hx
      exact hj j (by have := (List.getElem?_eq_some_iff.1 hjx).1; omega) x hjx
    by_cases hc : ((xs.length : Nat) : Int) = c
    · rw [tv_true ⟨hc, hE⟩, hc]; simp
    · rw [tv_false (fun h => hc h.1)]; simpa using hc
end
/-- A block that has so and so standing from a place on. -/
def Has3 (S : Ids) (H : AH) (id k : Nat) (vs : List Value) : Prop := S id ∧ ∃ b, H.m id = some b ∧ ∀ i v, vs[i]? = some v → b.cells[k + i]? = some v
theorem Has3.up {S S' : Ids} {H H' : AH} {id k : Nat} {vs : List Value} [o : On S H S' H'] (h : Has3 S H id k vs) : Has3 S' H' id k vs := by
  obtain ⟨h1, b, h2, h3⟩ := h
  obtain ⟨h4, h5⟩ := On.blk (S' := S') (H' := H') h1 h2
  exact ⟨h4, b, h5, h3⟩
section
variable {P : Program} {S : Ids} {H0 : AH} {Q : PostC} {k k1 : List It} {e e1 : Env} {T T1 : List Var} {n n1 : Nat} {l1 r1 : List Nat} {d1 : Tmp}
/-- A field is read by a pointer. -/
theorem KW.ldF {o : Oper} {dr : Bool} {t : TypeId} {x : Operand} {id kk k0 : Nat} {vs : List Value} {sp : Option Nat} {v : Value} {td : TypeDesc} (i : Nat) (hv : Has3 S H0 id k0 vs) (h : Go1 P k e T n (.op o dr) k1 e1 T1 n1 l1 r1) (hlr : l1 = r1) (ho : o.op = .load t x) (hd : o.dst = some d1) (hx : ev e1 x = .pointer (some ⟨id, kk, sp⟩)) (hk0 : kk = k0 + i) (hi : vs[i]? = some v)
    (hu : P.underlying t = some td) (hnot : (match td with | .struct _ => false | .array _ _ => false | _ => true) = true) (hk : KW P S H0 Q n1 T1 k1 (put1 e1 d1 v)) : KW P S H0 Q n T k e := by
  obtain ⟨hS, b, hm, hc⟩ := hv
  exact KW.ldP hS hm h hlr ho hd hx (bload_at (by rw [hk0]; exact hc i v hi) hu hnot) hk
end
section
variable {S : Ids} {H0 : AH}
theorem l03Ok (p c : Int) (hp : I64 p) {id k : Nat} {a m} {rows : List (List Int)} (hB : B_Int64SS rows) (hv : Has3 S H0 id k [.int .i64 p, .int .i64 c, .slice a rows.length m]) (hs : KI.sl.Sl S H0 (.slice a rows.length m) rows) :
    Spec Try.prog S H0 100 [.pointer (some ⟨id, k, none⟩)] (fun v => v = .bool (tv (OkMat p c rows))) := by
  refine Spec.of1 Try.func100 rfl (by kernel_rfl) rfl (fun H _ => ?_)
  have hv := hv.up (S' := Low H.n) (H' := H)
  have hs := hs.up (S' := Low H.n) (H' := H)
  refine KW.ldF 0 hv rfl rfl rfl rfl rfl rfl rfl rfl rfl ?_
  refine KW.callE rfl rfl rfl rfl rfl (specIsPrime p) (fun _ _ => ?_)
  refine KW.tstB rfl rfl (fun h1 => ?_) (fun h1 => ?_)
  · repeat first | refine KW.tT rfl rfl rfl ?_ | refine KW.tF rfl rfl rfl ?_
    refine KW.cT rfl rfl (by first | (simp; done) | decide) ?_
    exact KW.ret rfl rfl rfl rfl (by rw [tv_false (p := OkMat p c rows) (fun hc => by rw [tv_true hc.pr] at h1; cases h1)]; rfl)
  have k1 : PrimeP p := tv_iff.1 (by simpa using h1)
  refine KW.ldF 1 hv rfl rfl rfl rfl rfl rfl rfl rfl rfl ?_
  refine KW.callE rfl rfl rfl rfl rfl (l00In _ _ _) (fun _ _ => ?_)
  refine KW.tstB rfl rfl (fun h2 => ?_) (fun h2 => ?_)
  · have k2 : ¬ (0 ≤ c ∧ c ≤ 12) := by simp at h2; omega
    repeat first | refine KW.tT rfl rfl rfl ?_ | refine KW.tF rfl rfl rfl ?_
    refine KW.cT rfl rfl (by first | (simp; done) | decide) ?_
    exact KW.ret rfl rfl rfl rfl (by rw [tv_false (p := OkMat p c rows) (fun hc => k2 ⟨hc.c0, hc.c1⟩)]; rfl)
  have k2 : 0 ≤ c ∧ c ≤ 12 := by simpa using h2
  refine KW.ldF 2 hv rfl rfl rfl rfl rfl rfl rfl rfl rfl ?_
  refine KW.cnd rfl rfl (fun h3 => ?_) (fun h3 => ?_)
  · have h3 : (rows.length : Int) > 20 := h3
    exact KW.ret rfl rfl rfl rfl (by rw [tv_false (p := OkMat p c rows) (fun hc => by have := hc.len; omega)]; rfl)
  have h3 : ¬ (rows.length : Int) > 20 := h3
  refine KW.lp rfl rfl (fun i : Nat => [(0, .pointer (some ⟨id, k, none⟩)), (3, .int .i64 i)]) (fun i => i ≤ rows.length ∧ ∀ j, j < i → ∀ x, rows[j]? = some x → (x.length : Int) = c ∧ Elems p x) (fun i => rows.length - i) (0) (⟨by omega, fun j h => absurd h (by omega)⟩) ⟨rfl, rfl, trivial⟩ (fun i hi bE n => ?_)
  obtain ⟨hi, hj⟩ := hi
  refine KW.ldF 2 hv rfl rfl rfl rfl rfl rfl rfl rfl rfl ?_
  refine KW.cnd rfl rfl (fun h => ?_) (fun h => ?_)
  · refine KW.ldF 0 hv rfl rfl rfl rfl rfl rfl rfl rfl rfl ?_
    refine KW.ldF 1 hv rfl rfl rfl rfl rfl rfl rfl rfl rfl ?_
    refine KW.ldF 2 hv rfl rfl rfl rfl rfl rfl rfl rfl rfl ?_
    refine KW.getL hs.up rfl rfl rfl rfl rfl rfl rfl rfl rfl rfl rfl rfl rfl rfl rfl rfl (by omega) (h) (fun y a' m' hy hsy => ?_)
    have hy : rows[i]? = some y := hy
    refine KW.callE rfl rfl rfl rfl rfl (l03Row p c (by unfold I64 at *; have := k1.1; omega) (hB.each y (List.mem_of_getElem? hy)) hsy) (fun _ _ => ?_)
    refine KW.cndB rfl rfl (fun h4 => ?_) (fun h4 => ?_)
    · exact KW.ret rfl rfl rfl rfl (by rw [tv_false (p := OkMat p c rows) (fun hc => by rw [tv_true (hc.row y (List.mem_of_getElem? hy))] at h4; cases h4)]; rfl)
    · have h4 := tv_iff.1 (by simpa using h4)
      refine KW.nxt rfl rfl (fun H' g => ⟨i + 1, ⟨by omega, upto hj (fun z hz => by rw [hy] at hz; cases hz; exact h4)⟩, by first | omega | (simp only; omega), ⟨rfl, congrArg (Value.int .i64) (inc64 (by omega)), trivial⟩, g⟩)
  · have hE : ∀ x ∈ rows, (x.length : Int) = c ∧ Elems p x := fun x hx => by
      obtain ⟨j, hjx⟩ := List.getElem?_of_mem hx
      exact hj j (by have := (List.getElem?_eq_some_iff.1 hjx).1; omega) x hjx
    exact KW.ret rfl rfl rfl rfl (by rw [tv_true (p := OkMat p c rows) ⟨k1, k2.1, k2.2, by omega, hE⟩]; rfl)
end
end Go.Proofs.Ytmkpfllbmdahkaa.Am
/- Contracts: FirstMisfit, of the program and of the reference. Each holds under its own conditions. -/
set_option linter.unusedVariables false
set_option maxRecDepth 20000
namespace Go.Proofs.Ytmkpfllbmdahkaa.Am
open Go Go.RowKit Go.Proofs
/-- What both return: two groups and a code. -/
def FmR (m u : Int) (l : List Int) (h : Int) (gs : List (List Int)) (g0 g1 : List Int) (code : Int) : Prop :=
  (¬ fitC m u l h gs = 0 ∧ g0 = [] ∧ g1 = [] ∧ code = fitC m u l h gs) ∨
  (fitC m u l h gs = 0 ∧ ∃ a b f, Fst l u gs a b f ∧ ((f = false ∧ g0 = [] ∧ g1 = [] ∧ code = 6) ∨ (f = true ∧ g0 = hold a 7 ∧ g1 = hold b 7 ∧ code = 0)))
theorem FmR.one {m u : Int} {l : List Int} {h : Int} {gs : List (List Int)} {g0 g1 g0' g1' : List Int} {code code' : Int} (p : FmR m u l h gs g0 g1 code) (q : FmR m u l h gs g0' g1' code') : g0 = g0' ∧ g1 = g1' ∧ code = code' := by
  rcases p with ⟨h0, rfl, rfl, rfl⟩ | ⟨h0, a, b, f, hf, p⟩ <;> rcases q with ⟨k0, rfl, rfl, rfl⟩ | ⟨k0, a', b', f', kf, q⟩
  · exact ⟨rfl, rfl, rfl⟩
  · exact absurd k0 h0
  · exact absurd h0 k0
  · obtain ⟨rfl, rfl, rfl⟩ := hf.one kf
    rcases p with ⟨rfl, rfl, rfl, rfl⟩ | ⟨rfl, rfl, rfl, rfl⟩ <;> rcases q with ⟨e, rfl, rfl, rfl⟩ | ⟨e, rfl, rfl, rfl⟩ <;> first | exact ⟨rfl, rfl, rfl⟩ | cases e
theorem FmR.len {m u : Int} {l : List Int} {h : Int} {gs : List (List Int)} {g0 g1 : List Int} {code : Int} (p : FmR m u l h gs g0 g1 code) : g0.length ≤ 7 ∧ g1.length ≤ 7 := by
  rcases p with ⟨h0, rfl, rfl, rfl⟩ | ⟨h0, a, b, f, hf, ⟨rfl, rfl, rfl, rfl⟩ | ⟨rfl, rfl, rfl, rfl⟩⟩ <;> first | exact ⟨by simp, by simp⟩ | exact ⟨hold_len _ _, hold_len _ _⟩
/-- Two groups apart from each other, and a code. -/
def GgPost (p : List Int → List Int → Int → Prop) (n : Nat) (v : Value) (H1 : AH) : Prop :=
  ∃ (g0 g1 : List Int) (code : Int) (a0 : Option Addr) (c0 : Nat) (a1 : Option Addr) (c1 : Nat) (S0 S1 : Ids), v = .tuple #[.slice a0 g0.length c0, .slice a1 g1.length c1, .int .i64 code] ∧ p g0 g1 code ∧ KI.Ml S0 H1 (.slice a0 g0.length c0) g0 ∧ KI.Ml S1 H1 (.slice a1 g1.length c1) g1 ∧
    (∀ id, S0 id → New n H1.n id) ∧ (∀ id, S1 id → New n H1.n id) ∧ ∀ id, S0 id → S1 id → False
section
variable {S : Ids} {H0 : AH}
end
end Go.Proofs.Ytmkpfllbmdahkaa.Am
/- What has been held, at rows of numbers. Each holds under its own conditions. -/
set_option linter.unusedVariables false
set_option maxRecDepth 20000
namespace Go.Proofs.Ytmkpfllbmdahkaa.Am
open Go Go.RowKit Go.Proofs
section
variable {S : Ids} {H0 : AH} {W : Ids} {a a' : Option Addr} {c c' : Nat} {left k : Int}
theorem held_Int64S {x : List Int} (hB : B_Int64S x) (hk : Mk k (sz_Int64S x)) (hs : K_Int64S.R S H0 (mk_Int64S k x) [.slice a (mk_Int64S k x).length c]) : Spec Try.prog S H0 34 [.slice a (mk_Int64S k x).length c, .int .i64 k] (fun v => v = .int .i64 (k + sz_Int64S x)) := heldInt64S (by show x.length ≤ _; have : x.length ≤ 1048576 := hB; omega) ⟨hk.1, by have := hk.2; omega⟩ (sl1 hs)
theorem held_Int64SS {x : List (List Int)} (hB : B_Int64SS x) (hk : Mk k (sz_Int64SS x)) (hs : K_Int64SS.R S H0 (mk_Int64SS k x) [.slice a (mk_Int64SS k x).length c]) : Spec Try.prog S H0 165 [.slice a (mk_Int64SS k x).length c, .int .i64 k] (fun v => v = .int .i64 (k + sz_Int64SS x)) := by
  have hs := sl1 hs
  have hn : (mk_Int64SS k x).length = x.length := mks_len _ _ _ _
  have hxl : x.length ≤ 1048576 := hB.len
  refine Spec.of1 Try.func165 rfl (by kernel_rfl) rfl (fun H _ => ?_)
  refine KW.lp rfl rfl (fun i : Nat => [(0, .slice a (mk_Int64SS k x).length c), (1, .int .i64 (k + sum ((x.map sz_Int64S).take i))), (5, .int .i64 i)]) (fun i => i ≤ x.length) (fun i => x.length - i) (0) (by omega) ⟨rfl, congrArg (Value.int .i64) (by simp [sum]), rfl, trivial⟩ (fun i hi bE n => ?_)
  have hsl := sum_le (l := x.map sz_Int64S) i
  have hk1 := hk.1
  have hk2 : k + (sum (x.map sz_Int64S) : Nat) ≤ 274877906944 := hk.2
  refine KW.cnd rfl rfl (fun h => ?_) (fun h => ?_)
  · refine KW.getL hs.up rfl rfl rfl rfl rfl rfl rfl rfl rfl rfl rfl rfl rfl rfl rfl rfl (by omega) (by omega) (fun y a' m hy hsy => ?_)
    have hy : (mk_Int64SS k x)[i]? = some y := hy
    obtain ⟨z, hz⟩ : ∃ z, x[i]? = some z := ⟨x[i]'(by omega), List.getElem?_eq_getElem (by omega)⟩
    rw [mks_at k hz] at hy
    cases hy
    have hzl : (x.map sz_Int64S)[i]? = some (sz_Int64S z) := by simp [hz]
    have hsum := sum_take hzl
    have hsl1 := sum_le (l := x.map sz_Int64S) (i + 1)
    refine KW.callE rfl rfl rfl rfl rfl (held_Int64S (hB.each z (List.mem_of_getElem? hz)) (by constructor <;> omega) (sl1' hsy)) (fun _ _ => ?_)
    refine KW.no rfl rfl (by omega) ?_
    refine KW.nxt rfl rfl (fun H' g => ⟨i + 1, by omega, by first | omega | (simp only; omega), ⟨rfl, congrArg (Value.int .i64) (by rw [hsum]; omega), congrArg (Value.int .i64) (inc64 (by omega)), trivial⟩, g⟩)
  · refine KW.ret rfl rfl rfl rfl (congrArg (Value.int .i64) ?_)
    obtain rfl : i = x.length := by omega
    rw [List.take_of_length_le (by simp)]
theorem held_Int64S' {x : List Int} (hB : B_Int64S x) (hk : Mk k (sz_Int64S x)) (hs : K_Int64S.R S H0 (mk_Int64S k x) [.slice a x.length c]) : Spec Try.prog S H0 34 [.slice a x.length c, .int .i64 k] (fun v => v = .int .i64 (k + sz_Int64S x)) := by
  have e : (mk_Int64S k x).length = x.length := cnt_len _ _
  rw [← e] at hs ⊢
  exact held_Int64S hB hk hs
theorem held_Int64SS' {x : List (List Int)} (hB : B_Int64SS x) (hk : Mk k (sz_Int64SS x)) (hs : K_Int64SS.R S H0 (mk_Int64SS k x) [.slice a x.length c]) : Spec Try.prog S H0 165 [.slice a x.length c, .int .i64 k] (fun v => v = .int .i64 (k + sz_Int64SS x)) := by
  have e : (mk_Int64SS k x).length = x.length := mks_len _ _ _ _
  rw [← e] at hs ⊢
  exact held_Int64SS hB hk hs
end
end Go.Proofs.Ytmkpfllbmdahkaa.Am
/- What the laws' own functions do at Family: sizes, copies, equality, marks. Each holds under its own conditions. -/
set_option linter.unusedVariables false
set_option maxRecDepth 20000
namespace Go.Proofs.Ytmkpfllbmdahkaa.Am
open Go Go.RowKit Go.Proofs
abbrev T_Family : Type := (Int) × (List (List Int))
abbrev K_Family : Kn T_Family := Kn.pair (KI) (K_Int64SS)
abbrev M_Family : Kn T_Family := Kn.mp (KI) (M_Int64SS)
theorem le_Family : KLe M_Family K_Family := KLe.pair ((KLe.refl KI)) (le_Int64SS)
abbrev B_Family (x : T_Family) : Prop := I64 x.1 ∧ B_Int64SS x.2
abbrev W_Family (x : T_Family) : Prop := I64 x.1 ∧ W_Int64SS x.2
abbrev sz_Family (x : T_Family) : Nat := sz_Int64SS x.2
abbrev mk_Family (k : Int) (x : T_Family) : T_Family := (x.1, mk_Int64SS (k) x.2)
theorem size_Family {x : T_Family} (hB : B_Family x) : sz_Family x ≤ 1048576 := by have := size_Int64SS hB.2; simp only [sz_Family]; omega
section
variable {S : Ids} {H0 : AH} {W : Ids} {left k : Int}
theorem form_Family {x : T_Family} {cs : List Value} (h : K_Family.R S H0 x cs) : ∃ a1 c1, cs = [.int .i64 x.1, .slice a1 x.2.length c1] := by
  obtain ⟨e0, d0, rfl, h0, h0_⟩ := h
  have h1 := h0_
  obtain rfl := KI_of h0
  obtain ⟨a1, c1, rfl⟩ := slform h1
  exact ⟨a1, c1, rfl⟩
theorem formM_Family {x : T_Family} {cs : List Value} (h : M_Family.R S H0 x cs) : ∃ a1 c1, cs = [.int .i64 x.1, .slice a1 x.2.length c1] := form_Family (le_Family.2 _ _ _ _ h)
theorem split_Family {x : T_Family} {cs : List Value} (h : K_Family.R S H0 x cs) : ∃ a1 c1, cs = [.int .i64 x.1, .slice a1 x.2.length c1] ∧ K_Int64SS.R S H0 x.2 [.slice a1 x.2.length c1] := by
  obtain ⟨e0, d0, rfl, h0, h0_⟩ := h
  have h1 := h0_
  obtain rfl := KI_of h0
  obtain ⟨a1, c1, rfl⟩ := slform h1
  exact ⟨a1, c1, rfl, h1⟩
theorem splitM_Family {x : T_Family} {cs : List Value} (h : M_Family.R S H0 x cs) : ∃ (a1 : Option Addr) (c1 : Nat) (X1 : Ids), cs = [.int .i64 x.1, .slice a1 x.2.length c1] ∧ M_Int64SS.R X1 H0 x.2 [.slice a1 x.2.length c1] ∧ (∀ id, X1 id → S id) := by
  obtain ⟨e0, d0, X0, Y0, rfl, i0, j0, q0, h0, h0_⟩ := h
  have h1 := h0_
  obtain rfl := KI_of h0
  obtain ⟨a1, c1, rfl⟩ := mlform h1
  exact ⟨a1, c1, Y0, rfl, h1, fun _ p => j0 _ p⟩
theorem to_Family {x : T_Family} {cs : List Value} (hB : B_Family x) (h : K_Family.R S H0 x cs) : SpecM Try.prog S H0 68 [.agg cs.toArray] (fun n v H1 => ∃ cs, v = .agg cs.toArray ∧ M_Family.R (New n H1.n) H1 x cs) := by
  obtain ⟨a1, c1, rfl, h1⟩ := split_Family h
  refine SpecM.of1 Try.func68 rfl (by kernel_rfl) rfl (fun H _ => ?_)
  refine KW.callN1 rfl rfl rfl rfl rfl (to_Int64SS hB.2 (On.R h1)) (fun v G1 S1 m1 _ _ hv => ?_)
  obtain ⟨b1, d1, rfl, g1⟩ := hv
  refine KW.retM1 rfl rfl rfl rfl (fun H1 g => ?_)
  refine ⟨_, rfl, ?_⟩
  have k1 : M_Int64SS.R (New H.n H1.n) H1 x.2 [.slice b1 x.2.length d1] := (M_Int64SS).more (g.inn (H := G1) (fun _ p => by have := p.1; omega)) (g.keep g1)
  have k0 : (Kn.mp (KI) (M_Int64SS)).R (New H.n H1.n) H1 (x) [.int .i64 x.1, .slice b1 x.2.length d1] := mpR (X := None_) (show KI.R None_ H1 _ [.int .i64 x.1] from rfl) k1 (fun _ p => p.elim) (fun _ p => p) (fun _ p _ => p.elim)
  exact k0
theorem eq_Family {x : T_Family} {cs cs' : List Value} (hB : B_Family x) (h : K_Family.R S H0 x cs) (h' : K_Family.R S H0 x cs') : Spec Try.prog S H0 71 [.agg cs.toArray, .agg cs'.toArray] (fun v => v = .bool true) := by
  obtain ⟨a1, c1, rfl, h1⟩ := split_Family h
  obtain ⟨b1, d1, rfl, k1⟩ := split_Family h'
  refine Spec.of1 Try.func71 rfl (by kernel_rfl) rfl (fun H _ => ?_)
  refine KW.cF rfl rfl (by first | (simp; done) | decide) ?_
  refine KW.callE rfl rfl rfl rfl rfl (eq_Int64SS hB.2 (On.R h1) (On.R k1)) (fun _ _ => ?_)
  refine KW.cF rfl rfl (by first | (simp; done) | decide) ?_
  exact KW.ret rfl rfl rfl rfl (rfl)
theorem sz_Family' {x : T_Family} {cs : List Value} (l0 : 0 ≤ left) (l1 : left ≤ 1048576) (hW : W_Family x) (h : K_Family.R S H0 x cs) : Spec Try.prog S H0 66 [.agg cs.toArray, .int .i64 left] (SzPost left (B_Family x)) := by
  obtain ⟨a1, c1, rfl, h1⟩ := split_Family h
  refine Spec.of1 Try.func66 rfl (by kernel_rfl) rfl (fun H _ => ?_)
  refine KW.call rfl rfl rfl rfl rfl (sz_Int64SS' l0 l1 hW.2 (On.R h1)) (fun v _ _ hv => ?_)
  obtain ⟨r1, rfl, k1⟩ := hv
  refine KW.cnd rfl rfl (fun h => KW.ret rfl rfl rfl rfl ⟨-1, rfl, .inl rfl⟩) (fun h => ?_)
  have k1 := k1.resolve_left (by omega)
  exact KW.ret rfl rfl rfl rfl (⟨_, rfl, .inr ⟨k1.1, by have := k1.2.1; omega, hW.1, k1.2.2⟩⟩)
theorem mark_Family {x : T_Family} {cs : List Value} (hB : B_Family x) (hk : Mk k (sz_Family x)) (hW : ∀ id, W id → S id) (h : M_Family.R W H0 x cs) : SpecW Try.prog S H0 W 72 [.agg cs.toArray, .int .i64 k] (fun n v H1 => v = .int .i64 (k + (sz_Family x : Nat)) ∧ M_Family.R W H1 (mk_Family k x) cs) := by
  obtain ⟨a1, c1, X1, rfl, h1, i1⟩ := splitM_Family h
  refine SpecW.of0 Try.func72 rfl (by kernel_rfl) rfl (fun H hfin hfz => ?_)
  have F1 : Fk M_Int64SS X1 (Low H.n) H _ _ := ⟨(M_Int64SS).same (fun id hid => (hfz id (hW id (i1 id hid))).2) h1, fun id hid => (hfz id (hW id (i1 id hid))).1⟩
  have T : ∀ id, id < H.n → Low H.n id ∧ (¬ W id → H.m id = H.m id) := fun id hid => ⟨hid, fun _ => rfl⟩
  refine KW.callW F1.i rfl rfl rfl rfl rfl (mark_Int64SS hB.2 (k := k) (by have := hk.1; have := hk.2; simp only [sz_Family] at this; constructor <;> omega) F1.i F1.r) (fun v H1 S1 m1 t1 w1 hv => ?_)
  obtain ⟨rfl, g1⟩ := hv
  have F1 : Fk M_Int64SS X1 S1 H1 _ _ := ⟨g1, fun id hid => (t1 id (F1.i id hid)).1⟩
  have T : ∀ id, id < H.n → S1 id ∧ (¬ W id → H1.m id = H.m id) := fun id hid => ⟨(t1 id (T id hid).1).1, fun hw => ((t1 id (T id hid).1).2 (fun o => hw (i1 id o))).trans ((T id hid).2 hw)⟩
  refine KW.retW rfl rfl rfl rfl (fun H1 g => by have := g.n_; omega) (fun id hid hw => ⟨(T id hid).1, (T id hid).2 hw⟩) (fun H1 g => ?_)
  refine ⟨rfl, ?_⟩
  have G1 := (M_Int64SS).same (H' := H1) (fun id hid => (g.froz id (F1.i id hid)).2) F1.r
  have k1 : M_Int64SS.R (fun id => X1 id) H1 (mk_Int64SS (k) x.2) [.slice a1 x.2.length c1] := G1
  have k0 : (Kn.mp (KI) (M_Int64SS)).R (fun id => X1 id) H1 (x.1, (mk_Int64SS (k) x.2)) [.int .i64 x.1, .slice a1 x.2.length c1] := mpR (X := None_) (show KI.R None_ H1 _ [.int .i64 x.1] from rfl) k1 (fun _ p => p.elim) (fun _ p => p) (fun _ p _ => p.elim)
  exact (M_Family).more (fun id p => i1 id p) k0
theorem held_Family {x : T_Family} {cs : List Value} (hB : B_Family x) (hk : Mk k (sz_Family x)) (h : K_Family.R S H0 (mk_Family k x) cs) : Spec Try.prog S H0 79 [.agg cs.toArray, .int .i64 k] (fun v => v = .int .i64 (k + (sz_Family x : Nat))) := by
  obtain ⟨a1, c1, rfl, h1⟩ := split_Family h
  refine Spec.of1 Try.func79 rfl (by kernel_rfl) rfl (fun H _ => ?_)
  refine KW.callE rfl rfl rfl rfl rfl (held_Int64SS hB.2 (k := k) (by have := hk.1; have := hk.2; simp only [sz_Family] at this; constructor <;> omega) (On.R h1)) (fun _ _ => ?_)
  refine KW.no rfl rfl (by have := hk.1; omega) ?_
  exact KW.ret rfl rfl rfl rfl (rfl)
end
end Go.Proofs.Ytmkpfllbmdahkaa.Am
/- What the laws' own functions do at Sequence: sizes, copies, equality, marks. Each holds under its own conditions. -/
set_option linter.unusedVariables false
set_option maxRecDepth 20000
namespace Go.Proofs.Ytmkpfllbmdahkaa.Am
open Go Go.RowKit Go.Proofs
abbrev T_Sequence : Type := (List Int) × (List (List Int)) × (List (List Int))
abbrev K_Sequence : Kn T_Sequence := Kn.pair (K_Int64S) (Kn.pair (K_Int64SS) (K_Int64SS))
abbrev M_Sequence : Kn T_Sequence := Kn.mp (M_Int64S) (Kn.mp (M_Int64SS) (M_Int64SS))
theorem le_Sequence : KLe M_Sequence K_Sequence := KLe.pair (le_Int64S) (KLe.pair (le_Int64SS) (le_Int64SS))
abbrev B_Sequence (x : T_Sequence) : Prop := B_Int64S x.1 ∧ B_Int64SS x.2.1 ∧ B_Int64SS x.2.2
abbrev W_Sequence (x : T_Sequence) : Prop := W_Int64S x.1 ∧ W_Int64SS x.2.1 ∧ W_Int64SS x.2.2
abbrev sz_Sequence (x : T_Sequence) : Nat := sz_Int64S x.1 + sz_Int64SS x.2.1 + sz_Int64SS x.2.2
abbrev mk_Sequence (k : Int) (x : T_Sequence) : T_Sequence := (mk_Int64S (k) x.1, mk_Int64SS (k + (sz_Int64S x.1 : Nat)) x.2.1, mk_Int64SS (k + (sz_Int64S x.1 : Nat) + (sz_Int64SS x.2.1 : Nat)) x.2.2)
theorem size_Sequence {x : T_Sequence} (hB : B_Sequence x) : sz_Sequence x ≤ 3145728 := by have := size_Int64S hB.1; have := size_Int64SS hB.2.1; have := size_Int64SS hB.2.2; simp only [sz_Sequence]; omega
section
variable {S : Ids} {H0 : AH} {W : Ids} {left k : Int}
theorem form_Sequence {x : T_Sequence} {cs : List Value} (h : K_Sequence.R S H0 x cs) : ∃ a1 c1 a2 c2 a3 c3, cs = [.slice a1 x.1.length c1, .slice a2 x.2.1.length c2, .slice a3 x.2.2.length c3] := by
  obtain ⟨e0, d0, rfl, h0, h0_⟩ := h
  obtain ⟨e1, d1, rfl, h1, h1_⟩ := h0_
  have h2 := h1_
  obtain ⟨a1, c1, rfl⟩ := slform h0
  obtain ⟨a2, c2, rfl⟩ := slform h1
  obtain ⟨a3, c3, rfl⟩ := slform h2
  exact ⟨a1, c1, a2, c2, a3, c3, rfl⟩
theorem formM_Sequence {x : T_Sequence} {cs : List Value} (h : M_Sequence.R S H0 x cs) : ∃ a1 c1 a2 c2 a3 c3, cs = [.slice a1 x.1.length c1, .slice a2 x.2.1.length c2, .slice a3 x.2.2.length c3] := form_Sequence (le_Sequence.2 _ _ _ _ h)
theorem split_Sequence {x : T_Sequence} {cs : List Value} (h : K_Sequence.R S H0 x cs) : ∃ a1 c1 a2 c2 a3 c3, cs = [.slice a1 x.1.length c1, .slice a2 x.2.1.length c2, .slice a3 x.2.2.length c3] ∧ K_Int64S.R S H0 x.1 [.slice a1 x.1.length c1] ∧ K_Int64SS.R S H0 x.2.1 [.slice a2 x.2.1.length c2] ∧ K_Int64SS.R S H0 x.2.2 [.slice a3 x.2.2.length c3] := by
  obtain ⟨e0, d0, rfl, h0, h0_⟩ := h
  obtain ⟨e1, d1, rfl, h1, h1_⟩ := h0_
  have h2 := h1_
  obtain ⟨a1, c1, rfl⟩ := slform h0
  obtain ⟨a2, c2, rfl⟩ := slform h1
  obtain ⟨a3, c3, rfl⟩ := slform h2
  exact ⟨a1, c1, a2, c2, a3, c3, rfl, h0, h1, h2⟩
theorem splitM_Sequence {x : T_Sequence} {cs : List Value} (h : M_Sequence.R S H0 x cs) : ∃ (a1 : Option Addr) (c1 : Nat) (a2 : Option Addr) (c2 : Nat) (a3 : Option Addr) (c3 : Nat) (X0 : Ids) (X1 : Ids) (X2 : Ids), cs = [.slice a1 x.1.length c1, .slice a2 x.2.1.length c2, .slice a3 x.2.2.length c3] ∧ M_Int64S.R X0 H0 x.1 [.slice a1 x.1.length c1] ∧ M_Int64SS.R X1 H0 x.2.1 [.slice a2 x.2.1.length c2] ∧ M_Int64SS.R X2 H0 x.2.2 [.slice a3 x.2.2.length c3] ∧ (∀ id, X0 id → S id) ∧ (∀ id, X1 id → S id) ∧ (∀ id, X2 id → S id) ∧ (∀ id, X0 id → X1 id → False) ∧ (∀ id, X0 id → X2 id → False) ∧ (∀ id, X1 id → X2 id → False) := by
  obtain ⟨e0, d0, X0, Y0, rfl, i0, j0, q0, h0, h0_⟩ := h
  obtain ⟨e1, d1, X1, Y1, rfl, i1, j1, q1, h1, h1_⟩ := h0_
  have h2 := h1_
  obtain ⟨a1, c1, rfl⟩ := mlform h0
  obtain ⟨a2, c2, rfl⟩ := mlform h1
  obtain ⟨a3, c3, rfl⟩ := mlform h2
  exact ⟨a1, c1, a2, c2, a3, c3, X0, X1, Y1, rfl, h0, h1, h2, fun _ p => i0 _ p, fun _ p => j0 _ (i1 _ p), fun _ p => j0 _ (j1 _ p), fun _ o p => q0 _ o (i1 _ p), fun _ o p => q0 _ o (j1 _ p), fun _ o p => q1 _ o (p)⟩
theorem eq_Sequence {x : T_Sequence} {cs cs' : List Value} (hB : B_Sequence x) (h : K_Sequence.R S H0 x cs) (h' : K_Sequence.R S H0 x cs') : Spec Try.prog S H0 70 [.agg cs.toArray, .agg cs'.toArray] (fun v => v = .bool true) := by
  obtain ⟨a1, c1, a2, c2, a3, c3, rfl, h0, h1, h2⟩ := split_Sequence h
  obtain ⟨b1, d1, b2, d2, b3, d3, rfl, k0, k1, k2⟩ := split_Sequence h'
  refine Spec.of1 Try.func70 rfl (by kernel_rfl) rfl (fun H _ => ?_)
  refine KW.callE rfl rfl rfl rfl rfl (eq_Int64S hB.1 (On.R h0) (On.R k0)) (fun _ _ => ?_)
  refine KW.cF rfl rfl (by first | (simp; done) | decide) ?_
  refine KW.callE rfl rfl rfl rfl rfl (eq_Int64SS hB.2.1 (On.R h1) (On.R k1)) (fun _ _ => ?_)
  refine KW.cF rfl rfl (by first | (simp; done) | decide) ?_
  refine KW.callE rfl rfl rfl rfl rfl (eq_Int64SS hB.2.2 (On.R h2) (On.R k2)) (fun _ _ => ?_)
  refine KW.cF rfl rfl (by first | (simp; done) | decide) ?_
  exact KW.ret rfl rfl rfl rfl (rfl)
theorem mark_Sequence {x : T_Sequence} {cs : List Value} (hB : B_Sequence x) (hk : Mk k (sz_Sequence x)) (hW : ∀ id, W id → S id) (h : M_Sequence.R W H0 x cs) : SpecW Try.prog S H0 W 73 [.agg cs.toArray, .int .i64 k] (fun n v H1 => v = .int .i64 (k + (sz_Sequence x : Nat)) ∧ M_Sequence.R W H1 (mk_Sequence k x) cs) := by
  obtain ⟨a1, c1, a2, c2, a3, c3, X0, X1, X2, rfl, h0, h1, h2, i0, i1, i2, q0_1, q0_2, q1_2⟩ := splitM_Sequence h
  refine SpecW.of0 Try.func73 rfl (by kernel_rfl) rfl (fun H hfin hfz => ?_)
  have F0 : Fk M_Int64S X0 (Low H.n) H _ _ := ⟨(M_Int64S).same (fun id hid => (hfz id (hW id (i0 id hid))).2) h0, fun id hid => (hfz id (hW id (i0 id hid))).1⟩
  have F1 : Fk M_Int64SS X1 (Low H.n) H _ _ := ⟨(M_Int64SS).same (fun id hid => (hfz id (hW id (i1 id hid))).2) h1, fun id hid => (hfz id (hW id (i1 id hid))).1⟩
  have F2 : Fk M_Int64SS X2 (Low H.n) H _ _ := ⟨(M_Int64SS).same (fun id hid => (hfz id (hW id (i2 id hid))).2) h2, fun id hid => (hfz id (hW id (i2 id hid))).1⟩
  have T : ∀ id, id < H.n → Low H.n id ∧ (¬ W id → H.m id = H.m id) := fun id hid => ⟨hid, fun _ => rfl⟩
  refine KW.callW F0.i rfl rfl rfl rfl rfl (mark_Int64S hB.1 (k := k) (by have := hk.1; have := hk.2; simp only [sz_Sequence] at this; constructor <;> omega) F0.i F0.r) (fun v H0 S0 m0 t0 w0 hv => ?_)
  obtain ⟨rfl, g0⟩ := hv
  have F0 : Fk M_Int64S X0 S0 H0 _ _ := ⟨g0, fun id hid => (t0 id (F0.i id hid)).1⟩
  have F1 := F1.w t0 (fun id p o => q0_1 id o p)
  have F2 := F2.w t0 (fun id p o => q0_2 id o p)
  have T : ∀ id, id < H.n → S0 id ∧ (¬ W id → H0.m id = H.m id) := fun id hid => ⟨(t0 id (T id hid).1).1, fun hw => ((t0 id (T id hid).1).2 (fun o => hw (i0 id o))).trans ((T id hid).2 hw)⟩
  refine KW.callW F1.i rfl rfl rfl rfl rfl (mark_Int64SS hB.2.1 (k := k + (sz_Int64S x.1 : Nat)) (by have := hk.1; have := hk.2; simp only [sz_Sequence] at this; constructor <;> omega) F1.i F1.r) (fun v H1 S1 m1 t1 w1 hv => ?_)
  obtain ⟨rfl, g1⟩ := hv
  have F1 : Fk M_Int64SS X1 S1 H1 _ _ := ⟨g1, fun id hid => (t1 id (F1.i id hid)).1⟩
  have F0 := F0.w t1 (fun id p o => q0_1 id p o)
  have F2 := F2.w t1 (fun id p o => q1_2 id o p)
  have T : ∀ id, id < H.n → S1 id ∧ (¬ W id → H1.m id = H.m id) := fun id hid => ⟨(t1 id (T id hid).1).1, fun hw => ((t1 id (T id hid).1).2 (fun o => hw (i1 id o))).trans ((T id hid).2 hw)⟩
  refine KW.callW F2.i rfl rfl rfl rfl rfl (mark_Int64SS hB.2.2 (k := k + (sz_Int64S x.1 : Nat) + (sz_Int64SS x.2.1 : Nat)) (by have := hk.1; have := hk.2; simp only [sz_Sequence] at this; constructor <;> omega) F2.i F2.r) (fun v H2 S2 m2 t2 w2 hv => ?_)
  obtain ⟨rfl, g2⟩ := hv
  have F2 : Fk M_Int64SS X2 S2 H2 _ _ := ⟨g2, fun id hid => (t2 id (F2.i id hid)).1⟩
  have F0 := F0.w t2 (fun id p o => q0_2 id p o)
  have F1 := F1.w t2 (fun id p o => q1_2 id p o)
  have T : ∀ id, id < H.n → S2 id ∧ (¬ W id → H2.m id = H.m id) := fun id hid => ⟨(t2 id (T id hid).1).1, fun hw => ((t2 id (T id hid).1).2 (fun o => hw (i2 id o))).trans ((T id hid).2 hw)⟩
  refine KW.retW rfl rfl rfl rfl (fun H1 g => by have := g.n_; omega) (fun id hid hw => ⟨(T id hid).1, (T id hid).2 hw⟩) (fun H1 g => ?_)
  have e : k + (sz_Int64S x.1 : Nat) + (sz_Int64SS x.2.1 : Nat) + (sz_Int64SS x.2.2 : Nat) = k + ((sz_Sequence x : Nat) : Int) := by simp only [sz_Sequence]; omega
  refine ⟨congrArg (Value.int .i64) e, ?_⟩
  have G0 := (M_Int64S).same (H' := H1) (fun id hid => (g.froz id (F0.i id hid)).2) F0.r
  have G1 := (M_Int64SS).same (H' := H1) (fun id hid => (g.froz id (F1.i id hid)).2) F1.r
  have G2 := (M_Int64SS).same (H' := H1) (fun id hid => (g.froz id (F2.i id hid)).2) F2.r
  have k2 : M_Int64SS.R (fun id => X2 id) H1 (mk_Int64SS (k + (sz_Int64S x.1 : Nat) + (sz_Int64SS x.2.1 : Nat)) x.2.2) [.slice a3 x.2.2.length c3] := G2
  have k1 : (Kn.mp (M_Int64SS) (M_Int64SS)).R (fun id => X1 id ∨ X2 id) H1 ((mk_Int64SS (k + (sz_Int64S x.1 : Nat)) x.2.1), (mk_Int64SS (k + (sz_Int64S x.1 : Nat) + (sz_Int64SS x.2.1 : Nat)) x.2.2)) [.slice a2 x.2.1.length c2, .slice a3 x.2.2.length c3] := mpR G1 k2 (fun _ p => .inl p) (fun _ p => .inr p) (fun _ o p => q1_2 _ o p)
  have k0 : (Kn.mp (M_Int64S) (Kn.mp (M_Int64SS) (M_Int64SS))).R (fun id => X0 id ∨ X1 id ∨ X2 id) H1 ((mk_Int64S (k) x.1), (mk_Int64SS (k + (sz_Int64S x.1 : Nat)) x.2.1), (mk_Int64SS (k + (sz_Int64S x.1 : Nat) + (sz_Int64SS x.2.1 : Nat)) x.2.2)) [.slice a1 x.1.length c1, .slice a2 x.2.1.length c2, .slice a3 x.2.2.length c3] := mpR G0 k1 (fun _ p => .inl p) (fun _ p => .inr p) (fun _ o p => by rcases p with p | p <;> first | exact q0_1 _ o p | exact q0_2 _ o p)
  exact (M_Sequence).more (fun id p => by rcases p with p | p | p <;> first | exact i0 id p | exact i1 id p | exact i2 id p) k0
theorem held_Sequence {x : T_Sequence} {cs : List Value} (hB : B_Sequence x) (hk : Mk k (sz_Sequence x)) (h : K_Sequence.R S H0 (mk_Sequence k x) cs) : Spec Try.prog S H0 74 [.agg cs.toArray, .int .i64 k] (fun v => v = .int .i64 (k + (sz_Sequence x : Nat))) := by
  obtain ⟨a1, c1, a2, c2, a3, c3, rfl, h0, h1, h2⟩ := split_Sequence h
  refine Spec.of1 Try.func74 rfl (by kernel_rfl) rfl (fun H _ => ?_)
  refine KW.callE rfl rfl rfl rfl rfl (held_Int64S hB.1 (k := k) (by have := hk.1; have := hk.2; simp only [sz_Sequence] at this; constructor <;> omega) (On.R h0)) (fun _ _ => ?_)
  refine KW.no rfl rfl (by have := hk.1; omega) ?_
  refine KW.callE rfl rfl rfl rfl rfl (held_Int64SS hB.2.1 (k := k + (sz_Int64S x.1 : Nat)) (by have := hk.1; have := hk.2; simp only [sz_Sequence] at this; constructor <;> omega) (On.R h1)) (fun _ _ => ?_)
  refine KW.no rfl rfl (by have := hk.1; omega) ?_
  refine KW.callE rfl rfl rfl rfl rfl (held_Int64SS hB.2.2 (k := k + (sz_Int64S x.1 : Nat) + (sz_Int64SS x.2.1 : Nat)) (by have := hk.1; have := hk.2; simp only [sz_Sequence] at this; constructor <;> omega) (On.R h2)) (fun _ _ => ?_)
  refine KW.no rfl rfl (by have := hk.1; omega) ?_
  refine KW.ret rfl rfl rfl rfl (congrArg (Value.int .i64) ?_)
  simp only [sz_Sequence]
  omega
end
end Go.Proofs.Ytmkpfllbmdahkaa.Am
/- Contracts: chains of the program and of the reference: what may stand behind another one. Each holds under its own conditions. -/
set_option linter.unusedVariables false
set_option linter.unusedSimpArgs false
set_option maxRecDepth 20000
namespace Go.Proofs.Ytmkpfllbmdahkaa.Am
open Go Go.RowKit Go.Proofs
/-- A set that may stand behind another one with a part of what is known. -/
def Steps (gs : List (List Int)) (b x w : Nat) : Prop := Opens gs (x ||| w) ∧ ¬ Opens gs (b ||| w)
def Chd (gs : List (List Int)) (k b x : Nat) : Prop := x &&& k = 0 ∧ x ≠ b ∧ x &&& b = b ∧ ¬ Opens gs x
/-- The least part of what is known, if there is one. -/
def Least (gs : List (List Int)) (k b x w : Nat) (ok : Bool) : Prop :=
  (ok = true ∧ w ≤ k ∧ (k &&& w = w ∧ Steps gs b x w) ∧ ∀ v, v < w → ¬ (k &&& v = v ∧ Steps gs b x v)) ∨ (ok = false ∧ w = 0 ∧ ∀ v, v ≤ k → ¬ (k &&& v = v ∧ Steps gs b x v))
section
variable {S : Ids} {H0 : AH}
theorem steps {m : Nat} (hm : m ≤ 7) (h : Int) {b x w : Nat} (hb : b < 256) (hx : x < 256) (hw : w < 256) {gs : List (List Int)} (hsm : Sml gs) (hbe : Below' m gs) {a c} (hs : KI.sl.Sl S H0 (.slice a gs.length c) gs) :
    Spec Try.prog S H0 183 [familyV h (.slice a gs.length c), .int .u64 b, .int .u64 x, .int .u64 w] (fun v => v = .bool (tv (Steps gs b x w))) := by
  refine Spec.of1 Try.func183 rfl (by kernel_rfl) rfl (fun H _ => ?_)
  have o1 : x ||| w < 2 ^ 8 := Nat.or_lt_two_pow (by omega) (by omega)
  have o2 : b ||| w < 2 ^ 8 := Nat.or_lt_two_pow (by omega) (by omega)
  have e8 : (2 : Nat) ^ 8 = 256 := by decide
  have e1 := or_u64 (a := x) (b := w) (by omega) (by omega)
  have e2 := or_u64 (a := b) (b := w) (by omega) (by omega)
  refine KW.callE rfl rfl rfl rfl rfl ((by show Spec _ _ _ _ [familyV h (.slice a gs.length c), .int .u64 (IntKind.u64.wrap _)] _; rw [e1]; exact opens hm h (by omega) hsm hbe hs.up)) (fun _ _ => ?_)
  refine KW.tstB rfl rfl (fun k1 => ?_) (fun k1 => ?_)
  · have k1 := tv_iff.1 k1
    refine KW.callE rfl rfl rfl rfl rfl ((by show Spec _ _ _ _ [familyV h (.slice a gs.length c), .int .u64 (IntKind.u64.wrap _)] _; rw [e2]; exact opens hm h (by omega) hsm hbe hs.up)) (fun _ _ => ?_)
    refine KW.ret rfl rfl rfl rfl ?_
    show Value.bool (!tv (Opens gs (b ||| w))) = _
    by_cases k2 : Opens gs (b ||| w)
    · rw [tv_true k2, tv_false (p := Steps gs b x w) (fun hc => hc.2 k2)]; rfl
    · rw [tv_false k2, tv_true (p := Steps gs b x w) ⟨k1, k2⟩]; rfl
  · exact KW.ret rfl rfl rfl rfl (by rw [tv_false (p := Steps gs b x w) (fun hc => by rw [tv_true hc.1] at k1; cases k1)]; rfl)
theorem chained {m : Nat} (hm : m ≤ 7) (h : Int) {k b x : Nat} (hk : k < 256) (hb : b < 256) (hx : x < 256) {gs : List (List Int)} (hsm : Sml gs) (hbe : Below' m gs) {a c} (hs : KI.sl.Sl S H0 (.slice a gs.length c) gs) :
    Spec Try.prog S H0 177 [familyV h (.slice a gs.length c), .int .u64 k, .int .u64 b, .int .u64 x] (fun v => v = .bool (tv (Chd gs k b x))) := by
  refine Spec.of1 Try.func177 rfl (by kernel_rfl) rfl (fun H _ => ?_)
  have e1 := and_u64 (a := x) (b := k) (by omega) (by omega)
  have bad : ¬ Chd gs k b x → aout [Value.bool false] = .bool (tv (Chd gs k b x)) := fun hx => by rw [tv_false hx]; rfl
  refine KW.tstB rfl rfl (fun k1 => ?_) (fun k1 => ?_)
  · rw [e1] at k1
    have k1 : x &&& k = 0 := by simp at k1; omega
    refine KW.tstB rfl rfl (fun k2 => ?_) (fun k2 => ?_)
    · have k2 : x ≠ b := by simp at k2; omega
      refine KW.callE rfl rfl rfl rfl rfl (contains (x := x) (y := b) (by omega) (by omega)) (fun _ _ => ?_)
      refine KW.tstB rfl rfl (fun k3 => ?_) (fun k3 => ?_)
      · have k3 := tv_iff.1 k3
        refine KW.callE rfl rfl rfl rfl rfl (opens hm h (q := x) (by omega) hsm hbe hs.up) (fun _ _ => ?_)
        refine KW.ret rfl rfl rfl rfl ?_
        show Value.bool (!tv (Opens gs x)) = _
        by_cases k4 : Opens gs x
        · rw [tv_true k4, tv_false (p := Chd gs k b x) (fun hc => hc.2.2.2 k4)]; rfl
        · rw [tv_false k4, tv_true (p := Chd gs k b x) ⟨k1, k2, k3, k4⟩]; rfl
      · repeat first | refine KW.tT rfl rfl rfl ?_ | refine KW.tF rfl rfl rfl ?_
        exact KW.ret rfl rfl rfl rfl (bad (fun hc => by rw [tv_true hc.2.2.1] at k3; cases k3))
    · have k2 : x = b := by simp at k2; omega
      repeat first | refine KW.tT rfl rfl rfl ?_ | refine KW.tF rfl rfl rfl ?_
      exact KW.ret rfl rfl rfl rfl (bad (fun hc => hc.2.1 k2))
  · rw [e1] at k1
    have k1 : ¬ x &&& k = 0 := by simp at k1; omega
    repeat first | refine KW.tT rfl rfl rfl ?_ | refine KW.tF rfl rfl rfl ?_
    exact KW.ret rfl rfl rfl rfl (bad (fun hc => k1 hc.1))
theorem least {m : Nat} (hm : m ≤ 7) (h : Int) {k b x : Nat} (hk : k < 256) (hb : b < 256) (hx : x < 256) {gs : List (List Int)} (hsm : Sml gs) (hbe : Below' m gs) {a c} (hs : KI.sl.Sl S H0 (.slice a gs.length c) gs) :
    Spec Try.prog S H0 176 [familyV h (.slice a gs.length c), .int .u64 k, .int .u64 b, .int .u64 x] (fun v => ∃ (w : Nat) (ok : Bool), v = .tuple #[.int .u64 w, .bool ok] ∧ Least gs k b x w ok) := by
  refine Spec.of1 Try.func176 rfl (by kernel_rfl) rfl (fun H _ => ?_)
  refine KW.lp rfl rfl (fun w : Nat => [(1, .int .u64 k), (2, .int .u64 b), (3, .int .u64 x), (4, .pointer (some ⟨H.n, 0, some 0⟩)), (10, .int .u64 w)]) (fun w => w ≤ k + 1 ∧ ∀ v, v < w → ¬ (k &&& v = v ∧ Steps gs b x v)) (fun w => k + 1 - w) (0) (⟨by omega, fun v hv => absurd hv (by omega)⟩) ⟨rfl, rfl, rfl, rfl, rfl, trivial⟩ (fun w hi bE n => ?_)
  obtain ⟨hw, hv⟩ := hi
  refine KW.cnd rfl rfl (fun k1 => ?_) (fun k1 => ?_)
  · have k1 : (w : Int) ≤ k := k1
    refine KW.callE rfl rfl rfl rfl rfl (contains (x := k) (y := w) (by omega) (by omega)) (fun _ _ => ?_)
    refine KW.tstB rfl rfl (fun k2 => ?_) (fun k2 => ?_)
    · have k2 := tv_iff.1 k2
      refine KW.callE rfl rfl rfl rfl rfl (steps hm h (b := b) (x := x) (w := w) hb hx (by omega) hsm hbe hs.up) (fun _ _ => ?_)
      refine KW.cndB rfl rfl (fun k3 => ?_) (fun k3 => ?_)
      · exact KW.ret rfl rfl rfl rfl (⟨w, true, rfl, .inl ⟨rfl, by omega, ⟨k2, tv_iff.1 k3⟩, hv⟩⟩)
      · refine KW.nxt rfl rfl (fun H' g => ⟨w + 1, ⟨by omega, upto hv (fun hc => by rw [tv_true hc.2] at k3; cases k3)⟩, by first | omega | (simp only; omega), ⟨rfl, rfl, rfl, rfl, congrArg (Value.int .u64) (incu64 (by omega)), trivial⟩, g⟩)
    · refine KW.cF rfl rfl (by first | (simp; done) | decide) ?_
      refine KW.nxt rfl rfl (fun H' g => ⟨w + 1, ⟨by omega, upto hv (fun hc => by rw [tv_true hc.1] at k2; cases k2)⟩, by first | omega | (simp only; omega), ⟨rfl, rfl, rfl, rfl, congrArg (Value.int .u64) (incu64 (by omega)), trivial⟩, g⟩)
  · have k1 : ¬ (w : Int) ≤ k := k1
    exact KW.ret rfl rfl rfl rfl (⟨0, false, rfl, .inr ⟨rfl, rfl, fun v hv' => hv v (by omega)⟩⟩)
theorem areGroups1 (m : Int) (hm : 1 ≤ m ∧ m ≤ 7) {y : List Int} (hl : y.length ≤ 1048576) {a c} (hs : KI.Sl S H0 (.slice a y.length c) y) {id : Nat} {b : Blk} (hb : b.cells = [.int .i64 m]) (hv : S id ∧ H0.m id = some b) :
    Spec Try.prog S H0 227 [.slice a y.length c, .pointer (some ⟨id, 0, none⟩)] (fun v => v = .bool (!tv (Rises 0 (m - 1) y))) := by
  refine Spec.of1 Try.func227 rfl (by kernel_rfl) rfl (fun H _ => ?_)
  obtain ⟨hS1, hm1⟩ := On.blk (S' := Low H.n) (H' := H) hv.1 hv.2
  obtain ⟨ty, rw, cs⟩ := b
  subst hb
  refine KW.ldP hS1 hm1 rfl rfl rfl rfl rfl rfl ?_
  refine KW.callE rfl rfl rfl rfl rfl (isGroup m (by omega) (by omega) hs.up) (fun _ _ => ?_)
  exact KW.ret rfl rfl rfl rfl (rfl)
theorem areGroups (m : Int) (hm : 1 ≤ m ∧ m ≤ 7) {a c} {xs : List (List Int)} (hl : xs.length ≤ 1048576) (hx : ∀ y ∈ xs, y.length ≤ 1048576) (hs : KI.sl.Sl S H0 (.slice a xs.length c) xs) :
    Spec Try.prog S H0 175 [.int .i64 m, .slice a xs.length c] (fun v => v = .bool (tv (∀ y ∈ xs, Rises 0 (m - 1) y))) := by
  refine Spec.of1 Try.func175 rfl (by kernel_rfl) rfl (fun H _ => ?_)
  refine KW.callV1 rfl rfl rfl rfl rfl (fun H1 g _ => containsFuncL (p := fun y => !tv (Rises 0 (m - 1) y)) (by omega) hs.up (fun S' H' o y hy a c hsy => areGroups1 m hm (hx y hy) hsy rfl (g.var (j := 0) rfl))) (fun _ _ => ?_)
  refine KW.ret rfl rfl rfl rfl ?_
  show Value.bool (!tv (∃ x ∈ xs, (!tv (Rises 0 (m - 1) x)) = true)) = _
  by_cases h : ∀ y ∈ xs, Rises 0 (m - 1) y
  · rw [tv_true h, tv_false (fun ⟨x, h1, h2⟩ => by rw [tv_true (h x h1)] at h2; cases h2)]; rfl
  · rw [tv_false h, tv_true ?_]; · rfl
    refine Classical.byContradiction fun hc => h fun x h1 => ?_
    refine Classical.byContradiction fun h2 => hc ⟨x, h1, by rw [tv_false h2]; rfl⟩
/-- A list of one row. -/
theorem Good.row1 {S0 : Ids} {T : List Var} {n j id c : Nat} {H1 H2 : AH} {ty : TypeId} {a : Option Addr} {c' : Nat} {xs : List Int} (g : Good S0 H1 T n H2) (hT : T[j]? = some (id, ⟨ty, true, [.slice a xs.length c']⟩)) (h : KI.Sl (Low H2.n) H2 (.slice a xs.length c') xs) (hc : 1 ≤ c) : KI.sl.Sl (Low H2.n) H2 (.slice (some ⟨id, 0, some 1⟩) [xs].length c) [xs] := by
  have hb := g.blk hT
  refine .inr ⟨id, 0, c, _, rfl, hc, hb.2, hb.1, by simp [Kn.sl], fun i x hx => ?_⟩
  cases i with
  | zero => cases hx; exact ⟨_, rfl, h⟩
  | succ i => simp at hx
end
end Go.Proofs.Ytmkpfllbmdahkaa.Am
/- What the laws' own functions do at Matrix: sizes, copies, equality, marks. Each holds under its own conditions. -/
set_option linter.unusedVariables false
set_option maxRecDepth 20000
namespace Go.Proofs.Ytmkpfllbmdahkaa.Am
open Go Go.RowKit Go.Proofs
abbrev T_Matrix : Type := (Int) × (Int) × (List (List Int))
abbrev K_Matrix : Kn T_Matrix := Kn.pair (KI) (Kn.pair (KI) (K_Int64SS))
abbrev M_Matrix : Kn T_Matrix := Kn.mp (KI) (Kn.mp (KI) (M_Int64SS))
theorem le_Matrix : KLe M_Matrix K_Matrix := KLe.pair ((KLe.refl KI)) (KLe.pair ((KLe.refl KI)) (le_Int64SS))
abbrev B_Matrix (x : T_Matrix) : Prop := I64 x.1 ∧ I64 x.2.1 ∧ B_Int64SS x.2.2
abbrev W_Matrix (x : T_Matrix) : Prop := I64 x.1 ∧ I64 x.2.1 ∧ W_Int64SS x.2.2
abbrev sz_Matrix (x : T_Matrix) : Nat := sz_Int64SS x.2.2
abbrev mk_Matrix (k : Int) (x : T_Matrix) : T_Matrix := (x.1, x.2.1, mk_Int64SS (k) x.2.2)
theorem size_Matrix {x : T_Matrix} (hB : B_Matrix x) : sz_Matrix x ≤ 1048576 := by have := size_Int64SS hB.2.2; simp only [sz_Matrix]; omega
section
variable {S : Ids} {H0 : AH} {W : Ids} {left k : Int}
theorem form_Matrix {x : T_Matrix} {cs : List Value} (h : K_Matrix.R S H0 x cs) : ∃ a1 c1, cs = [.int .i64 x.1, .int .i64 x.2.1, .slice a1 x.2.2.length c1] := by
  obtain ⟨e0, d0, rfl, h0, h0_⟩ := h
  obtain ⟨e1, d1, rfl, h1, h1_⟩ := h0_
  have h2 := h1_
  obtain rfl := KI_of h0
  obtain rfl := KI_of h1
  obtain ⟨a1, c1, rfl⟩ := slform h2
  exact ⟨a1, c1, rfl⟩
theorem formM_Matrix {x : T_Matrix} {cs : List Value} (h : M_Matrix.R S H0 x cs) : ∃ a1 c1, cs = [.int .i64 x.1, .int .i64 x.2.1, .slice a1 x.2.2.length c1] := form_Matrix (le_Matrix.2 _ _ _ _ h)
theorem split_Matrix {x : T_Matrix} {cs : List Value} (h : K_Matrix.R S H0 x cs) : ∃ a1 c1, cs = [.int .i64 x.1, .int .i64 x.2.1, .slice a1 x.2.2.length c1] ∧ K_Int64SS.R S H0 x.2.2 [.slice a1 x.2.2.length c1] := by
  obtain ⟨e0, d0, rfl, h0, h0_⟩ := h
  obtain ⟨e1, d1, rfl, h1, h1_⟩ := h0_
  have h2 := h1_
  obtain rfl := KI_of h0
  obtain rfl := KI_of h1
  obtain ⟨a1, c1, rfl⟩ := slform h2
  exact ⟨a1, c1, rfl, h2⟩
theorem splitM_Matrix {x : T_Matrix} {cs : List Value} (h : M_Matrix.R S H0 x cs) : ∃ (a1 : Option Addr) (c1 : Nat) (X2 : Ids), cs = [.int .i64 x.1, .int .i64 x.2.1, .slice a1 x.2.2.length c1] ∧ M_Int64SS.R X2 H0 x.2.2 [.slice a1 x.2.2.length c1] ∧ (∀ id, X2 id → S id) := by
  obtain ⟨e0, d0, X0, Y0, rfl, i0, j0, q0, h0, h0_⟩ := h
  obtain ⟨e1, d1, X1, Y1, rfl, i1, j1, q1, h1, h1_⟩ := h0_
  have h2 := h1_
  obtain rfl := KI_of h0
  obtain rfl := KI_of h1
  obtain ⟨a1, c1, rfl⟩ := mlform h2
  exact ⟨a1, c1, Y1, rfl, h2, fun _ p => j0 _ (j1 _ p)⟩
theorem to_Matrix {x : T_Matrix} {cs : List Value} (hB : B_Matrix x) (h : K_Matrix.R S H0 x cs) : SpecM Try.prog S H0 17 [.agg cs.toArray] (fun n v H1 => ∃ cs, v = .agg cs.toArray ∧ M_Matrix.R (New n H1.n) H1 x cs) := by
  obtain ⟨a1, c1, rfl, h2⟩ := split_Matrix h
  refine SpecM.of1 Try.func17 rfl (by kernel_rfl) rfl (fun H _ => ?_)
  refine KW.callN1 rfl rfl rfl rfl rfl (to_Int64SS hB.2.2 (On.R h2)) (fun v G2 S2 m2 _ _ hv => ?_)
  obtain ⟨b2, d2, rfl, g2⟩ := hv
  refine KW.retM1 rfl rfl rfl rfl (fun H1 g => ?_)
  refine ⟨_, rfl, ?_⟩
  have k2 : M_Int64SS.R (New H.n H1.n) H1 x.2.2 [.slice b2 x.2.2.length d2] := (M_Int64SS).more (g.inn (H := G2) (fun _ p => by have := p.1; omega)) (g.keep g2)
  have k1 : (Kn.mp (KI) (M_Int64SS)).R (New H.n H1.n) H1 (x.2) [.int .i64 x.2.1, .slice b2 x.2.2.length d2] := mpR (X := None_) (show KI.R None_ H1 _ [.int .i64 x.2.1] from rfl) k2 (fun _ p => p.elim) (fun _ p => p) (fun _ p _ => p.elim)
  have k0 : (Kn.mp (KI) (Kn.mp (KI) (M_Int64SS))).R (New H.n H1.n) H1 (x) [.int .i64 x.1, .int .i64 x.2.1, .slice b2 x.2.2.length d2] := mpR (X := None_) (show KI.R None_ H1 _ [.int .i64 x.1] from rfl) k1 (fun _ p => p.elim) (fun _ p => p) (fun _ p _ => p.elim)
  exact k0
theorem eq_Matrix {x : T_Matrix} {cs cs' : List Value} (hB : B_Matrix x) (h : K_Matrix.R S H0 x cs) (h' : K_Matrix.R S H0 x cs') : Spec Try.prog S H0 19 [.agg cs.toArray, .agg cs'.toArray] (fun v => v = .bool true) := by
  obtain ⟨a1, c1, rfl, h2⟩ := split_Matrix h
  obtain ⟨b1, d1, rfl, k2⟩ := split_Matrix h'
  refine Spec.of1 Try.func19 rfl (by kernel_rfl) rfl (fun H _ => ?_)
  refine KW.cF rfl rfl (by first | (simp; done) | decide) ?_
  refine KW.cF rfl rfl (by first | (simp; done) | decide) ?_
  refine KW.callE rfl rfl rfl rfl rfl (eq_Int64SS hB.2.2 (On.R h2) (On.R k2)) (fun _ _ => ?_)
  refine KW.cF rfl rfl (by first | (simp; done) | decide) ?_
  exact KW.ret rfl rfl rfl rfl (rfl)
theorem sz_Matrix' {x : T_Matrix} {cs : List Value} (l0 : 0 ≤ left) (l1 : left ≤ 1048576) (hW : W_Matrix x) (h : K_Matrix.R S H0 x cs) : Spec Try.prog S H0 15 [.agg cs.toArray, .int .i64 left] (SzPost left (B_Matrix x)) := by
  obtain ⟨a1, c1, rfl, h2⟩ := split_Matrix h
  refine Spec.of1 Try.func15 rfl (by kernel_rfl) rfl (fun H _ => ?_)
  refine KW.call rfl rfl rfl rfl rfl (sz_Int64SS' l0 l1 hW.2.2 (On.R h2)) (fun v _ _ hv => ?_)
  obtain ⟨r2, rfl, k2⟩ := hv
  refine KW.cnd rfl rfl (fun h => KW.ret rfl rfl rfl rfl ⟨-1, rfl, .inl rfl⟩) (fun h => ?_)
  have k2 := k2.resolve_left (by omega)
  exact KW.ret rfl rfl rfl rfl (⟨_, rfl, .inr ⟨k2.1, by have := k2.2.1; omega, hW.1, hW.2.1, k2.2.2⟩⟩)
theorem mark_Matrix {x : T_Matrix} {cs : List Value} (hB : B_Matrix x) (hk : Mk k (sz_Matrix x)) (hW : ∀ id, W id → S id) (h : M_Matrix.R W H0 x cs) : SpecW Try.prog S H0 W 37 [.agg cs.toArray, .int .i64 k] (fun n v H1 => v = .int .i64 (k + (sz_Matrix x : Nat)) ∧ M_Matrix.R W H1 (mk_Matrix k x) cs) := by
  obtain ⟨a1, c1, X2, rfl, h2, i2⟩ := splitM_Matrix h
  refine SpecW.of0 Try.func37 rfl (by kernel_rfl) rfl (fun H hfin hfz => ?_)
  have F2 : Fk M_Int64SS X2 (Low H.n) H _ _ := ⟨(M_Int64SS).same (fun id hid => (hfz id (hW id (i2 id hid))).2) h2, fun id hid => (hfz id (hW id (i2 id hid))).1⟩
  have T : ∀ id, id < H.n → Low H.n id ∧ (¬ W id → H.m id = H.m id) := fun id hid => ⟨hid, fun _ => rfl⟩
  refine KW.callW F2.i rfl rfl rfl rfl rfl (mark_Int64SS hB.2.2 (k := k) (by have := hk.1; have := hk.2; simp only [sz_Matrix] at this; constructor <;> omega) F2.i F2.r) (fun v H2 S2 m2 t2 w2 hv => ?_)
  obtain ⟨rfl, g2⟩ := hv
  have F2 : Fk M_Int64SS X2 S2 H2 _ _ := ⟨g2, fun id hid => (t2 id (F2.i id hid)).1⟩
  have T : ∀ id, id < H.n → S2 id ∧ (¬ W id → H2.m id = H.m id) := fun id hid => ⟨(t2 id (T id hid).1).1, fun hw => ((t2 id (T id hid).1).2 (fun o => hw (i2 id o))).trans ((T id hid).2 hw)⟩
  refine KW.retW rfl rfl rfl rfl (fun H1 g => by have := g.n_; omega) (fun id hid hw => ⟨(T id hid).1, (T id hid).2 hw⟩) (fun H1 g => ?_)
  refine ⟨rfl, ?_⟩
  have G2 := (M_Int64SS).same (H' := H1) (fun id hid => (g.froz id (F2.i id hid)).2) F2.r
  have k2 : M_Int64SS.R (fun id => X2 id) H1 (mk_Int64SS (k) x.2.2) [.slice a1 x.2.2.length c1] := G2
  have k1 : (Kn.mp (KI) (M_Int64SS)).R (fun id => X2 id) H1 (x.2.1, (mk_Int64SS (k) x.2.2)) [.int .i64 x.2.1, .slice a1 x.2.2.length c1] := mpR (X := None_) (show KI.R None_ H1 _ [.int .i64 x.2.1] from rfl) k2 (fun _ p => p.elim) (fun _ p => p) (fun _ p _ => p.elim)
  have k0 : (Kn.mp (KI) (Kn.mp (KI) (M_Int64SS))).R (fun id => X2 id) H1 (x.1, x.2.1, (mk_Int64SS (k) x.2.2)) [.int .i64 x.1, .int .i64 x.2.1, .slice a1 x.2.2.length c1] := mpR (X := None_) (show KI.R None_ H1 _ [.int .i64 x.1] from rfl) k1 (fun _ p => p.elim) (fun _ p => p) (fun _ p _ => p.elim)
  exact (M_Matrix).more (fun id p => i2 id p) k0
theorem held_Matrix {x : T_Matrix} {cs : List Value} (hB : B_Matrix x) (hk : Mk k (sz_Matrix x)) (h : K_Matrix.R S H0 (mk_Matrix k x) cs) : Spec Try.prog S H0 129 [.agg cs.toArray, .int .i64 k] (fun v => v = .int .i64 (k + (sz_Matrix x : Nat))) := by
  obtain ⟨a1, c1, rfl, h2⟩ := split_Matrix h
  refine Spec.of1 Try.func129 rfl (by kernel_rfl) rfl (fun H _ => ?_)
  refine KW.callE rfl rfl rfl rfl rfl (held_Int64SS hB.2.2 (k := k) (by have := hk.1; have := hk.2; simp only [sz_Matrix] at this; constructor <;> omega) (On.R h2)) (fun _ _ => ?_)
  refine KW.no rfl rfl (by have := hk.1; omega) ?_
  exact KW.ret rfl rfl rfl rfl (rfl)
end
end Go.Proofs.Ytmkpfllbmdahkaa.Am
/- What the laws' own functions do at Scheme: sizes, copies, equality, marks. Each holds under its own conditions. -/
set_option linter.unusedVariables false
set_option maxRecDepth 20000
namespace Go.Proofs.Ytmkpfllbmdahkaa.Am
open Go Go.RowKit Go.Proofs
abbrev T_Scheme : Type := (Int) × (List Int) × (T_Matrix)
abbrev K_Scheme : Kn T_Scheme := Kn.pair (KI) (Kn.pair (K_Int64S) (K_Matrix))
abbrev M_Scheme : Kn T_Scheme := Kn.mp (KI) (Kn.mp (M_Int64S) (M_Matrix))
theorem le_Scheme : KLe M_Scheme K_Scheme := KLe.pair ((KLe.refl KI)) (KLe.pair (le_Int64S) (le_Matrix))
abbrev B_Scheme (x : T_Scheme) : Prop := I64 x.1 ∧ B_Int64S x.2.1 ∧ B_Matrix x.2.2
abbrev W_Scheme (x : T_Scheme) : Prop := I64 x.1 ∧ W_Int64S x.2.1 ∧ W_Matrix x.2.2
abbrev sz_Scheme (x : T_Scheme) : Nat := sz_Int64S x.2.1 + sz_Matrix x.2.2
abbrev mk_Scheme (k : Int) (x : T_Scheme) : T_Scheme := (x.1, mk_Int64S (k) x.2.1, mk_Matrix (k + (sz_Int64S x.2.1 : Nat)) x.2.2)
theorem size_Scheme {x : T_Scheme} (hB : B_Scheme x) : sz_Scheme x ≤ 2097152 := by have := size_Int64S hB.2.1; have := size_Matrix hB.2.2; simp only [sz_Scheme]; omega
section
variable {S : Ids} {H0 : AH} {W : Ids} {left k : Int}
theorem form_Scheme {x : T_Scheme} {cs : List Value} (h : K_Scheme.R S H0 x cs) : ∃ a1 c1 a2 c2, cs = [.int .i64 x.1, .slice a1 x.2.1.length c1, .int .i64 x.2.2.1, .int .i64 x.2.2.2.1, .slice a2 x.2.2.2.2.length c2] := by
  obtain ⟨e0, d0, rfl, h0, h0_⟩ := h
  obtain ⟨e1, d1, rfl, h1, h1_⟩ := h0_
  have h2 := h1_
  obtain rfl := KI_of h0
  obtain ⟨a1, c1, rfl⟩ := slform h1
  obtain ⟨a2, c2, rfl⟩ := form_Matrix h2
  exact ⟨a1, c1, a2, c2, rfl⟩
theorem formM_Scheme {x : T_Scheme} {cs : List Value} (h : M_Scheme.R S H0 x cs) : ∃ a1 c1 a2 c2, cs = [.int .i64 x.1, .slice a1 x.2.1.length c1, .int .i64 x.2.2.1, .int .i64 x.2.2.2.1, .slice a2 x.2.2.2.2.length c2] := form_Scheme (le_Scheme.2 _ _ _ _ h)
theorem split_Scheme {x : T_Scheme} {cs : List Value} (h : K_Scheme.R S H0 x cs) : ∃ a1 c1 a2 c2, cs = [.int .i64 x.1, .slice a1 x.2.1.length c1, .int .i64 x.2.2.1, .int .i64 x.2.2.2.1, .slice a2 x.2.2.2.2.length c2] ∧ K_Int64S.R S H0 x.2.1 [.slice a1 x.2.1.length c1] ∧ K_Matrix.R S H0 x.2.2 [.int .i64 x.2.2.1, .int .i64 x.2.2.2.1, .slice a2 x.2.2.2.2.length c2] := by
  obtain ⟨e0, d0, rfl, h0, h0_⟩ := h
  obtain ⟨e1, d1, rfl, h1, h1_⟩ := h0_
  have h2 := h1_
  obtain rfl := KI_of h0
  obtain ⟨a1, c1, rfl⟩ := slform h1
  obtain ⟨a2, c2, rfl⟩ := form_Matrix h2
  exact ⟨a1, c1, a2, c2, rfl, h1, h2⟩
theorem splitM_Scheme {x : T_Scheme} {cs : List Value} (h : M_Scheme.R S H0 x cs) : ∃ (a1 : Option Addr) (c1 : Nat) (a2 : Option Addr) (c2 : Nat) (X1 : Ids) (X2 : Ids), cs = [.int .i64 x.1, .slice a1 x.2.1.length c1, .int .i64 x.2.2.1, .int .i64 x.2.2.2.1, .slice a2 x.2.2.2.2.length c2] ∧ M_Int64S.R X1 H0 x.2.1 [.slice a1 x.2.1.length c1] ∧ M_Matrix.R X2 H0 x.2.2 [.int .i64 x.2.2.1, .int .i64 x.2.2.2.1, .slice a2 x.2.2.2.2.length c2] ∧ (∀ id, X1 id → S id) ∧ (∀ id, X2 id → S id) ∧ (∀ id, X1 id → X2 id → False) := by
  obtain ⟨e0, d0, X0, Y0, rfl, i0, j0, q0, h0, h0_⟩ := h
  obtain ⟨e1, d1, X1, Y1, rfl, i1, j1, q1, h1, h1_⟩ := h0_
  have h2 := h1_
  obtain rfl := KI_of h0
  obtain ⟨a1, c1, rfl⟩ := mlform h1
  obtain ⟨a2, c2, rfl⟩ := formM_Matrix h2
  exact ⟨a1, c1, a2, c2, X1, Y1, rfl, h1, h2, fun _ p => j0 _ (i1 _ p), fun _ p => j0 _ (j1 _ p), fun _ o p => q1 _ o (p)⟩
theorem to_Scheme {x : T_Scheme} {cs : List Value} (hB : B_Scheme x) (h : K_Scheme.R S H0 x cs) : SpecM Try.prog S H0 22 [.agg cs.toArray] (fun n v H1 => ∃ cs, v = .agg cs.toArray ∧ M_Scheme.R (New n H1.n) H1 x cs) := by
  obtain ⟨a1, c1, a2, c2, rfl, h1, h2⟩ := split_Scheme h
  refine SpecM.of1 Try.func22 rfl (by kernel_rfl) rfl (fun H _ => ?_)
  refine KW.callN1 rfl rfl rfl rfl rfl (to_Int64S hB.2.1 (On.R h1)) (fun v G1 S1 m1 _ _ hv => ?_)
  obtain ⟨b1, d1, rfl, g1⟩ := hv
  refine KW.callN1 rfl rfl rfl rfl rfl (to_Matrix hB.2.2 (On.R h2)) (fun v G2 S2 m2 _ _ hv => ?_)
  obtain ⟨w2, rfl, g2⟩ := hv
  obtain ⟨b2_0, d2_0, rfl⟩ := formM_Matrix g2
  refine KW.retM1 rfl rfl rfl rfl (fun H1 g => ?_)
  refine ⟨_, rfl, ?_⟩
  have k2 : M_Matrix.R (New G1.n H1.n) H1 x.2.2 [.int .i64 x.2.2.1, .int .i64 x.2.2.2.1, .slice b2_0 x.2.2.2.2.length d2_0] := (M_Matrix).more (g.inn (H := G2) (fun _ p => by have := p.1; omega)) (g.keep g2)
  have k1 : (Kn.mp (M_Int64S) (M_Matrix)).R (New H.n H1.n) H1 (x.2) [.slice b1 x.2.1.length d1, .int .i64 x.2.2.1, .int .i64 x.2.2.2.1, .slice b2_0 x.2.2.2.2.length d2_0] := mpR (g.keep g1) k2 (g.inn (H := G1) (fun _ p => by have := p.1; omega)) (fun _ p => ⟨by have := p.1; have := m1; omega, p.2⟩) (fun _ o p => by have := o.2; have := p.1; omega)
  have k0 : (Kn.mp (KI) (Kn.mp (M_Int64S) (M_Matrix))).R (New H.n H1.n) H1 (x) [.int .i64 x.1, .slice b1 x.2.1.length d1, .int .i64 x.2.2.1, .int .i64 x.2.2.2.1, .slice b2_0 x.2.2.2.2.length d2_0] := mpR (X := None_) (show KI.R None_ H1 _ [.int .i64 x.1] from rfl) k1 (fun _ p => p.elim) (fun _ p => p) (fun _ p _ => p.elim)
  exact k0
theorem eq_Scheme {x : T_Scheme} {cs cs' : List Value} (hB : B_Scheme x) (h : K_Scheme.R S H0 x cs) (h' : K_Scheme.R S H0 x cs') : Spec Try.prog S H0 25 [.agg cs.toArray, .agg cs'.toArray] (fun v => v = .bool true) := by
  obtain ⟨a1, c1, a2, c2, rfl, h1, h2⟩ := split_Scheme h
  obtain ⟨b1, d1, b2, d2, rfl, k1, k2⟩ := split_Scheme h'
  refine Spec.of1 Try.func25 rfl (by kernel_rfl) rfl (fun H _ => ?_)
  refine KW.cF rfl rfl (by first | (simp; done) | decide) ?_
  refine KW.callE rfl rfl rfl rfl rfl (eq_Int64S hB.2.1 (On.R h1) (On.R k1)) (fun _ _ => ?_)
  refine KW.cF rfl rfl (by first | (simp; done) | decide) ?_
  refine KW.callE rfl rfl rfl rfl rfl (eq_Matrix hB.2.2 (On.R h2) (On.R k2)) (fun _ _ => ?_)
  refine KW.cF rfl rfl (by first | (simp; done) | decide) ?_
  exact KW.ret rfl rfl rfl rfl (rfl)
theorem sz_Scheme' {x : T_Scheme} {cs : List Value} (l0 : 0 ≤ left) (l1 : left ≤ 1048576) (hW : W_Scheme x) (h : K_Scheme.R S H0 x cs) : Spec Try.prog S H0 20 [.agg cs.toArray, .int .i64 left] (SzPost left (B_Scheme x)) := by
  obtain ⟨a1, c1, a2, c2, rfl, h1, h2⟩ := split_Scheme h
  refine Spec.of1 Try.func20 rfl (by kernel_rfl) rfl (fun H _ => ?_)
  refine KW.call rfl rfl rfl rfl rfl (sz_Int64S' l0 l1 hW.2.1 (On.R h1)) (fun v _ _ hv => ?_)
  obtain ⟨r1, rfl, k1⟩ := hv
  refine KW.cnd rfl rfl (fun h => KW.ret rfl rfl rfl rfl ⟨-1, rfl, .inl rfl⟩) (fun h => ?_)
  have k1 := k1.resolve_left (by omega)
  refine KW.call rfl rfl rfl rfl rfl (sz_Matrix' k1.1 (by have := k1.2.1; omega) hW.2.2 (On.R h2)) (fun v _ _ hv => ?_)
  obtain ⟨r2, rfl, k2⟩ := hv
  refine KW.cnd rfl rfl (fun h => KW.ret rfl rfl rfl rfl ⟨-1, rfl, .inl rfl⟩) (fun h => ?_)
  have k2 := k2.resolve_left (by omega)
  exact KW.ret rfl rfl rfl rfl (⟨_, rfl, .inr ⟨k2.1, by have := k1.2.1; have := k2.2.1; omega, hW.1, k1.2.2, k2.2.2⟩⟩)
theorem mark_Scheme {x : T_Scheme} {cs : List Value} (hB : B_Scheme x) (hk : Mk k (sz_Scheme x)) (hW : ∀ id, W id → S id) (h : M_Scheme.R W H0 x cs) : SpecW Try.prog S H0 W 26 [.agg cs.toArray, .int .i64 k] (fun n v H1 => v = .int .i64 (k + (sz_Scheme x : Nat)) ∧ M_Scheme.R W H1 (mk_Scheme k x) cs) := by
  obtain ⟨a1, c1, a2, c2, X1, X2, rfl, h1, h2, i1, i2, q1_2⟩ := splitM_Scheme h
  refine SpecW.of0 Try.func26 rfl (by kernel_rfl) rfl (fun H hfin hfz => ?_)
  have F1 : Fk M_Int64S X1 (Low H.n) H _ _ := ⟨(M_Int64S).same (fun id hid => (hfz id (hW id (i1 id hid))).2) h1, fun id hid => (hfz id (hW id (i1 id hid))).1⟩
  have F2 : Fk M_Matrix X2 (Low H.n) H _ _ := ⟨(M_Matrix).same (fun id hid => (hfz id (hW id (i2 id hid))).2) h2, fun id hid => (hfz id (hW id (i2 id hid))).1⟩
  have T : ∀ id, id < H.n → Low H.n id ∧ (¬ W id → H.m id = H.m id) := fun id hid => ⟨hid, fun _ => rfl⟩
  refine KW.callW F1.i rfl rfl rfl rfl rfl (mark_Int64S hB.2.1 (k := k) (by have := hk.1; have := hk.2; simp only [sz_Scheme] at this; constructor <;> omega) F1.i F1.r) (fun v H1 S1 m1 t1 w1 hv => ?_)
  obtain ⟨rfl, g1⟩ := hv
  have F1 : Fk M_Int64S X1 S1 H1 _ _ := ⟨g1, fun id hid => (t1 id (F1.i id hid)).1⟩
  have F2 := F2.w t1 (fun id p o => q1_2 id o p)
  have T : ∀ id, id < H.n → S1 id ∧ (¬ W id → H1.m id = H.m id) := fun id hid => ⟨(t1 id (T id hid).1).1, fun hw => ((t1 id (T id hid).1).2 (fun o => hw (i1 id o))).trans ((T id hid).2 hw)⟩
  refine KW.callW F2.i rfl rfl rfl rfl rfl (mark_Matrix hB.2.2 (k := k + (sz_Int64S x.2.1 : Nat)) (by have := hk.1; have := hk.2; simp only [sz_Scheme] at this; constructor <;> omega) F2.i F2.r) (fun v H2 S2 m2 t2 w2 hv => ?_)
  obtain ⟨rfl, g2⟩ := hv
  have F2 : Fk M_Matrix X2 S2 H2 _ _ := ⟨g2, fun id hid => (t2 id (F2.i id hid)).1⟩
  have F1 := F1.w t2 (fun id p o => q1_2 id p o)
  have T : ∀ id, id < H.n → S2 id ∧ (¬ W id → H2.m id = H.m id) := fun id hid => ⟨(t2 id (T id hid).1).1, fun hw => ((t2 id (T id hid).1).2 (fun o => hw (i2 id o))).trans ((T id hid).2 hw)⟩
  refine KW.retW rfl rfl rfl rfl (fun H1 g => by have := g.n_; omega) (fun id hid hw => ⟨(T id hid).1, (T id hid).2 hw⟩) (fun H1 g => ?_)
  have e : k + (sz_Int64S x.2.1 : Nat) + (sz_Matrix x.2.2 : Nat) = k + ((sz_Scheme x : Nat) : Int) := by simp only [sz_Scheme]; omega
  refine ⟨congrArg (Value.int .i64) e, ?_⟩
  have G1 := (M_Int64S).same (H' := H1) (fun id hid => (g.froz id (F1.i id hid)).2) F1.r
  have G2 := (M_Matrix).same (H' := H1) (fun id hid => (g.froz id (F2.i id hid)).2) F2.r
  have k2 : M_Matrix.R (fun id => X2 id) H1 (mk_Matrix (k + (sz_Int64S x.2.1 : Nat)) x.2.2) [.int .i64 x.2.2.1, .int .i64 x.2.2.2.1, .slice a2 x.2.2.2.2.length c2] := G2
  have k1 : (Kn.mp (M_Int64S) (M_Matrix)).R (fun id => X1 id ∨ X2 id) H1 ((mk_Int64S (k) x.2.1), (mk_Matrix (k + (sz_Int64S x.2.1 : Nat)) x.2.2)) [.slice a1 x.2.1.length c1, .int .i64 x.2.2.1, .int .i64 x.2.2.2.1, .slice a2 x.2.2.2.2.length c2] := mpR G1 k2 (fun _ p => .inl p) (fun _ p => .inr p) (fun _ o p => q1_2 _ o p)
  have k0 : (Kn.mp (KI) (Kn.mp (M_Int64S) (M_Matrix))).R (fun id => X1 id ∨ X2 id) H1 (x.1, (mk_Int64S (k) x.2.1), (mk_Matrix (k + (sz_Int64S x.2.1 : Nat)) x.2.2)) [.int .i64 x.1, .slice a1 x.2.1.length c1, .int .i64 x.2.2.1, .int .i64 x.2.2.2.1, .slice a2 x.2.2.2.2.length c2] := mpR (X := None_) (show KI.R None_ H1 _ [.int .i64 x.1] from rfl) k1 (fun _ p => p.elim) (fun _ p => p) (fun _ p _ => p.elim)
  exact (M_Scheme).more (fun id p => by rcases p with p | p <;> first | exact i1 id p | exact i2 id p) k0
theorem held_Scheme {x : T_Scheme} {cs : List Value} (hB : B_Scheme x) (hk : Mk k (sz_Scheme x)) (h : K_Scheme.R S H0 (mk_Scheme k x) cs) : Spec Try.prog S H0 38 [.agg cs.toArray, .int .i64 k] (fun v => v = .int .i64 (k + (sz_Scheme x : Nat))) := by
  obtain ⟨a1, c1, a2, c2, rfl, h1, h2⟩ := split_Scheme h
  refine Spec.of1 Try.func38 rfl (by kernel_rfl) rfl (fun H _ => ?_)
  refine KW.callE rfl rfl rfl rfl rfl (held_Int64S hB.2.1 (k := k) (by have := hk.1; have := hk.2; simp only [sz_Scheme] at this; constructor <;> omega) (On.R h1)) (fun _ _ => ?_)
  refine KW.no rfl rfl (by have := hk.1; omega) ?_
  refine KW.callE rfl rfl rfl rfl rfl (held_Matrix hB.2.2 (k := k + (sz_Int64S x.2.1 : Nat)) (by have := hk.1; have := hk.2; simp only [sz_Scheme] at this; constructor <;> omega) (On.R h2)) (fun _ _ => ?_)
  refine KW.no rfl rfl (by have := hk.1; omega) ?_
  refine KW.ret rfl rfl rfl rfl (congrArg (Value.int .i64) ?_)
  simp only [sz_Scheme]
  omega
end
end Go.Proofs.Ytmkpfllbmdahkaa.Am
/- What the laws' own functions do at rows of rows of rows of numbers. Each holds under its own conditions. -/
set_option linter.unusedVariables false
set_option maxRecDepth 20000
namespace Go.Proofs.Ytmkpfllbmdahkaa.Am
open Go Go.RowKit Go.Proofs
/-- All cells. -/
abbrev ts_Int64SS (x : List (List Int)) : Nat := x.length + sum (lens x)
theorem sum_le2 {α : Type} {f g : α → Nat} (l : List α) (h : ∀ x, f x ≤ g x) : sum (l.map f) ≤ sum (l.map g) := by
  induction l with
  | nil => exact Nat.le_refl _
  | cons x l ih => have := h x; simp only [List.map_cons, sum]; omega
abbrev K_Int64SSS : Kn (List (List (List Int))) := KI.sl.sl.sl
abbrev M_Int64SSS : Kn (List (List (List Int))) := KI.ml.ml.ml
theorem le_Int64SSS : KLe M_Int64SSS K_Int64SSS := KLe.row le_Int64SS
structure B_Int64SSS (x : List (List (List Int))) : Prop where
  len : x.length ≤ 1048576
  each : ∀ y ∈ x, B_Int64SS y
  tot : sum (x.map sz_Int64SS) ≤ 1048576
abbrev W_Int64SSS (x : List (List (List Int))) : Prop := x.length ≤ 9223372036854775807 ∧ ∀ y ∈ x, W_Int64SS y
abbrev sz_Int64SSS (x : List (List (List Int))) : Nat := sum (x.map sz_Int64SS)
abbrev mk_Int64SSS (k : Int) (x : List (List (List Int))) : List (List (List Int)) := mks mk_Int64SS sz_Int64SS k x
theorem size_Int64SSS {x : List (List (List Int))} (hB : B_Int64SSS x) : sz_Int64SSS x ≤ 1048576 := hB.tot
section
variable {S : Ids} {H0 : AH} {W : Ids} {a a' : Option Addr} {c c' : Nat} {left k : Int}
/-- .. with the very number. -/
theorem szx_Int64SS {x : List (List Int)} (l0 : 0 ≤ left) (l1 : left ≤ 1048576) (hW : W_Int64SS x) (hs : K_Int64SS.R S H0 x [.slice a x.length c]) : Spec Try.prog S H0 99 [.slice a x.length c, .int .i64 left] (fun v => ∃ r : Int, v = .int .i64 r ∧ (r = -1 ∨ (0 ≤ r ∧ r = left - ts_Int64SS x ∧ B_Int64SS x))) := by
  have hs := sl1 hs
  have hx := hW.1
  refine Spec.of1 Try.func99 rfl (by kernel_rfl) rfl (fun H _ => ?_)
  have e : IntKind.i64.wrap (left - (x.length : Int)) = left - (x.length : Int) := wr (by omega) (by omega)
  refine KW.cnd rfl rfl (fun h => KW.ret rfl rfl rfl rfl ⟨-1, rfl, .inl rfl⟩) (fun h => ?_)
  rw [e] at h
  refine KW.lp rfl rfl (fun s : Nat × Int => [(0, .slice a x.length c), (1, .int .i64 s.2), (5, .int .i64 s.1)]) (fun s => s.1 ≤ x.length ∧ 0 ≤ s.2 ∧ s.2 = left - x.length - (sum ((lens x).take s.1) : Nat)) (fun s => x.length - s.1) ((0, left - x.length)) (⟨by omega, by simp only; omega, by simp [sum]⟩) ⟨rfl, congrArg (Value.int .i64) e, rfl, trivial⟩ (fun s hi bE n => ?_)
  obtain ⟨i, r⟩ := s
  obtain ⟨hi, hr0, hr1⟩ := hi
  simp only at hi hr0 hr1
  refine KW.cnd rfl rfl (fun h2 => ?_) (fun h2 => KW.ret rfl rfl rfl rfl ⟨_, rfl, .inr ⟨hr0, ?_, ?_⟩⟩)
  · refine KW.getL hs.up rfl rfl rfl rfl rfl rfl rfl rfl rfl rfl rfl rfl rfl rfl rfl rfl (by omega) (h2) (fun y a' m hy hsy => ?_)
    have hy : x[i]? = some y := hy
    have hyl : (lens x)[i]? = some y.length := by simp [hy]
    have hsum := sum_take hyl
    refine KW.call rfl rfl rfl rfl rfl (szInt64S' hr0 (by omega) (hW.2 y (List.mem_of_getElem? hy))) (fun v _ _ hv => ?_)
    obtain ⟨q, rfl, hq⟩ := hv
    refine KW.cnd rfl rfl (fun h3 => KW.ret rfl rfl rfl rfl ⟨-1, rfl, .inl rfl⟩) (fun h3 => ?_)
    exact KW.nxt rfl rfl (fun H g => ⟨(i + 1, q), ⟨by simp only; omega, by simp only; omega, by simp only [hsum]; omega⟩, by simp only; omega, ⟨rfl, rfl, congrArg (Value.int .i64) (inc64 (by omega)), trivial⟩, g⟩)
  · have : i = x.length := by omega
    subst this
    rw [List.take_of_length_le (by simp)] at hr1
    simp only [ts_Int64SS]; omega
  · have : i = x.length := by omega
    subst this
    rw [List.take_of_length_le (by simp)] at hr1
    exact ⟨by omega, by omega⟩
end
end Go.Proofs.Ytmkpfllbmdahkaa.Am
/- What the laws' own functions do at Deal: sizes, copies, equality, marks. Each holds under its own conditions. -/
set_option linter.unusedVariables false
set_option maxRecDepth 20000
namespace Go.Proofs.Ytmkpfllbmdahkaa.Am
open Go Go.RowKit Go.Proofs
abbrev T_Deal : Type := (T_Scheme) × (Int) × (List (List Int)) × (List (List (List Int)))
abbrev K_Deal : Kn T_Deal := Kn.pair (K_Scheme) (Kn.pair (KI) (Kn.pair (K_Int64SS) (K_Int64SSS)))
abbrev M_Deal : Kn T_Deal := Kn.mp (M_Scheme) (Kn.mp (KI) (Kn.mp (M_Int64SS) (M_Int64SSS)))
theorem le_Deal : KLe M_Deal K_Deal := KLe.pair (le_Scheme) (KLe.pair ((KLe.refl KI)) (KLe.pair (le_Int64SS) (le_Int64SSS)))
abbrev B_Deal (x : T_Deal) : Prop := B_Scheme x.1 ∧ I64 x.2.1 ∧ B_Int64SS x.2.2.1 ∧ B_Int64SSS x.2.2.2
abbrev W_Deal (x : T_Deal) : Prop := W_Scheme x.1 ∧ I64 x.2.1 ∧ W_Int64SS x.2.2.1 ∧ W_Int64SSS x.2.2.2
abbrev sz_Deal (x : T_Deal) : Nat := sz_Scheme x.1 + sz_Int64SS x.2.2.1 + sz_Int64SSS x.2.2.2
abbrev mk_Deal (k : Int) (x : T_Deal) : T_Deal := (mk_Scheme (k) x.1, x.2.1, mk_Int64SS (k + (sz_Scheme x.1 : Nat)) x.2.2.1, mk_Int64SSS (k + (sz_Scheme x.1 : Nat) + (sz_Int64SS x.2.2.1 : Nat)) x.2.2.2)
theorem size_Deal {x : T_Deal} (hB : B_Deal x) : sz_Deal x ≤ 4194304 := by have := size_Scheme hB.1; have := size_Int64SS hB.2.2.1; have := size_Int64SSS hB.2.2.2; simp only [sz_Deal]; omega
section
variable {S : Ids} {H0 : AH} {W : Ids} {left k : Int}
theorem form_Deal {x : T_Deal} {cs : List Value} (h : K_Deal.R S H0 x cs) : ∃ a1 c1 a2 c2 a3 c3 a4 c4, cs = [.int .i64 x.1.1, .slice a1 x.1.2.1.length c1, .int .i64 x.1.2.2.1, .int .i64 x.1.2.2.2.1, .slice a2 x.1.2.2.2.2.length c2, .int .i64 x.2.1, .slice a3 x.2.2.1.length c3, .slice a4 x.2.2.2.length c4] := by
  obtain ⟨e0, d0, rfl, h0, h0_⟩ := h
  obtain ⟨e1, d1, rfl, h1, h1_⟩ := h0_
  obtain ⟨e2, d2, rfl, h2, h2_⟩ := h1_
  have h3 := h2_
  obtain ⟨a1, c1, a2, c2, rfl⟩ := form_Scheme h0
  obtain rfl := KI_of h1
  obtain ⟨a3, c3, rfl⟩ := slform h2
  obtain ⟨a4, c4, rfl⟩ := slform h3
  exact ⟨a1, c1, a2, c2, a3, c3, a4, c4, rfl⟩
theorem formM_Deal {x : T_Deal} {cs : List Value} (h : M_Deal.R S H0 x cs) : ∃ a1 c1 a2 c2 a3 c3 a4 c4, cs = [.int .i64 x.1.1, .slice a1 x.1.2.1.length c1, .int .i64 x.1.2.2.1, .int .i64 x.1.2.2.2.1, .slice a2 x.1.2.2.2.2.length c2, .int .i64 x.2.1, .slice a3 x.2.2.1.length c3, .slice a4 x.2.2.2.length c4] := form_Deal (le_Deal.2 _ _ _ _ h)
theorem split_Deal {x : T_Deal} {cs : List Value} (h : K_Deal.R S H0 x cs) : ∃ a1 c1 a2 c2 a3 c3 a4 c4, cs = [.int .i64 x.1.1, .slice a1 x.1.2.1.length c1, .int .i64 x.1.2.2.1, .int .i64 x.1.2.2.2.1, .slice a2 x.1.2.2.2.2.length c2, .int .i64 x.2.1, .slice a3 x.2.2.1.length c3, .slice a4 x.2.2.2.length c4] ∧ K_Scheme.R S H0 x.1 [.int .i64 x.1.1, .slice a1 x.1.2.1.length c1, .int .i64 x.1.2.2.1, .int .i64 x.1.2.2.2.1, .slice a2 x.1.2.2.2.2.length c2] ∧ K_Int64SS.R S H0 x.2.2.1 [.slice a3 x.2.2.1.length c3] ∧ K_Int64SSS.R S H0 x.2.2.2 [.slice a4 x.2.2.2.length c4] := by
  obtain ⟨e0, d0, rfl, h0, h0_⟩ := h
  obtain ⟨e1, d1, rfl, h1, h1_⟩ := h0_
  obtain ⟨e2, d2, rfl, h2, h2_⟩ := h1_
  have h3 := h2_
  obtain ⟨a1, c1, a2, c2, rfl⟩ := form_Scheme h0
  obtain rfl := KI_of h1
  obtain ⟨a3, c3, rfl⟩ := slform h2
  obtain ⟨a4, c4, rfl⟩ := slform h3
  exact ⟨a1, c1, a2, c2, a3, c3, a4, c4, rfl, h0, h2, h3⟩
theorem splitM_Deal {x : T_Deal} {cs : List Value} (h : M_Deal.R S H0 x cs) : ∃ (a1 : Option Addr) (c1 : Nat) (a2 : Option Addr) (c2 : Nat) (a3 : Option Addr) (c3 : Nat) (a4 : Option Addr) (c4 : Nat) (X0 : Ids) (X2 : Ids) (X3 : Ids), cs = [.int .i64 x.1.1, .slice a1 x.1.2.1.length c1, .int .i64 x.1.2.2.1, .int .i64 x.1.2.2.2.1, .slice a2 x.1.2.2.2.2.length c2, .int .i64 x.2.1, .slice a3 x.2.2.1.length c3, .slice a4 x.2.2.2.length c4] ∧ M_Scheme.R X0 H0 x.1 [.int .i64 x.1.1, .slice a1 x.1.2.1.length c1, .int .i64 x.1.2.2.1, .int .i64 x.1.2.2.2.1, .slice a2 x.1.2.2.2.2.length c2] ∧ M_Int64SS.R X2 H0 x.2.2.1 [.slice a3 x.2.2.1.length c3] ∧ M_Int64SSS.R X3 H0 x.2.2.2 [.slice a4 x.2.2.2.length c4] ∧ (∀ id, X0 id → S id) ∧ (∀ id, X2 id → S id) ∧ (∀ id, X3 id → S id) ∧ (∀ id, X0 id → X2 id → False) ∧ (∀ id, X0 id → X3 id → False) ∧ (∀ id, X2 id → X3 id → False) := by
  obtain ⟨e0, d0, X0, Y0, rfl, i0, j0, q0, h0, h0_⟩ := h
  obtain ⟨e1, d1, X1, Y1, rfl, i1, j1, q1, h1, h1_⟩ := h0_
  obtain ⟨e2, d2, X2, Y2, rfl, i2, j2, q2, h2, h2_⟩ := h1_
  have h3 := h2_
  obtain ⟨a1, c1, a2, c2, rfl⟩ := formM_Scheme h0
  obtain rfl := KI_of h1
  obtain ⟨a3, c3, rfl⟩ := mlform h2
  obtain ⟨a4, c4, rfl⟩ := mlform h3
  exact ⟨a1, c1, a2, c2, a3, c3, a4, c4, X0, X2, Y2, rfl, h0, h2, h3, fun _ p => i0 _ p, fun _ p => j0 _ (j1 _ (i2 _ p)), fun _ p => j0 _ (j1 _ (j2 _ p)), fun _ o p => q0 _ o (j1 _ (i2 _ p)), fun _ o p => q0 _ o (j1 _ (j2 _ p)), fun _ o p => q2 _ o (p)⟩
end
end Go.Proofs.Ytmkpfllbmdahkaa.Am
/- Contracts: valid schemes and deals, of the program and of the reference. Each holds under its own conditions. -/
set_option linter.unusedVariables false
set_option maxRecDepth 20000
namespace Go.Proofs.Ytmkpfllbmdahkaa.Am
open Go Go.RowKit Go.Proofs
structure OkSch (h : Int) (ow : List Int) (p c : Int) (rows : List (List Int)) : Prop where
  h1 : 1 ≤ h
  h7 : h ≤ 7
  mat : OkMat p c rows
  c1 : 1 ≤ c
  len : ow.length = rows.length
  own : ∀ x ∈ ow, 0 ≤ x ∧ x ≤ h - 1
section
variable {S : Ids} {H0 : AH}
theorem validScheme1 (h y : Int) (hh : 1 ≤ h ∧ h ≤ 7) {id : Nat} {b : Blk} {vs : List Value} (hb : b.cells = .int .i64 h :: vs) (hv : S id ∧ H0.m id = some b) : Spec Try.prog S H0 199 [.int .i64 y, .pointer (some ⟨id, 0, none⟩)] (fun v => v = .bool (!decide (0 ≤ y ∧ y ≤ h - 1))) := by
  refine Spec.of1 Try.func199 rfl (by kernel_rfl) rfl (fun H _ => ?_)
  obtain ⟨hS1, hm1⟩ := On.blk (S' := Low H.n) (H' := H) hv.1 hv.2
  obtain ⟨ty, rw, cs⟩ := b
  subst hb
  refine KW.ldP hS1 hm1 rfl rfl rfl rfl rfl rfl ?_
  refine KW.callE rfl rfl rfl rfl rfl (within _ _ _) (fun _ _ => ?_)
  have e : IntKind.i64.wrap (h - 1) = h - 1 := wr (by omega) (by omega)
  refine KW.ret rfl rfl rfl rfl ?_
  rw [e]; rfl
theorem validScheme (h p c : Int) (hp : I64 p) {a1 c1 a2 c2} {ow : List Int} {rows : List (List Int)} (hO : B_Int64S ow) (hB : B_Int64SS rows) (ho : KI.Sl S H0 (.slice a1 ow.length c1) ow) (hs : KI.sl.Sl S H0 (.slice a2 rows.length c2) rows) :
    Spec Try.prog S H0 110 [.agg #[.int .i64 h, .slice a1 ow.length c1, .int .i64 p, .int .i64 c, .slice a2 rows.length c2]] (fun v => v = .bool (tv (OkSch h ow p c rows))) := by
  refine Spec.of1 Try.func110 rfl (by kernel_rfl) rfl (fun H _ => ?_)
  refine KW.callE rfl rfl rfl rfl rfl (within _ _ _) (fun _ _ => ?_)
  refine KW.tstB rfl rfl (fun k1 => ?_) (fun k1 => ?_)
  · have k1 : 1 ≤ h ∧ h ≤ 7 := by simpa using k1
    refine KW.callE rfl rfl rfl rfl rfl (validMatrix p c hp hB hs.up) (fun _ _ => ?_)
    refine KW.tstB rfl rfl (fun k2 => ?_) (fun k2 => ?_)
    · have k2 := tv_iff.1 k2
      refine KW.tst rfl rfl (fun k3 => ?_) (fun k3 => ?_)
      · have k3 : 1 ≤ c := k3
        refine KW.tstB rfl rfl (fun k4 => ?_) (fun k4 => ?_)
        · have k4 : ow.length = rows.length := by simp at k4; omega
          have hO' : ow.length ≤ 1048576 := hO
          refine KW.callV1 rfl rfl rfl rfl rfl (fun H1 g _ => containsFuncI (p := fun y => !decide (0 ≤ y ∧ y ≤ h - 1)) (by omega) ho.up (fun S' H' o y _ => validScheme1 h y k1 rfl (g.var (j := 0) rfl))) (fun _ _ => ?_)
          refine KW.ret rfl rfl rfl rfl ?_
          show Value.bool (!tv (∃ x ∈ ow, (!decide (0 ≤ x ∧ x ≤ h - 1)) = true)) = _
          by_cases hx : OkSch h ow p c rows
          · rw [tv_true hx, tv_false (fun ⟨x, h1, h2⟩ => by have := hx.own x h1; simp at h2; omega)]; rfl
          · rw [tv_false hx, tv_true ?_]; · rfl
            refine Classical.byContradiction fun hc => hx ⟨k1.1, k1.2, k2, k3, k4, fun x h1 => ?_⟩
            refine Classical.byContradiction fun h2 => hc ⟨x, h1, by simp; omega⟩
        · have k4 : ow.length ≠ rows.length := by simp at k4; omega
          repeat first | refine KW.tT rfl rfl rfl ?_ | refine KW.tF rfl rfl rfl ?_
          exact KW.ret rfl rfl rfl rfl (by rw [tv_false (p := OkSch h ow p c rows) (fun hc => k4 hc.len)]; rfl)
      · have k3 : ¬ 1 ≤ c := k3
        repeat first | refine KW.tT rfl rfl rfl ?_ | refine KW.tF rfl rfl rfl ?_
        exact KW.ret rfl rfl rfl rfl (by rw [tv_false (p := OkSch h ow p c rows) (fun hc => k3 hc.c1)]; rfl)
    · repeat first | refine KW.tT rfl rfl rfl ?_ | refine KW.tF rfl rfl rfl ?_
      exact KW.ret rfl rfl rfl rfl (by rw [tv_false (p := OkSch h ow p c rows) (fun hc => by rw [tv_true hc.mat] at k2; cases k2)]; rfl)
  · have k1 : ¬ (1 ≤ h ∧ h ≤ 7) := by simp at k1; omega
    repeat first | refine KW.tT rfl rfl rfl ?_ | refine KW.tF rfl rfl rfl ?_
    exact KW.ret rfl rfl rfl rfl (by rw [tv_false (p := OkSch h ow p c rows) (fun hc => k1 ⟨hc.h1, hc.h7⟩)]; rfl)
theorem Has3.drop {S : Ids} {H : AH} {id k : Nat} {vs ws : List Value} (h : Has3 S H id k (vs ++ ws)) : Has3 S H id (k + vs.length) ws := by
  obtain ⟨h1, b, h2, h3⟩ := h
  exact ⟨h1, b, h2, fun i v hi => by rw [Nat.add_assoc]; exact h3 _ v (by rw [List.getElem?_append_right (by omega)]; simpa using hi)⟩
theorem Has3.take {S : Ids} {H : AH} {id k : Nat} {vs ws : List Value} (h : Has3 S H id k (vs ++ ws)) : Has3 S H id k vs := by
  obtain ⟨h1, b, h2, h3⟩ := h
  exact ⟨h1, b, h2, fun i v hi => h3 i v (by rw [List.getElem?_append_left (List.getElem?_eq_some_iff.1 hi).1]; exact hi)⟩
theorem Good.has {S0 : Ids} {H0 H1 : AH} {T : List Var} {n j id : Nat} {b : Blk} {vs : List Value} (g : Good S0 H0 T n H1) (hj : T[j]? = some (id, b)) (hb : b.cells = vs) : Has3 (Low H1.n) H1 id 0 vs := ⟨(g.blk hj).2, b, (g.blk hj).1, fun i v hi => by rw [hb, Nat.zero_add]; exact hi⟩
theorem l04Ok (h p c : Int) (hp : I64 p) {id k : Nat} {a1 c1 a2 c2} {ow : List Int} {rows : List (List Int)} (hO : B_Int64S ow) (hB : B_Int64SS rows) (hv : Has3 S H0 id k [.int .i64 h, .slice a1 ow.length c1, .int .i64 p, .int .i64 c, .slice a2 rows.length c2]) (ho : KI.Sl S H0 (.slice a1 ow.length c1) ow) (hs : KI.sl.Sl S H0 (.slice a2 rows.length c2) rows) :
    Spec Try.prog S H0 121 [.pointer (some ⟨id, k, none⟩)] (fun v => v = .bool (tv (OkSch h ow p c rows))) := by
  refine Spec.of1 Try.func121 rfl (by kernel_rfl) rfl (fun H _ => ?_)
  have hO' : ow.length ≤ 1048576 := hO
  have hv := hv.up (S' := Low H.n) (H' := H)
  have ho := ho.up (S' := Low H.n) (H' := H)
  have hs := hs.up (S' := Low H.n) (H' := H)
  refine KW.ldF 0 hv rfl rfl rfl rfl rfl rfl rfl rfl rfl ?_
  refine KW.callE rfl rfl rfl rfl rfl (l00In _ _ _) (fun _ _ => ?_)
  refine KW.tstB rfl rfl (fun k1 => ?_) (fun k1 => ?_)
  · have k1 : ¬ (1 ≤ h ∧ h ≤ 7) := by simp at k1; omega
    repeat first | refine KW.tT rfl rfl rfl ?_ | refine KW.tF rfl rfl rfl ?_
    first | refine KW.cT rfl rfl rfl ?_ | refine KW.cF rfl rfl rfl ?_
    exact KW.ret rfl rfl rfl rfl (by rw [tv_false (p := OkSch h ow p c rows) (fun hc => k1 ⟨hc.h1, hc.h7⟩)]; rfl)
  have k1 : 1 ≤ h ∧ h ≤ 7 := by simpa using k1
  refine KW.callE rfl rfl rfl rfl rfl (l03Ok p c hp hB (hv.drop (vs := [_, _])) hs) (fun _ _ => ?_)
  refine KW.tstB rfl rfl (fun k2 => ?_) (fun k2 => ?_)
  · repeat first | refine KW.tT rfl rfl rfl ?_ | refine KW.tF rfl rfl rfl ?_
    first | refine KW.cT rfl rfl rfl ?_ | refine KW.cF rfl rfl rfl ?_
    exact KW.ret rfl rfl rfl rfl (by rw [tv_false (p := OkSch h ow p c rows) (fun hc => by rw [tv_true hc.mat] at k2; cases k2)]; rfl)
  have k2 : OkMat p c rows := tv_iff.1 (by simpa using k2)
  refine KW.ldF 3 hv rfl rfl rfl rfl rfl rfl rfl rfl rfl ?_
  refine KW.tst rfl rfl (fun k3 => ?_) (fun k3 => ?_)
  · have k3 : c < 1 := k3
    repeat first | refine KW.tT rfl rfl rfl ?_ | refine KW.tF rfl rfl rfl ?_
    first | refine KW.cT rfl rfl rfl ?_ | refine KW.cF rfl rfl rfl ?_
    exact KW.ret rfl rfl rfl rfl (by rw [tv_false (p := OkSch h ow p c rows) (fun hc => by have := hc.c1; omega)]; rfl)
  have k3 : ¬ c < 1 := k3
  refine KW.ldF 1 hv rfl rfl rfl rfl rfl rfl rfl rfl rfl ?_
  refine KW.ldF 4 hv rfl rfl rfl rfl rfl rfl rfl rfl rfl ?_
  refine KW.cndB rfl rfl (fun k4 => ?_) (fun k4 => ?_)
  · have k4 : ow.length ≠ rows.length := by simp at k4; omega
    exact KW.ret rfl rfl rfl rfl (by rw [tv_false (p := OkSch h ow p c rows) (fun hc => k4 hc.len)]; rfl)
  have k4 : ow.length = rows.length := by simp at k4; omega
  refine KW.lp rfl rfl (fun i : Nat => [(0, .pointer (some ⟨id, k, none⟩)), (3, .int .i64 i)]) (fun i => i ≤ ow.length ∧ ∀ j, j < i → ∀ x, ow[j]? = some x → 0 ≤ x ∧ x ≤ h - 1) (fun i => ow.length - i) (0) (⟨by omega, fun j h => absurd h (by omega)⟩) ⟨rfl, rfl, trivial⟩ (fun i hi bE n => ?_)
  obtain ⟨hi, hj⟩ := hi
  refine KW.ldF 1 hv rfl rfl rfl rfl rfl rfl rfl rfl rfl ?_
  refine KW.cnd rfl rfl (fun k5 => ?_) (fun k5 => ?_)
  · refine KW.ldF 1 hv rfl rfl rfl rfl rfl rfl rfl rfl rfl ?_
    refine KW.getI ho rfl rfl rfl rfl rfl rfl rfl rfl rfl rfl rfl rfl rfl rfl rfl rfl (by omega) (k5) (fun y hy => ?_)
    have hy : ow[i]? = some y := hy
    refine KW.ldF 0 hv rfl rfl rfl rfl rfl rfl rfl rfl rfl ?_
    refine KW.callE rfl rfl rfl rfl rfl (l00In _ _ _) (fun _ _ => ?_)
    have e : IntKind.i64.wrap (h - 1) = h - 1 := wr (by omega) (by omega)
    rw [e]
    refine KW.cndB rfl rfl (fun k6 => ?_) (fun k6 => ?_)
    · exact KW.ret rfl rfl rfl rfl (by rw [tv_false (p := OkSch h ow p c rows) (fun hc => by have := hc.own y (List.mem_of_getElem? hy); simp at k6; omega)]; rfl)
    · refine KW.nxt rfl rfl (fun H' g => ⟨i + 1, ⟨by omega, upto hj (fun z hz => by rw [hy] at hz; cases hz; simpa using k6)⟩, by first | omega | (simp only; omega), ⟨rfl, congrArg (Value.int .i64) (inc64 (by omega)), trivial⟩, g⟩)
  · exact KW.ret rfl rfl rfl rfl (by rw [tv_true (p := OkSch h ow p c rows) ⟨k1.1, k1.2, k2, by omega, k4, all_of (fun j hjl => hj j (by omega))⟩]; rfl)
end
/-- Keys of an epoch. -/
def KeysOk (p : Int) (n : Nat) (kk : List (List Int)) : Prop := kk.length = n ∧ ∀ y ∈ kk, y.length = 2 ∧ Elems p y
structure OkDeal (h : Int) (ow : List Int) (p c : Int) (rows : List (List Int)) (s : Int) (bs : List (List Int)) (ks : List (List (List Int))) : Prop where
  sch : OkSch h ow p c rows
  sec : 0 ≤ s ∧ s ≤ p - 1
  bl : 1 ≤ bs.length ∧ bs.length ≤ 4
  kl : ks.length = bs.length
  bk : ∀ (e : Nat) b kk, bs[e]? = some b → ks[e]? = some kk → ((b.length : Int) = c - 1 ∧ Elems p b) ∧ KeysOk p rows.length kk
section
variable {S : Ids} {H0 : AH}
theorem validDeal (h p c s : Int) (hp : I64 p) {a1 c1 a2 c2 a3 c3 a4 c4} {ow : List Int} {rows bs : List (List Int)} {ks : List (List (List Int))} (hO : B_Int64S ow) (hB : B_Int64SS rows) (hBb : B_Int64SS bs) (hBk : B_Int64SSS ks)
    (ho : KI.Sl S H0 (.slice a1 ow.length c1) ow) (hs : KI.sl.Sl S H0 (.slice a2 rows.length c2) rows) (hb : KI.sl.Sl S H0 (.slice a3 bs.length c3) bs) (hk : KI.sl.sl.Sl S H0 (.slice a4 ks.length c4) ks) :
    Spec Try.prog S H0 207 [.agg #[.int .i64 h, .slice a1 ow.length c1, .int .i64 p, .int .i64 c, .slice a2 rows.length c2, .int .i64 s, .slice a3 bs.length c3, .slice a4 ks.length c4]] (fun v => v = .bool (tv (OkDeal h ow p c rows s bs ks))) := by
  refine Spec.of1 Try.func207 rfl (by kernel_rfl) rfl (fun H _ => ?_)
  have bl := hBb.len
  have kl := hBk.len
  refine KW.callE rfl rfl rfl rfl rfl (validScheme h p c hp hO hB ho.up hs.up) (fun _ _ => ?_)
  refine KW.tstB rfl rfl (fun k1 => ?_) (fun k1 => ?_)
  · repeat first | refine KW.tT rfl rfl rfl ?_ | refine KW.tF rfl rfl rfl ?_
    first | refine KW.cT rfl rfl rfl ?_ | refine KW.cF rfl rfl rfl ?_
    exact KW.ret rfl rfl rfl rfl (by rw [tv_false (p := OkDeal h ow p c rows s bs ks) (fun hc => by rw [tv_true hc.sch] at k1; cases k1)]; rfl)
  have k1 : OkSch h ow p c rows := tv_iff.1 (by simpa using k1)
  have hc12 := k1.mat.c1
  have hc1 := k1.c1
  refine KW.lit rfl rfl rfl rfl rfl rfl rfl rfl rfl rfl [.int .i64 s] rfl rfl (fun v hv => by simp at hv; subst hv; rfl) rfl ?_
  refine KW.callV1 rfl rfl rfl rfl rfl (fun H1 g _ => areElements p hp (xs := [s]) (by simp) (g.ints (j := 2) rfl rfl (by simp))) (fun _ _ => ?_)
  refine KW.tstB rfl rfl (fun k2 => ?_) (fun k2 => ?_)
  · repeat first | refine KW.tT rfl rfl rfl ?_ | refine KW.tF rfl rfl rfl ?_
    first | refine KW.cT rfl rfl rfl ?_ | refine KW.cF rfl rfl rfl ?_
    exact KW.ret rfl rfl rfl rfl (by rw [tv_false (p := OkDeal h ow p c rows s bs ks) (fun hc => by rw [tv_true ⟨k1.mat.pr, fun x hx => by rw [List.mem_singleton.1 hx]; exact hc.sec⟩] at k2; cases k2)]; rfl)
  have k2 : 0 ≤ s ∧ s ≤ p - 1 := (tv_iff.1 (by simpa using k2) : PrimeP p ∧ Elems p [s]).2 s (by simp)
  refine KW.callE rfl rfl rfl rfl rfl (within _ _ _) (fun _ _ => ?_)
  refine KW.tstB rfl rfl (fun k3 => ?_) (fun k3 => ?_)
  · have k3 : ¬ (1 ≤ bs.length ∧ bs.length ≤ 4) := by simp at k3; omega
    repeat first | refine KW.tT rfl rfl rfl ?_ | refine KW.tF rfl rfl rfl ?_
    first | refine KW.cT rfl rfl rfl ?_ | refine KW.cF rfl rfl rfl ?_
    exact KW.ret rfl rfl rfl rfl (by rw [tv_false (p := OkDeal h ow p c rows s bs ks) (fun hc => k3 hc.bl)]; rfl)
  have k3 : 1 ≤ bs.length ∧ bs.length ≤ 4 := by simp at k3; omega
  refine KW.cndB rfl rfl (fun k4 => ?_) (fun k4 => ?_)
  · exact KW.ret rfl rfl rfl rfl (by rw [tv_false (p := OkDeal h ow p c rows s bs ks) (fun hc => by rw [hc.kl] at k4; simp at k4)]; rfl)
  have k4 : ks.length = bs.length := by simp at k4; omega
  refine KW.lp rfl rfl (fun i : Nat => [(1, .pointer (some ⟨H.n, 0, some 0⟩)), (3, .pointer (some ⟨H.n + 1, 0, some 1⟩)), (41, .slice a3 bs.length c3), (42, .int .i64 bs.length), (43, .int .i64 i)]) (fun i => i ≤ bs.length ∧ ∀ j, j < i → ∀ b kk, bs[j]? = some b → ks[j]? = some kk → ((b.length : Int) = c - 1 ∧ Elems p b) ∧ KeysOk p rows.length kk) (fun i => bs.length - i) (0) (⟨by omega, fun j h => absurd h (by omega)⟩) ⟨rfl, rfl, rfl, rfl, rfl, trivial⟩ (fun i hi bE n => ?_)
  obtain ⟨hi, hj⟩ := hi
  refine KW.cnd rfl rfl (fun k5 => ?_) (fun k5 => ?_)
  · refine KW.getL hb.up rfl rfl rfl rfl rfl rfl rfl rfl rfl rfl rfl rfl rfl rfl rfl rfl (by omega) (k5) (fun y a' m' hy hsy => ?_)
    have hy : bs[i]? = some y := hy
    have hym := hBb.each y (List.mem_of_getElem? hy)
    obtain ⟨kk, hkk⟩ : ∃ kk, ks[i]? = some kk := ⟨ks[i]'(by omega), List.getElem?_eq_getElem (by omega)⟩
    have bad : ¬ (((y.length : Int) = c - 1 ∧ Elems p y) ∧ KeysOk p rows.length kk) → aout [Value.bool false] = .bool (tv (OkDeal h ow p c rows s bs ks)) := fun hx => by rw [tv_false (p := OkDeal h ow p c rows s bs ks) (fun hc => hx (hc.bk i y kk hy hkk))]; rfl
    have e : IntKind.i64.wrap (c - 1) = c - 1 := wr (by omega) (by omega)
    refine KW.tstB rfl rfl (fun k6 => ?_) (fun k6 => ?_)
    · rw [e] at k6
      repeat first | refine KW.tT rfl rfl rfl ?_ | refine KW.tF rfl rfl rfl ?_
      first | refine KW.cT rfl rfl rfl ?_ | refine KW.cF rfl rfl rfl ?_
      exact KW.ret rfl rfl rfl rfl (bad (fun hc => by rw [hc.1.1] at k6; simp at k6))
    rw [e] at k6
    have k6 : (y.length : Int) = c - 1 := by simpa using k6
    refine KW.callE rfl rfl rfl rfl rfl (areElements p hp (by omega) hsy) (fun _ _ => ?_)
    refine KW.tstB rfl rfl (fun k7 => ?_) (fun k7 => ?_)
    · repeat first | refine KW.tT rfl rfl rfl ?_ | refine KW.tF rfl rfl rfl ?_
      first | refine KW.cT rfl rfl rfl ?_ | refine KW.cF rfl rfl rfl ?_
      exact KW.ret rfl rfl rfl rfl (bad (fun hc => by rw [tv_true ⟨k1.mat.pr, hc.1.2⟩] at k7; cases k7))
    have k7 : Elems p y := (tv_iff.1 (by simpa using k7) : PrimeP p ∧ Elems p y).2
    refine KW.getL hk.up rfl rfl rfl rfl rfl rfl rfl rfl rfl rfl rfl rfl rfl rfl rfl rfl (by omega) (by omega) (fun kk1 a'' m'' hkk1 hskk => ?_)
    have hkk1 : ks[i]? = some kk1 := hkk1
    rw [hkk] at hkk1
    cases hkk1
    have hkB := hBk.each kk (List.mem_of_getElem? hkk)
    have hkl := hkB.len
    refine KW.cndB rfl rfl (fun k8 => ?_) (fun k8 => ?_)
    · exact KW.ret rfl rfl rfl rfl (bad (fun hc => by rw [hc.2.1] at k8; simp at k8))
    have k8 : kk.length = rows.length := by simp at k8; omega
    refine KW.getL hk.up rfl rfl rfl rfl rfl rfl rfl rfl rfl rfl rfl rfl rfl rfl rfl rfl (by omega) (by omega) (fun kk1 a'' m'' hkk1 hskk => ?_)
    have hkk1 : ks[i]? = some kk1 := hkk1
    rw [hkk] at hkk1
    cases hkk1
    refine KW.lp rfl rfl (fun q : Nat => [(1, .pointer (some ⟨H.n, 0, some 0⟩)), (3, .pointer (some ⟨H.n + 1, 0, some 1⟩)), (41, .slice a3 bs.length c3), (42, .int .i64 bs.length), (43, .int .i64 i), (77, .slice a'' kk.length m''), (78, .int .i64 kk.length), (79, .int .i64 q)]) (fun q => q ≤ kk.length ∧ ∀ j, j < q → ∀ x, kk[j]? = some x → x.length = 2 ∧ Elems p x) (fun q => kk.length - q) (0) (⟨by omega, fun j h => absurd h (by omega)⟩) ⟨rfl, rfl, rfl, rfl, rfl, rfl, rfl, rfl, trivial⟩ (fun q hi bE n => ?_)
    obtain ⟨hq, hqj⟩ := hi
    refine KW.cnd rfl rfl (fun k9 => ?_) (fun k9 => ?_)
    · refine KW.getL hskk rfl rfl rfl rfl rfl rfl rfl rfl rfl rfl rfl rfl rfl rfl rfl rfl (by omega) (k9) (fun z a3' m3' hz hsz => ?_)
      have hz : kk[q]? = some z := hz
      have hzm := List.mem_of_getElem? hz
      refine KW.tstB rfl rfl (fun k10 => ?_) (fun k10 => ?_)
      · repeat first | refine KW.tT rfl rfl rfl ?_ | refine KW.tF rfl rfl rfl ?_
        first | refine KW.cT rfl rfl rfl ?_ | refine KW.cF rfl rfl rfl ?_
        exact KW.ret rfl rfl rfl rfl (bad (fun hc => by rw [(hc.2.2 z hzm).1] at k10; simp at k10))
      have k10 : z.length = 2 := by simp at k10; omega
      refine KW.callE rfl rfl rfl rfl rfl (areElements p hp (by omega) hsz) (fun _ _ => ?_)
      refine KW.cndB rfl rfl (fun k11 => ?_) (fun k11 => ?_)
      · exact KW.ret rfl rfl rfl rfl (bad (fun hc => by rw [tv_true ⟨k1.mat.pr, (hc.2.2 z hzm).2⟩] at k11; cases k11))
      have k11 : Elems p z := (tv_iff.1 (by simpa using k11) : PrimeP p ∧ Elems p z).2
      refine KW.nxt rfl rfl (fun H' g => ⟨q + 1, ⟨by omega, upto hqj (fun x hx => by rw [hz] at hx; cases hx; exact ⟨k10, k11⟩)⟩, by first | omega | (simp only; omega), ⟨rfl, rfl, rfl, rfl, rfl, rfl, rfl, congrArg (Value.int .i64) (inc64 (by omega)), trivial⟩, g⟩)
    · refine KW.nxt rfl rfl (fun H' g => ⟨i + 1, ⟨by omega, upto hj (fun b kk1 hb1 hk1 => by rw [hy] at hb1; rw [hkk] at hk1; cases hb1; cases hk1; exact ⟨⟨k6, k7⟩, k8, all_of (fun j hjl => hqj j (by omega))⟩)⟩, by first | omega | (simp only; omega), ⟨rfl, rfl, rfl, rfl, congrArg (Value.int .i64) (inc64 (by omega)), trivial⟩, g⟩)
  · exact KW.ret rfl rfl rfl rfl (by rw [tv_true (p := OkDeal h ow p c rows s bs ks) ⟨k1, k2, k3, k4, fun e b kk h1 h2 => hj e (by have := (List.getElem?_eq_some_iff.1 h1).1; omega) b kk h1 h2⟩]; rfl)
end
end Go.Proofs.Ytmkpfllbmdahkaa.Am
/- Contracts: ValidDeal, as the law asks them. Each holds under its own conditions. -/
set_option linter.unusedVariables false
set_option maxRecDepth 20000
namespace Go.Proofs.Ytmkpfllbmdahkaa.Am
open Go Go.RowKit Go.Proofs
/-- A deal that is valid. -/
def DealOk (x : T_Deal) : Prop := OkDeal x.1.1 x.1.2.1 x.1.2.2.1 x.1.2.2.2.1 x.1.2.2.2.2 x.2.1 x.2.2.1 x.2.2.2
section
variable {S : Ids} {H0 : AH}
theorem split2_Deal {x : T_Deal} {cs : List Value} (h : K_Deal.R S H0 x cs) : ∃ a1 c1 a2 c2 a3 c3 a4 c4, cs = [.int .i64 x.1.1, .slice a1 x.1.2.1.length c1, .int .i64 x.1.2.2.1, .int .i64 x.1.2.2.2.1, .slice a2 x.1.2.2.2.2.length c2, .int .i64 x.2.1, .slice a3 x.2.2.1.length c3, .slice a4 x.2.2.2.length c4] ∧
    KI.Sl S H0 (.slice a1 x.1.2.1.length c1) x.1.2.1 ∧ KI.sl.Sl S H0 (.slice a2 x.1.2.2.2.2.length c2) x.1.2.2.2.2 ∧ KI.sl.Sl S H0 (.slice a3 x.2.2.1.length c3) x.2.2.1 ∧ KI.sl.sl.Sl S H0 (.slice a4 x.2.2.2.length c4) x.2.2.2 := by
  obtain ⟨a1, c1, a2, c2, a3, c3, a4, c4, rfl, h0, h2, h3⟩ := split_Deal h
  obtain ⟨b1, d1, b2, d2, e0, k1, k2⟩ := split_Scheme h0
  cases e0
  obtain ⟨b3, d3, e1, k3⟩ := split_Matrix k2
  cases e1
  exact ⟨a1, c1, a2, c2, a3, c3, a4, c4, rfl, sl1 k1, sl1 k3, sl1 h2, sl1 h3⟩
noncomputable def r0_ValidDeal (x : T_Deal) : Bool := tv (DealOk x)
theorem impl_ValidDeal {x : T_Deal} {cs : List Value} (hB : B_Deal x) (h : K_Deal.R S H0 x cs) : Spec Try.prog S H0 207 [.agg cs.toArray] (fun v => v = .bool (tv (DealOk x))) := by
  obtain ⟨a1, c1, a2, c2, a3, c3, a4, c4, rfl, h1, h2, h3, h4⟩ := split2_Deal h
  exact validDeal _ _ _ _ hB.1.2.2.1 hB.1.2.1 hB.1.2.2.2.2 hB.2.2.1 hB.2.2.2 h1 h2 h3 h4
end
end Go.Proofs.Ytmkpfllbmdahkaa.Am
/- Contracts: rows held, products, shares, values and tags, of the program and of the reference. Each holds under its own conditions. -/
set_option linter.unusedVariables false
set_option maxRecDepth 20000
namespace Go.Proofs.Ytmkpfllbmdahkaa.Am
open Go Go.RowKit Go.Proofs
/-- The places below n of which q tells true. -/
def rowsP (q : Nat → Bool) (n : Nat) : List Int := ((List.range n).filter q).map fun (i : Nat) => (i : Int)
theorem rowsP_next (q : Nat → Bool) (n : Nat) : rowsP q (n + 1) = if q n = true then rowsP q n ++ [(n : Int)] else rowsP q n := by
  unfold rowsP
  rw [List.range_succ, List.filter_append, List.map_append]
  by_cases hc : q n = true
  · simp [hc]
  · have hc : q n = false := by simpa using hc
    simp [hc]
theorem rowsP_len (q : Nat → Bool) (n : Nat) : (rowsP q n).length ≤ n := by
  unfold rowsP
  rw [List.length_map]
  exact Nat.le_trans (List.length_filter_le _ _) (by simp)
theorem rowsP_mem {q : Nat → Bool} {n : Nat} {x : Int} (hx : x ∈ rowsP q n) : 0 ≤ x ∧ x < n := by
  unfold rowsP at hx
  obtain ⟨i, hi, rfl⟩ := List.mem_map.1 hx
  have := List.mem_range.1 (List.mem_filter.1 hi).1
  omega
theorem rowsP_congr {q q' : Nat → Bool} {n : Nat} (h : ∀ i, i < n → q i = q' i) : rowsP q n = rowsP q' n := by
  unfold rowsP
  congr 1
  exact List.filter_congr fun i hi => h i (List.mem_range.1 hi)
abbrev rowsOf (ow : List Int) (h : Int) : List Int := rowsP (fun i => decide (ow.getD i 0 = h)) ow.length
/-- Sums of products. -/
def dotN (a b : List Int) : Nat → Int
  | 0 => 0
  | n + 1 => dotN a b n + a.getD n 0 * b.getD n 0
def dotS (p : Int) (a b : List Int) : Int := dotN a b a.length % p
theorem elem_at {p : Int} {a : List Int} (h : Elems p a) (hp : 2 ≤ p) (i : Nat) : 0 ≤ a.getD i 0 ∧ a.getD i 0 ≤ p - 1 := by
  rcases Nat.lt_or_ge i a.length with hi | hi
  · rw [List.getD_eq_getElem?_getD, List.getElem?_eq_getElem hi]
    exact h _ (List.getElem_mem hi)
  · rw [List.getD_eq_getElem?_getD, List.getElem?_eq_none hi]
    show 0 ≤ (0 : Int) ∧ (0 : Int) ≤ p - 1
    omega
theorem mul_small {p x y : Int} (hp : p ≤ 31) (hx : 0 ≤ x ∧ x ≤ p - 1) (hy : 0 ≤ y ∧ y ≤ p - 1) : 0 ≤ x * y ∧ x * y ≤ 900 := by
  refine ⟨Int.mul_nonneg hx.1 hy.1, ?_⟩
  have h1 : x * y ≤ 30 * 30 := Int.mul_le_mul (by omega) (by omega) hy.1 (by omega)
  omega
theorem dotN_in {p : Int} {a b : List Int} (hp : PrimeP p) (ha : Elems p a) (hb : Elems p b) : ∀ n, 0 ≤ dotN a b n ∧ dotN a b n ≤ 900 * n
  | 0 => by simp [dotN]
  | n + 1 => by
    have h1 := dotN_in hp ha hb n
    have h2 := mul_small hp.2.1 (elem_at ha hp.1 n) (elem_at hb hp.1 n)
    simp only [dotN]
    omega
def shares (p : Int) (rows : List (List Int)) (all : List Int) : List Int := rows.map fun r => dotS p r all
theorem map_take_succ {α β : Type} (f : α → β) {xs : List α} {i : Nat} {x : α} (h : xs[i]? = some x) : (xs.take (i + 1)).map f = (xs.take i).map f ++ [f x] := by
  obtain ⟨hi, rfl⟩ := List.getElem?_eq_some_iff.1 h
  rw [List.take_succ_eq_append_getElem hi, List.map_append]; rfl
section
variable {S : Ids} {H0 : AH}
theorem dot (p : Int) (hp : PrimeP p) {a1 c1 a2 c2} {a b : List Int} (hl : a.length = b.length) (h12 : a.length ≤ 1048576) (ea : Elems p a) (eb : Elems p b) (ha : KI.Sl S H0 (.slice a1 a.length c1) a) (hb : KI.Sl S H0 (.slice a2 b.length c2) b) :
    Spec Try.prog S H0 142 [.int .i64 p, .slice a1 a.length c1, .slice a2 b.length c2] (fun v => v = .int .i64 (dotS p a b)) := by
  refine Spec.of1 Try.func142 rfl (by kernel_rfl) rfl (fun H _ => ?_)
  refine KW.lp rfl rfl (fun i : Nat => [(0, .int .i64 p), (2, .slice a2 b.length c2), (7, .int .i64 (dotN a b i)), (10, .slice a1 a.length c1), (11, .int .i64 a.length), (12, .int .i64 i)]) (fun i => i ≤ a.length) (fun i => a.length - i) (0) (by omega) ⟨rfl, rfl, rfl, rfl, rfl, rfl, trivial⟩ (fun i hi bE n => ?_)
  refine KW.cnd rfl rfl (fun h => ?_) (fun h => ?_)
  · refine KW.getI ha.up rfl rfl rfl rfl rfl rfl rfl rfl rfl rfl rfl rfl rfl rfl rfl rfl (by omega) (h) (fun x hx => ?_)
    refine KW.getI hb.up rfl rfl rfl rfl rfl rfl rfl rfl rfl rfl rfl rfl rfl rfl rfl rfl (by omega) (by omega) (fun y hy => ?_)
    have hx : a.getD i 0 = x := getD_of hx
    have hy : b.getD i 0 = y := getD_of hy
    have h1 := dotN_in hp ea eb i
    have h2 := mul_small hp.2.1 (elem_at ea hp.1 i) (elem_at eb hp.1 i)
    have e : dotN a b (i + 1) = dotN a b i + a.getD i 0 * b.getD i 0 := rfl
    rw [hx, hy] at h2 e
    have e2 : Value.int .i64 (IntKind.i64.wrap (dotN a b i + IntKind.i64.wrap (x * y))) = .int .i64 (dotN a b (i + 1)) := by
      rw [wr (x := x * y) (by omega) (by omega), wr (by omega) (by omega), e]
    refine KW.nxt rfl rfl (fun H' g => ⟨i + 1, by omega, by first | omega | (simp only; omega), ⟨rfl, rfl, e2, rfl, rfl, congrArg (Value.int .i64) (inc64 (by omega)), trivial⟩, g⟩)
  · obtain rfl : i = a.length := by omega
    have h1 := dotN_in hp ea eb a.length
    refine KW.rem rfl rfl rfl rfl rfl rfl (h1.1) (by have := hp.1; omega) ?_
    exact KW.ret rfl rfl rfl rfl (rfl)
theorem l03Dot (p : Int) (hp : PrimeP p) {a1 c1 a2 c2} {a b : List Int} (hl : a.length = b.length) (h12 : a.length ≤ 1048576) (ea : Elems p a) (eb : Elems p b) (ha : KI.Sl S H0 (.slice a1 a.length c1) a) (hb : KI.Sl S H0 (.slice a2 b.length c2) b) :
    Spec Try.prog S H0 115 [.int .i64 p, .slice a1 a.length c1, .slice a2 b.length c2] (fun v => v = .int .i64 (dotS p a b)) := by
  refine Spec.of1 Try.func115 rfl (by kernel_rfl) rfl (fun H _ => ?_)
  refine KW.lp rfl rfl (fun i : Nat => [(0, .int .i64 p), (1, .slice a1 a.length c1), (2, .slice a2 b.length c2), (7, .int .i64 (dotN a b i)), (8, .int .i64 i)]) (fun i => i ≤ a.length) (fun i => a.length - i) (0) (by omega) ⟨rfl, rfl, rfl, rfl, rfl, trivial⟩ (fun i hi bE n => ?_)
  refine KW.cnd rfl rfl (fun h => ?_) (fun h => ?_)
  · refine KW.getI ha.up rfl rfl rfl rfl rfl rfl rfl rfl rfl rfl rfl rfl rfl rfl rfl rfl (by omega) (h) (fun x hx => ?_)
    refine KW.getI hb.up rfl rfl rfl rfl rfl rfl rfl rfl rfl rfl rfl rfl rfl rfl rfl rfl (by omega) (by omega) (fun y hy => ?_)
    have hx : a.getD i 0 = x := getD_of hx
    have hy : b.getD i 0 = y := getD_of hy
    have h1 := dotN_in hp ea eb i
    have h2 := mul_small hp.2.1 (elem_at ea hp.1 i) (elem_at eb hp.1 i)
    have e : dotN a b (i + 1) = dotN a b i + a.getD i 0 * b.getD i 0 := rfl
    rw [hx, hy] at h2 e
    have e2 : Value.int .i64 (IntKind.i64.wrap (dotN a b i + IntKind.i64.wrap (x * y))) = .int .i64 (dotN a b (i + 1)) := by
      rw [wr (x := x * y) (by omega) (by omega), wr (by omega) (by omega), e]
    refine KW.nxt rfl rfl (fun H' g => ⟨i + 1, by omega, by first | omega | (simp only; omega), ⟨rfl, rfl, rfl, e2, congrArg (Value.int .i64) (inc64 (by omega)), trivial⟩, g⟩)
  · obtain rfl : i = a.length := by omega
    have h1 := dotN_in hp ea eb a.length
    refine KW.rem rfl rfl rfl rfl rfl rfl (h1.1) (by have := hp.1; omega) ?_
    exact KW.ret rfl rfl rfl rfl (rfl)
/-- What a maker of a list of numbers yields. -/
def MkL (xs : List Int) (n : Nat) (v : Value) (H1 : AH) : Prop := ∃ a c, v = .slice a xs.length c ∧ KI.Ml (New n H1.n) H1 (.slice a xs.length c) xs
theorem MkL.of {S0 : Ids} {H0 H1 : AH} {T : List Var} {n j id n0 : Nat} {ty : TypeId} {xs : List Int} (g : Good S0 H0 T n H1) (hj : T[j]? = some (id, ⟨ty, true, xs.map (Value.int .i64)⟩)) (hn : n0 ≤ id) : MkL xs n0 (.slice (some ⟨id, 0, some 1⟩) xs.length xs.length) H1 :=
  ⟨_, _, rfl, int_ml ⟨hn, (g.blk hj).2⟩ (g.blk hj).1 rfl rfl (Nat.le_refl _)⟩
theorem rowsHeld (h p c : Int) (x : Nat) (hx : x < 4611686018427387904) {a1 c1} {v2 : Option Addr} {n2 c2 : Nat} {ow : List Int} (hO : B_Int64S ow) (hown : ∀ x ∈ ow, 0 ≤ x ∧ x ≤ h - 1) (hh : h ≤ 7) (ho : KI.Sl S H0 (.slice a1 ow.length c1) ow) :
    SpecM Try.prog S H0 149 [.agg #[.int .i64 h, .slice a1 ow.length c1, .int .i64 p, .int .i64 c, .slice v2 n2 c2], .int .u64 (x : Int)] (MkL (rowsP (fun i => x.testBit (ow.getD i 0).toNat) ow.length)) := by
  refine SpecM.of1 Try.func149 rfl (by kernel_rfl) rfl (fun H _ => ?_)
  have hO' : ow.length ≤ 1048576 := hO
  refine KW.lit rfl rfl rfl rfl rfl rfl rfl rfl rfl rfl [] rfl rfl (fun v hv => by simp at hv) rfl ?_
  refine KW.lpM rfl rfl (fun s : Nat × Nat => [(1, .int .u64 (x : Int)), (5, .slice (some ⟨s.2, 0, some 1⟩) (rowsP (fun i => x.testBit (ow.getD i 0).toNat) s.1).length (rowsP (fun i => x.testBit (ow.getD i 0).toNat) s.1).length), (10, .slice a1 ow.length c1), (11, .int .i64 ow.length), (12, .int .i64 s.1)]) (fun s => Low H.n) (fun s => H) (fun s => [(H.n, ⟨_, true, _⟩), (s.2, ⟨_, true, (rowsP (fun i => x.testBit (ow.getD i 0).toNat) s.1).map (Value.int .i64)⟩)]) (fun s => s.1 ≤ ow.length) (fun s => ow.length - s.1) ((0, H.n + 1)) (by simp) ⟨rfl, rfl, rfl, rfl, rfl, trivial⟩ rfl rfl rfl (fun s hi bE n => ?_)
  obtain ⟨q, o⟩ := s
  simp only at hi
  have hq : (rowsP (fun i => x.testBit (ow.getD i 0).toNat) q).length ≤ q := rowsP_len _ q
  refine KW.cnd rfl rfl (fun k1 => ?_) (fun k1 => ?_)
  · refine KW.getI ho.up rfl rfl rfl rfl rfl rfl rfl rfl rfl rfl rfl rfl rfl rfl rfl rfl (by omega) (k1) (fun y hy => ?_)
    have hy' : ow[q]? = some y := hy
    have hyb := hown y (List.mem_of_getElem? hy')
    obtain ⟨z, rfl⟩ : ∃ z : Nat, y = z := ⟨y.toNat, by omega⟩
    have hyd : ow.getD q 0 = z := getD_of hy'
    have e := rowsP_next (fun i => x.testBit (ow.getD i 0).toNat) q
    simp only [hyd, Int.toNat_natCast] at e
    refine KW.callE rfl rfl rfl rfl rfl (has (x := x) (h := z) hx (by omega)) (fun _ _ => ?_)
    refine KW.cndB rfl rfl (fun k2 => ?_) (fun k2 => ?_)
    · rw [if_pos k2] at e
      refine KW.app1 (xs := (rowsP (fun i => x.testBit (ow.getD i 0).toNat) q).map (Value.int .i64)) (v := .int .i64 q) 1 2 rfl rfl rfl rfl rfl rfl rfl rfl rfl rfl rfl rfl rfl rfl rfl rfl rfl rfl rfl rfl rfl rfl rfl (by simp) (by show (_ + 1) * 8 ≤ _; first | omega | (simp only; omega)) (by first | omega | (simp only; omega)) ?_
      refine KW.nxt rfl rfl (fun H' g => ⟨(q + 1, _), by simp only; omega, by first | omega | (simp only; omega), ⟨rfl, by simp only [e, List.length_append, List.length_singleton]; rfl, rfl, rfl, congrArg (Value.int .i64) (inc64 (by omega)), trivial⟩, g.eqT (by simp only [e, List.map_append]; rfl)⟩)
    · rw [if_neg (by rw [k2]; decide)] at e
      refine KW.nxt rfl rfl (fun H' g => ⟨(q + 1, o), by simp only; omega, by first | omega | (simp only; omega), ⟨rfl, by simp only [e]; rfl, rfl, rfl, congrArg (Value.int .i64) (inc64 (by omega)), trivial⟩, g.eqT (by simp only [e])⟩)
  · obtain rfl : q = ow.length := by simp only at k1; omega
    refine KW.retM1 rfl rfl rfl rfl (fun H1 g => MkL.of g (j := 1) rfl (g.ge (H1 := H) (j := 1) rfl))
theorem l00Has (n0 : Int) {a c} {xs : List Int} (hl : xs.length ≤ 1048576) (hs : KI.Sl S H0 (.slice a xs.length c) xs) : Spec Try.prog S H0 240 [.slice a xs.length c, .int .i64 n0] (fun v => v = .bool (decide (n0 ∈ xs))) := by
  refine Spec.of1 Try.func240 rfl (by kernel_rfl) rfl (fun H _ => ?_)
  refine KW.lp rfl rfl (fun i : Nat => [(0, .slice a xs.length c), (1, .int .i64 n0), (5, .int .i64 i)]) (fun i => i ≤ xs.length ∧ ∀ j, j < i → ∀ x, xs[j]? = some x → x ≠ n0) (fun i => xs.length - i) (0) (⟨by omega, fun j h => absurd h (by omega)⟩) ⟨rfl, rfl, rfl, trivial⟩ (fun i hi bE n => ?_)
  obtain ⟨hi, hj⟩ := hi
  refine KW.cnd rfl rfl (fun k1 => ?_) (fun k1 => ?_)
  · refine KW.getI hs.up rfl rfl rfl rfl rfl rfl rfl rfl rfl rfl rfl rfl rfl rfl rfl rfl (by omega) (k1) (fun y hy => ?_)
    have hy : xs[i]? = some y := hy
    refine KW.cndB rfl rfl (fun k2 => ?_) (fun k2 => ?_)
    · have k2 : y = n0 := by simpa using k2
      exact KW.ret rfl rfl rfl rfl (by rw [← k2, decide_eq_true (List.mem_of_getElem? hy)]; rfl)
    · have k2 : y ≠ n0 := by simpa using k2
      refine KW.nxt rfl rfl (fun H' g => ⟨i + 1, ⟨by omega, upto hj (fun z hz => by rw [hy] at hz; cases hz; exact k2)⟩, by first | omega | (simp only; omega), ⟨rfl, rfl, congrArg (Value.int .i64) (inc64 (by omega)), trivial⟩, g⟩)
  · exact KW.ret rfl rfl rfl rfl (by rw [decide_eq_false (fun hm => all_of (fun j hjl => hj j (by omega)) n0 hm rfl)]; rfl)
theorem l04Held (h p c : Int) {id k : Nat} {a1 c1 a c2} {ow g0 : List Int} {v2 : Value} (hO : B_Int64S ow) (hG : g0.length ≤ 1048576) (hv : Has3 S H0 id k [.int .i64 h, .slice a1 ow.length c1, .int .i64 p, .int .i64 c, v2]) (ho : KI.Sl S H0 (.slice a1 ow.length c1) ow) (hg : KI.Sl S H0 (.slice a g0.length c2) g0) :
    SpecM Try.prog S H0 197 [.pointer (some ⟨id, k, none⟩), .slice a g0.length c2] (MkL (rowsP (fun i => decide (ow.getD i 0 ∈ g0)) ow.length)) := by
  refine SpecM.of1 Try.func197 rfl (by kernel_rfl) rfl (fun H _ => ?_)
  have hO' : ow.length ≤ 1048576 := hO
  have hv := hv.up (S' := Low H.n) (H' := H)
  refine KW.lit rfl rfl rfl rfl rfl rfl rfl rfl rfl rfl [] rfl rfl (fun v hv => by simp at hv) rfl ?_
  refine KW.lpM rfl rfl (fun s : Nat × Nat => [(0, .pointer (some ⟨id, k, none⟩)), (1, .slice a g0.length c2), (5, .slice (some ⟨s.2, 0, some 1⟩) (rowsP (fun i => decide (ow.getD i 0 ∈ g0)) s.1).length (rowsP (fun i => decide (ow.getD i 0 ∈ g0)) s.1).length), (6, .int .i64 s.1)]) (fun s => Low H.n) (fun s => H) (fun s => [(s.2, ⟨_, true, (rowsP (fun i => decide (ow.getD i 0 ∈ g0)) s.1).map (Value.int .i64)⟩)]) (fun s => s.1 ≤ ow.length) (fun s => ow.length - s.1) ((0, H.n)) (by simp) ⟨rfl, rfl, rfl, rfl, trivial⟩ rfl rfl rfl (fun s hi bE n => ?_)
  obtain ⟨q, o⟩ := s
  simp only at hi
  have hq : (rowsP (fun i => decide (ow.getD i 0 ∈ g0)) q).length ≤ q := rowsP_len _ q
  refine KW.ldF 1 hv rfl rfl rfl rfl rfl rfl rfl rfl rfl ?_
  refine KW.cnd rfl rfl (fun k1 => ?_) (fun k1 => ?_)
  · refine KW.ldF 1 hv rfl rfl rfl rfl rfl rfl rfl rfl rfl ?_
    refine KW.getI ho.up rfl rfl rfl rfl rfl rfl rfl rfl rfl rfl rfl rfl rfl rfl rfl rfl (by omega) (k1) (fun y hy => ?_)
    have hy' : ow[q]? = some y := hy
    have hyd : ow.getD q 0 = y := getD_of hy'
    have e := rowsP_next (fun i => decide (ow.getD i 0 ∈ g0)) q
    simp only [hyd] at e
    refine KW.callE rfl rfl rfl rfl rfl (l00Has y hG hg.up) (fun _ _ => ?_)
    refine KW.cndB rfl rfl (fun k2 => ?_) (fun k2 => ?_)
    · rw [if_pos k2] at e
      refine KW.app1 (xs := (rowsP (fun i => decide (ow.getD i 0 ∈ g0)) q).map (Value.int .i64)) (v := .int .i64 q) 0 1 rfl rfl rfl rfl rfl rfl rfl rfl rfl rfl rfl rfl rfl rfl rfl rfl rfl rfl rfl rfl rfl rfl rfl (by simp) (by show (_ + 1) * 8 ≤ _; first | omega | (simp only; omega)) (by first | omega | (simp only; omega)) ?_
      refine KW.nxt rfl rfl (fun H' g => ⟨(q + 1, _), by simp only; omega, by first | omega | (simp only; omega), ⟨rfl, rfl, by simp only [e, List.length_append, List.length_singleton]; rfl, congrArg (Value.int .i64) (inc64 (by omega)), trivial⟩, g.eqT (by simp only [e, List.map_append]; rfl)⟩)
    · rw [if_neg (by rw [k2]; decide)] at e
      refine KW.nxt rfl rfl (fun H' g => ⟨(q + 1, o), by simp only; omega, by first | omega | (simp only; omega), ⟨rfl, rfl, by simp only [e]; rfl, congrArg (Value.int .i64) (inc64 (by omega)), trivial⟩, g.eqT (by simp only [e])⟩)
  · obtain rfl : q = ow.length := by simp only at k1; omega
    refine KW.retM1 rfl rfl rfl rfl (fun H1 g => MkL.of g (j := 0) rfl (g.ge (H1 := H) (j := 0) rfl))
end
end Go.Proofs.Ytmkpfllbmdahkaa.Am
/- Contracts: shares, values, tags; copies and equality of rows. Each holds under its own conditions. -/
set_option linter.unusedVariables false
set_option maxRecDepth 20000
namespace Go.Proofs.Ytmkpfllbmdahkaa.Am
open Go Go.RowKit Go.Proofs
theorem elems_cons {p s : Int} {bl : List Int} (hs : 0 ≤ s ∧ s ≤ p - 1) (hb : Elems p bl) : Elems p (s :: bl) := fun x hx => by
  rcases List.mem_cons.1 hx with rfl | h
  · exact hs
  · exact hb x h
section
variable {S : Ids} {H0 : AH}
theorem sharesOf (h p c s : Int) {a1 c1 a2 c2 a3 c3} {ow bl : List Int} {rows : List (List Int)} (hO : B_Int64S ow) (hB : B_Int64SS rows) (hk : OkSch h ow p c rows) (hs : 0 ≤ s ∧ s ≤ p - 1) (hbl : (bl.length : Int) = c - 1) (hbe : Elems p bl)
    (h1 : KI.Sl S H0 (.slice a1 ow.length c1) ow) (h2 : KI.sl.Sl S H0 (.slice a2 rows.length c2) rows) (h3 : KI.Sl S H0 (.slice a3 bl.length c3) bl) :
    SpecM Try.prog S H0 56 [.agg #[.int .i64 h, .slice a1 ow.length c1, .int .i64 p, .int .i64 c, .slice a2 rows.length c2], .int .i64 s, .slice a3 bl.length c3] (fun n v H1 => ∃ v', v = .tuple #[v', .int .i64 0] ∧ MkL (shares p rows (s :: bl)) n v' H1) := by
  refine SpecM.of1 Try.func56 rfl (by kernel_rfl) rfl (fun H _ => ?_)
  have hp : I64 p := by unfold I64; have := hk.mat.pr.1; have := hk.mat.pr.2.1; omega
  have hc12 := hk.mat.c1
  have hc1 := hk.c1
  have hrl := hk.mat.len
  have ec : IntKind.i64.wrap (c - 1) = c - 1 := wr (by omega) (by omega)
  refine KW.callE rfl rfl rfl rfl rfl (validScheme h p c hp hO hB h1.up h2.up) (fun _ _ => ?_)
  rw [tv_true hk]
  refine KW.cF rfl rfl (by first | (simp; done) | decide) ?_
  refine KW.lit rfl rfl rfl rfl rfl rfl rfl rfl rfl rfl [.int .i64 s] rfl rfl (fun v hv => by simp at hv; subst hv; rfl) rfl ?_
  refine KW.callV1 rfl rfl rfl rfl rfl (fun H1 g _ => areElements p hp (xs := [s]) (by simp) (g.ints (j := 1) rfl rfl (by simp))) (fun _ _ => ?_)
  rw [tv_true (p := PrimeP p ∧ Elems p [s]) ⟨hk.mat.pr, fun x hx => by rw [List.mem_singleton.1 hx]; exact hs⟩]
  refine KW.tF rfl rfl (by first | (simp; done) | decide) ?_
  refine KW.callE rfl rfl rfl rfl rfl (areElements p hp (by omega) h3.up) (fun _ _ => ?_)
  rw [tv_true (p := PrimeP p ∧ Elems p bl) ⟨hk.mat.pr, hbe⟩]
  refine KW.tF rfl rfl (by first | (simp; done) | decide) ?_
  refine KW.cndB rfl rfl (fun k1 => ?_) (fun k1 => ?_)
  · rw [ec, hbl] at k1; simp at k1
  refine KW.lit rfl rfl rfl rfl rfl rfl rfl rfl rfl rfl [.int .i64 s] rfl rfl (fun v hv => by simp at hv; subst hv; rfl) rfl ?_
  refine KW.appV 2 rfl rfl rfl rfl rfl rfl rfl rfl rfl rfl (fun H1 g => acells_I h3.up g) (by simp) (by simp) (fun v hv => by obtain ⟨_, _, rfl⟩ := List.mem_map.1 hv; rfl) (by show (_ + _) * 8 ≤ _; simp only [List.length_cons, List.length_nil]; omega) (by simp only [List.length_cons, List.length_nil]; omega) (show 1 + bl.length = (s :: bl).length from by simp; omega) (fun oa _ _ => ?_)
  refine KW.lit rfl rfl rfl rfl rfl rfl rfl rfl rfl rfl [] rfl rfl (fun v hv => by simp at hv) rfl ?_
  refine KW.fact (p := ¬ oa < H.n) (fun _ g => (g.vars 2 _ rfl).2.2) (fun hoa => ?_)
  refine KW.lpM rfl rfl (fun q : Nat × Nat => [(3, .pointer (some ⟨H.n, 0, some 0⟩)), (8, .slice (some ⟨oa, 0, some 1⟩) (s :: bl).length (s :: bl).length), (9, .slice (some ⟨q.2, 0, some 1⟩) (shares p (rows.take q.1) (s :: bl)).length (shares p (rows.take q.1) (s :: bl)).length), (46, .slice a2 rows.length c2), (47, .int .i64 rows.length), (48, .int .i64 q.1)]) (fun q => Low H.n) (fun q => H) (fun q => [_, _, (oa, ⟨_, true, (s :: bl).map (Value.int .i64)⟩), (q.2, ⟨_, true, (shares p (rows.take q.1) (s :: bl)).map (Value.int .i64)⟩)]) (fun q => q.1 ≤ rows.length) (fun q => rows.length - q.1) ((0, _)) (by simp) ⟨rfl, rfl, rfl, rfl, rfl, rfl, trivial⟩ rfl rfl rfl (fun q hi bE n => ?_)
  obtain ⟨q, o⟩ := q
  simp only at hi
  have hq : (shares p (rows.take q) (s :: bl)).length ≤ q := by unfold shares; rw [List.length_map, List.length_take]; omega
  refine KW.cnd rfl rfl (fun k2 => ?_) (fun k2 => ?_)
  · refine KW.getL h2.up rfl rfl rfl rfl rfl rfl rfl rfl rfl rfl rfl rfl rfl rfl rfl rfl (by omega) (k2) (fun y a' m' hy hsy => ?_)
    have hy : rows[q]? = some y := hy
    have hym := hk.mat.row y (List.mem_of_getElem? hy)
    refine KW.callV1 rfl rfl rfl rfl rfl (fun H1 g _ => dot p hk.mat.pr (by simp; omega) (by omega) hym.2 (elems_cons hs hbe) hsy.up (g.ints (j := 2) rfl rfl (Nat.le_refl _))) (fun _ _ => ?_)
    have e : shares p (rows.take (q + 1)) (s :: bl) = shares p (rows.take q) (s :: bl) ++ [dotS p y (s :: bl)] := map_take_succ _ hy
    refine KW.app1 (xs := (shares p (rows.take q) (s :: bl)).map (Value.int .i64)) (v := .int .i64 (dotS p y (s :: bl))) 3 4 rfl rfl rfl rfl rfl rfl rfl rfl rfl rfl rfl rfl rfl rfl rfl rfl rfl rfl rfl rfl rfl rfl rfl (by simp) (by show (_ + 1) * 8 ≤ _; first | omega | (simp only; omega)) (by first | omega | (simp only; omega)) ?_
    refine KW.nxt rfl rfl (fun H' g => ⟨(q + 1, _), by simp only; omega, by first | omega | (simp only; omega), ⟨rfl, rfl, by simp only [e, List.length_append, List.length_singleton]; rfl, rfl, rfl, congrArg (Value.int .i64) (inc64 (by omega)), trivial⟩, g.eqT (by simp only [e, List.map_append]; rfl)⟩)
  · obtain rfl : q = rows.length := by simp only at k2; omega
    rw [List.take_of_length_le (Nat.le_refl _)]
    refine KW.retM1 rfl rfl rfl rfl (fun H1 g => ⟨_, rfl, MkL.of g (j := 3) rfl (g.ge (H1 := H) (j := 3) rfl)⟩)
end
/-- The shares of the rows of a holder. -/
def valsOf (p : Int) (rows : List (List Int)) (ow : List Int) (s : Int) (bl : List Int) (j : Int) : List Int := (rowsOf ow j).map fun i => (shares p rows (s :: bl)).getD i.toNat 0
theorem rows_bit {ow : List Int} (h : ∀ x ∈ ow, 0 ≤ x) (j : Nat) : rowsP (fun i => (2 ^ j : Nat).testBit (ow.getD i 0).toNat) ow.length = rowsOf ow j := rowsP_congr fun i hi => by
  have h1 : 0 ≤ ow.getD i 0 := by rw [List.getD_eq_getElem?_getD, List.getElem?_eq_getElem hi]; exact h _ (List.getElem_mem hi)
  rw [Nat.testBit_two_pow]
  exact decide_eq_decide.2 ⟨fun h => by omega, fun h => by omega⟩
theorem rows_one (ow : List Int) (j : Int) : rowsP (fun i => decide (ow.getD i 0 ∈ [j])) ow.length = rowsOf ow j := rowsP_congr fun i hi => by simp
theorem dotS_in {p : Int} {a b : List Int} (hp : PrimeP p) : 0 ≤ dotS p a b ∧ dotS p a b ≤ p - 1 := by
  unfold dotS
  have h1 := hp.1
  have := Int.emod_nonneg (dotN a b a.length) (show p ≠ 0 by omega)
  have := Int.emod_lt_of_pos (dotN a b a.length) (show 0 < p by omega)
  omega
theorem shares_in {p : Int} {rows : List (List Int)} {all : List Int} (hp : PrimeP p) : Elems p (shares p rows all) := fun x hx => by
  obtain ⟨r, _, rfl⟩ := List.mem_map.1 hx
  exact dotS_in hp
theorem vals_in {p s j : Int} {rows : List (List Int)} {ow bl : List Int} (hp : PrimeP p) : Elems p (valsOf p rows ow s bl j) := fun x hx => by
  obtain ⟨i, _, rfl⟩ := List.mem_map.1 hx
  exact elem_at (shares_in hp) hp.1 _
theorem vals_len {p s j : Int} {rows : List (List Int)} {ow bl : List Int} : (valsOf p rows ow s bl j).length = (rowsOf ow j).length := by simp [valsOf]
/-- The tags of values for the rows R, by the keys kk. -/
def tagAt (p : Int) (kk : List (List Int)) (R vals : List Int) (k : Nat) : Int := ((kk.getD (R.getD k 0).toNat []).getD 0 0 * vals.getD k 0 + (kk.getD (R.getD k 0).toNat []).getD 1 0) % p
def tagsOf (p : Int) (kk : List (List Int)) (R vals : List Int) : List Int := (List.range R.length).map (tagAt p kk R vals)
theorem range_map_succ {α : Type} (f : Nat → α) (n : Nat) : (List.range (n + 1)).map f = (List.range n).map f ++ [f n] := by rw [List.range_succ, List.map_append]; rfl
section
variable {S : Ids} {H0 : AH}
theorem values (h p c s : Int) (e j : Nat) {a1 c1 a2 c2 a3 c3} {a4 : Option Addr} {n4 c4 : Nat} {ow bl : List Int} {rows bs : List (List Int)} (hO : B_Int64S ow) (hB : B_Int64SS rows) (hk : OkSch h ow p c rows) (hs : 0 ≤ s ∧ s ≤ p - 1) (he : bs[e]? = some bl) (hbl : (bl.length : Int) = c - 1) (hbe : Elems p bl) (hj : j ≤ 6)
    (h1 : KI.Sl S H0 (.slice a1 ow.length c1) ow) (h2 : KI.sl.Sl S H0 (.slice a2 rows.length c2) rows) (h3 : KI.sl.Sl S H0 (.slice a3 bs.length c3) bs) :
    SpecM Try.prog S H0 146 [.agg #[.int .i64 h, .slice a1 ow.length c1, .int .i64 p, .int .i64 c, .slice a2 rows.length c2, .int .i64 s, .slice a3 bs.length c3, .slice a4 n4 c4], .int .i64 e, .int .i64 j] (MkL (valsOf p rows ow s bl j)) := by
  refine SpecM.of1 Try.func146 rfl (by kernel_rfl) rfl (fun H _ => ?_)
  have hrl := hk.mat.len
  have hol := hk.len
  have hel := (List.getElem?_eq_some_iff.1 he).1
  refine KW.getL h3.up rfl rfl rfl rfl rfl rfl rfl rfl rfl rfl rfl rfl rfl rfl rfl rfl (by omega) (by omega) (fun y a' m' hy hsy => ?_)
  have hy : bs[e]? = some y := hy
  rw [he] at hy
  cases hy
  refine KW.callN1 rfl rfl rfl rfl rfl (sharesOf h p c s hO hB hk hs hbl hbe h1.up h2.up hsy) (fun v HA SA mA _ _ hv => ?_)
  obtain ⟨v', rfl, a5, c5, rfl, hA⟩ := hv
  refine KW.lit rfl rfl rfl rfl rfl rfl rfl rfl rfl rfl [] rfl rfl (fun v hv => by simp at hv) rfl ?_
  refine KW.shlU rfl rfl rfl rfl rfl rfl j rfl (by omega) ?_
  have hp := small_pow (m := j) (by omega)
  refine KW.callN1 rfl rfl rfl rfl rfl (rowsHeld h p c (2 ^ j) (by omega) hO hk.own hk.h7 h1.up) (fun v HR SR mR _ _ hv => ?_)
  obtain ⟨a6, c6, rfl, hR⟩ := hv
  rw [rows_bit (fun x hx => (hk.own x hx).1)] at hR ⊢
  have hRl : (rowsOf ow j).length ≤ ow.length := rowsP_len _ _
  have hRm : ∀ x ∈ rowsOf ow j, 0 ≤ x ∧ x < ow.length := fun x hx => rowsP_mem hx
  have hval : valsOf p rows ow s bl j = (rowsOf ow j).map fun i => (shares p rows (s :: bl)).getD i.toNat 0 := rfl
  rw [hval]
  have hsl : (shares p rows (s :: bl)).length = rows.length := by simp [shares]
  obtain ⟨R, hRe⟩ : ∃ R, rowsOf ow j = R := ⟨_, rfl⟩
  rw [hRe] at hR hRl hRm ⊢
  obtain ⟨A, hAe⟩ : ∃ A, shares p rows (s :: bl) = A := ⟨_, rfl⟩
  rw [hAe] at hA hsl ⊢
  refine KW.lpM rfl rfl (fun q : Nat × Nat => [(7, .slice a5 A.length c5), (9, .slice (some ⟨q.2, 0, some 1⟩) ((R.take q.1).map fun i => A.getD i.toNat 0).length ((R.take q.1).map fun i => A.getD i.toNat 0).length), (30, .slice a6 R.length c6), (31, .int .i64 R.length), (32, .int .i64 q.1)]) (fun q => SR) (fun q => HR) (fun q => [_, (q.2, ⟨_, true, ((R.take q.1).map fun i => A.getD i.toNat 0).map (Value.int .i64)⟩)]) (fun q => q.1 ≤ R.length) (fun q => R.length - q.1) ((0, _)) (by simp) ⟨rfl, rfl, rfl, rfl, rfl, trivial⟩ rfl rfl rfl (fun q hi bE n => ?_)
  obtain ⟨q, o⟩ := q
  simp only at hi
  have hq : ((R.take q).map fun i => A.getD i.toNat 0).length ≤ q := by rw [List.length_map, List.length_take]; omega
  refine KW.cnd rfl rfl (fun k2 => ?_) (fun k2 => ?_)
  · refine KW.getI hR.ups rfl rfl rfl rfl rfl rfl rfl rfl rfl rfl rfl rfl rfl rfl rfl rfl (by omega) (k2) (fun x hx => ?_)
    have hx : R[q]? = some x := hx
    have hxm := hRm x (List.mem_of_getElem? hx)
    refine KW.getI hA.ups rfl rfl rfl rfl rfl rfl rfl rfl rfl rfl rfl rfl rfl rfl rfl rfl (by omega) (by omega) (fun y hy => ?_)
    have hy : A.getD x.toNat 0 = y := getD_of hy
    have e1 := map_take_succ (fun i : Int => A.getD i.toNat 0) hx
    rw [hy] at e1
    refine KW.app1 (xs := ((R.take q).map fun i => A.getD i.toNat 0).map (Value.int .i64)) (v := .int .i64 y) 1 2 rfl rfl rfl rfl rfl rfl rfl rfl rfl rfl rfl rfl rfl rfl rfl rfl rfl rfl rfl rfl rfl rfl rfl (by simp) (by show (_ + 1) * 8 ≤ _; first | omega | (simp only; omega)) (by first | omega | (simp only; omega)) ?_
    refine KW.nxt rfl rfl (fun H' g => ⟨(q + 1, _), by simp only; omega, by first | omega | (simp only; omega), ⟨rfl, by simp only [e1, List.length_append, List.length_singleton]; rfl, rfl, rfl, congrArg (Value.int .i64) (inc64 (by omega)), trivial⟩, g.eqT (by simp only [e1, List.map_append]; rfl)⟩)
  · obtain rfl : q = R.length := by simp only at k2; omega
    rw [List.take_of_length_le (Nat.le_refl _)]
    refine KW.retM1 rfl rfl rfl rfl (fun H1 g => MkL.of g (j := 1) rfl (g.ge (H1 := H) (j := 1) rfl))
theorem tag_val {p k0 k1 v : Int} (hp : PrimeP p) (h0 : 0 ≤ k0 ∧ k0 ≤ p - 1) (h1 : 0 ≤ k1 ∧ k1 ≤ p - 1) (hv : 0 ≤ v ∧ v ≤ p - 1) : IntKind.i64.wrap (IntKind.i64.wrap (k0 * v) + k1) = k0 * v + k1 ∧ 0 ≤ k0 * v + k1 := by
  have h2 := mul_small hp.2.1 h0 hv
  have h3 := hp.2.1
  rw [wr (x := k0 * v) (by omega) (by omega), wr (by omega) (by omega)]
  exact ⟨rfl, by omega⟩
theorem tags (h p c s : Int) (e j : Nat) {a1 c1 a2 c2 a4 c4 a5 c5} {a3 : Option Addr} {n3 c3 : Nat} {ow vals : List Int} {rows kk : List (List Int)} {ks : List (List (List Int))} (hO : B_Int64S ow) (hBk : B_Int64SSS ks) (hk : OkSch h ow p c rows) (he : ks[e]? = some kk) (hkk : KeysOk p rows.length kk) (hj : j ≤ 6) (hvl : vals.length = (rowsOf ow j).length) (hve : Elems p vals)
    (h1 : KI.Sl S H0 (.slice a1 ow.length c1) ow) (h4 : KI.sl.sl.Sl S H0 (.slice a4 ks.length c4) ks) (h5 : KI.Sl S H0 (.slice a5 vals.length c5) vals) :
    SpecM Try.prog S H0 147 [.agg #[.int .i64 h, .slice a1 ow.length c1, .int .i64 p, .int .i64 c, .slice a2 rows.length c2, .int .i64 s, .slice a3 n3 c3, .slice a4 ks.length c4], .int .i64 e, .int .i64 j, .slice a5 vals.length c5] (MkL (tagsOf p kk (rowsOf ow j) vals)) := by
  refine SpecM.of1 Try.func147 rfl (by kernel_rfl) rfl (fun H _ => ?_)
  have hrl := hk.mat.len
  have hol := hk.len
  have hel := (List.getElem?_eq_some_iff.1 he).1
  have hpr := hk.mat.pr
  refine KW.lit rfl rfl rfl rfl rfl rfl rfl rfl rfl rfl [] rfl rfl (fun v hv => by simp at hv) rfl ?_
  refine KW.shlU rfl rfl rfl rfl rfl rfl j rfl (by omega) ?_
  have hp := small_pow (m := j) (by omega)
  refine KW.callN1 rfl rfl rfl rfl rfl (rowsHeld h p c (2 ^ j) (by omega) hO hk.own hk.h7 h1.up) (fun v HR SR mR _ _ hv => ?_)
  obtain ⟨a6, c6, rfl, hR⟩ := hv
  rw [rows_bit (fun x hx => (hk.own x hx).1)] at hR ⊢
  have hRl : (rowsOf ow j).length ≤ ow.length := rowsP_len _ _
  have hRm : ∀ x ∈ rowsOf ow j, 0 ≤ x ∧ x < ow.length := fun x hx => rowsP_mem hx
  obtain ⟨R, hRe⟩ : ∃ R, rowsOf ow j = R := ⟨_, rfl⟩
  rw [hRe] at hR hRl hRm hvl ⊢
  refine KW.lpM rfl rfl (fun q : Nat × Nat => [(1, .int .i64 e), (3, .slice a5 vals.length c5), (4, .pointer (some ⟨H.n, 0, some 0⟩)), (9, .slice (some ⟨q.2, 0, some 1⟩) ((List.range q.1).map (tagAt p kk R vals)).length ((List.range q.1).map (tagAt p kk R vals)).length), (18, .slice a6 R.length c6), (19, .int .i64 R.length), (20, .int .i64 q.1)]) (fun q => SR) (fun q => HR) (fun q => [(H.n, ⟨71, true, [.int .i64 h, .slice a1 ow.length c1, .int .i64 p, .int .i64 c, .slice a2 rows.length c2, .int .i64 s, .slice a3 n3 c3, .slice a4 ks.length c4]⟩), (q.2, ⟨_, true, ((List.range q.1).map (tagAt p kk R vals)).map (Value.int .i64)⟩)]) (fun q => q.1 ≤ R.length) (fun q => R.length - q.1) ((0, _)) (by simp) ⟨rfl, rfl, rfl, rfl, rfl, rfl, rfl, trivial⟩ rfl rfl rfl (fun q hi bE n => ?_)
  obtain ⟨q, o⟩ := q
  simp only at hi
  have hq : ((List.range q).map (tagAt p kk R vals)).length ≤ q := by simp
  refine KW.cnd rfl rfl (fun k2 => ?_) (fun k2 => ?_)
  · refine KW.getI hR.ups rfl rfl rfl rfl rfl rfl rfl rfl rfl rfl rfl rfl rfl rfl rfl rfl (by omega) (k2) (fun x hx => ?_)
    have hx : R[q]? = some x := hx
    have hxm := hRm x (List.mem_of_getElem? hx)
    refine KW.getL h4.up rfl rfl rfl rfl rfl rfl rfl rfl rfl rfl rfl rfl rfl rfl rfl rfl (by omega) (by omega) (fun kk' b1 d1 hk1 hs1 => ?_)
    have hk1 : ks[e]? = some kk' := hk1
    rw [he] at hk1
    cases hk1
    have hkl := hkk.1
    refine KW.getL hs1 rfl rfl rfl rfl rfl rfl rfl rfl rfl rfl rfl rfl rfl rfl rfl rfl (by omega) (by omega) (fun ky b2 d2 hk2 hs2 => ?_)
    have hk2 : kk[x.toNat]? = some ky := hk2
    have hky := hkk.2 ky (List.mem_of_getElem? hk2)
    have hkyl := hky.1
    refine KW.getI hs2 rfl rfl rfl rfl rfl rfl rfl rfl rfl rfl rfl rfl rfl rfl rfl rfl (by omega) (by omega) (fun k0 hk0 => ?_)
    refine KW.getI h5.up rfl rfl rfl rfl rfl rfl rfl rfl rfl rfl rfl rfl rfl rfl rfl rfl (by omega) (by omega) (fun v hv => ?_)
    refine KW.getI hs2 rfl rfl rfl rfl rfl rfl rfl rfl rfl rfl rfl rfl rfl rfl rfl rfl (by omega) (by omega) (fun k1 hk1' => ?_)
    have ek0 : ky.getD 0 0 = k0 := getD_of hk0
    have ek1 : ky.getD 1 0 = k1 := getD_of hk1'
    have ev : vals.getD q 0 = v := getD_of hv
    have eR : R.getD q 0 = x := getD_of hx
    have ekk : kk.getD x.toNat [] = ky := by rw [List.getD_eq_getElem?_getD, hk2]; rfl
    have et : tagAt p kk R vals q = (k0 * v + k1) % p := by unfold tagAt; rw [eR, ekk, ek0, ek1, ev]
    obtain ⟨ew, e0⟩ := tag_val hpr (ek0 ▸ elem_at hky.2 hpr.1 0) (ek1 ▸ elem_at hky.2 hpr.1 1) (ev ▸ elem_at hve hpr.1 q)
    refine KW.rem rfl rfl rfl rfl rfl rfl (by rw [ew]; exact e0) (by have := hpr.1; omega) ?_
    rw [ew, ← et]
    have e1 := range_map_succ (tagAt p kk R vals) q
    refine KW.app1 (xs := ((List.range q).map (tagAt p kk R vals)).map (Value.int .i64)) (v := .int .i64 (tagAt p kk R vals q)) 1 2 rfl rfl rfl rfl rfl rfl rfl rfl rfl rfl rfl rfl rfl rfl rfl rfl rfl rfl rfl rfl rfl rfl rfl (by simp) (by show (_ + 1) * 8 ≤ _; first | omega | (simp only; omega)) (by first | omega | (simp only; omega)) ?_
    refine KW.nxt rfl rfl (fun H' g => ⟨(q + 1, _), by simp only; omega, by first | omega | (simp only; omega), ⟨rfl, rfl, rfl, by simp only [e1, List.length_append, List.length_singleton]; rfl, rfl, rfl, congrArg (Value.int .i64) (inc64 (by omega)), trivial⟩, g.eqT (by simp only [e1, List.map_append]; rfl)⟩)
  · obtain rfl : q = R.length := by simp only at k2; omega
    refine KW.retM1 rfl rfl rfl rfl (fun H1 g => MkL.of g (j := 1) rfl (g.ge (H1 := H) (j := 1) rfl))
end
end Go.Proofs.Ytmkpfllbmdahkaa.Am
/- Contracts: values, tags and lies of a deal, of the program and of the reference. Each holds under its own conditions. -/
set_option linter.unusedVariables false
set_option maxRecDepth 20000
namespace Go.Proofs.Ytmkpfllbmdahkaa.Am
open Go Go.RowKit Go.Proofs
/-- The code of a deal, an epoch and a holder. -/
noncomputable def codeD (x : T_Deal) (e j : Int) : Int := if tv (DealOk x) = true then (if (0 ≤ e ∧ e ≤ (x.2.2.1.length : Int) - 1) ∧ (0 ≤ j ∧ j ≤ x.1.1 - 1) then 0 else 2) else 1
abbrev blD (x : T_Deal) (e : Int) : List Int := x.2.2.1.getD e.toNat []
abbrev kkD (x : T_Deal) (e : Int) : List (List Int) := x.2.2.2.getD e.toNat []
/-- A deal at an epoch and a holder. -/
structure DealAt (x : T_Deal) (e j : Int) (E J : Nat) : Prop where
  ee : e = E
  jj : j = J
  j6 : J ≤ 6
  sch : OkSch x.1.1 x.1.2.1 x.1.2.2.1 x.1.2.2.2.1 x.1.2.2.2.2
  sec : 0 ≤ x.2.1 ∧ x.2.1 ≤ x.1.2.2.1 - 1
  hb : x.2.2.1[E]? = some (blD x e)
  hk : x.2.2.2[E]? = some (kkD x e)
  bl : ((blD x e).length : Int) = x.1.2.2.2.1 - 1 ∧ Elems x.1.2.2.1 (blD x e)
  key : KeysOk x.1.2.2.1 x.1.2.2.2.2.length (kkD x e)
theorem codeD_ok {x : T_Deal} {e j : Int} (h : codeD x e j = 0) : ∃ E J, DealAt x e j E J := by
  unfold codeD at h
  split at h
  · rename_i hd
    have hd : DealOk x := tv_iff.1 hd
    split at h
    · rename_i hr
      have hbl := hd.bl
      have hkl := hd.kl
      have h7 := hd.sch.h7
      have h1 : x.2.2.1[e.toNat]? = some (blD x e) := by
        show _ = some (x.2.2.1.getD e.toNat [])
        rw [List.getD_eq_getElem?_getD, List.getElem?_eq_getElem (by omega)]; rfl
      have h2 : x.2.2.2[e.toNat]? = some (kkD x e) := by
        show _ = some (x.2.2.2.getD e.toNat [])
        rw [List.getD_eq_getElem?_getD, List.getElem?_eq_getElem (by omega)]; rfl
      have h3 := hd.bk _ _ _ h1 h2
      exact ⟨e.toNat, j.toNat, by omega, by omega, by omega, hd.sch, hd.sec, h1, h2, h3.1, h3.2⟩
    · cases h
  · cases h
def valsD (x : T_Deal) (e j : Int) : List Int := valsOf x.1.2.2.1 x.1.2.2.2.2 x.1.2.1 x.2.1 (blD x e) j
def tagsD (x : T_Deal) (e j : Int) (vals : List Int) : List Int := tagsOf x.1.2.2.1 (kkD x e) (rowsOf x.1.2.1 j) vals
def lieOf (p : Int) (vals : List Int) (lie : Int) : List Int := match vals with
  | [] => []
  | v :: vs => ((v + lie) % p) :: vs
theorem lie_len {p : Int} {vals : List Int} {lie : Int} : (lieOf p vals lie).length = vals.length := by cases vals <;> rfl
theorem lie_in {p : Int} {vals : List Int} {lie : Int} (hp : PrimeP p) (h : Elems p vals) : Elems p (lieOf p vals lie) := fun x hx => by
  cases vals with
  | nil => exact h x hx
  | cons v vs =>
    rcases List.mem_cons.1 hx with rfl | hx
    · have h1 := hp.1
      have := Int.emod_nonneg (v + lie) (show p ≠ 0 by omega)
      have := Int.emod_lt_of_pos (v + lie) (show 0 < p by omega)
      omega
    · exact h x (List.mem_cons_of_mem _ hx)
section
variable {S : Ids} {H0 : AH}
theorem dealCode (x : T_Deal) (e j : Int) {cs : List Value} (hB : B_Deal x) (h : K_Deal.R S H0 x cs) : Spec Try.prog S H0 145 [.agg cs.toArray, .int .i64 e, .int .i64 j] (fun v => v = .int .i64 (codeD x e j)) := by
  obtain ⟨a1, c1, a2, c2, a3, c3, a4, c4, rfl, h1, h2, h3, h4⟩ := split2_Deal h
  refine Spec.of1 Try.func145 rfl (by kernel_rfl) rfl (fun H _ => ?_)
  have hbl := hB.2.2.1.len
  refine KW.callE rfl rfl rfl rfl rfl (impl_ValidDeal hB (On.R h)) (fun _ _ => ?_)
  by_cases hd : DealOk x
  · rw [tv_true hd]
    refine KW.cF rfl rfl (by first | (simp; done) | decide) ?_
    have h7 := hd.sch.h7
    have h1 := hd.sch.h1
    refine KW.callE rfl rfl rfl rfl rfl (within _ _ _) (fun _ _ => ?_)
    rw [wr (x := (x.2.2.1.length : Int) - 1) (by omega) (by omega)]
    refine KW.tstB rfl rfl (fun k1 => ?_) (fun k1 => ?_)
    · refine KW.cT rfl rfl (by first | (simp; done) | decide) ?_
      exact KW.ret rfl rfl rfl rfl (by unfold codeD; rw [if_pos (tv_true hd), if_neg (fun hc => by simp at k1; omega)]; rfl)
    have k1 : 0 ≤ e ∧ e ≤ (x.2.2.1.length : Int) - 1 := by simpa using k1
    refine KW.callE rfl rfl rfl rfl rfl (within _ _ _) (fun _ _ => ?_)
    rw [wr (x := x.1.1 - 1) (by omega) (by omega)]
    refine KW.cndB rfl rfl (fun k2 => ?_) (fun k2 => ?_)
    · exact KW.ret rfl rfl rfl rfl (by unfold codeD; rw [if_pos (tv_true hd), if_neg (fun hc => by simp at k2; omega)]; rfl)
    have k2 : 0 ≤ j ∧ j ≤ x.1.1 - 1 := by simpa using k2
    exact KW.ret rfl rfl rfl rfl (by unfold codeD; rw [if_pos (tv_true hd), if_pos ⟨k1, k2⟩]; rfl)
  · rw [tv_false hd]
    refine KW.cT rfl rfl (by first | (simp; done) | decide) ?_
    exact KW.ret rfl rfl rfl rfl (by unfold codeD; rw [if_neg (by rw [tv_false hd]; decide)]; rfl)
theorem valuesD (x : T_Deal) (e j : Int) {E J : Nat} (hd : DealAt x e j E J) {cs : List Value} (hB : B_Deal x) (h : K_Deal.R S H0 x cs) : SpecM Try.prog S H0 146 [.agg cs.toArray, .int .i64 e, .int .i64 j] (MkL (valsD x e j)) := by
  obtain ⟨a1, c1, a2, c2, a3, c3, a4, c4, rfl, h1, h2, h3, h4⟩ := split2_Deal h
  have := values x.1.1 x.1.2.2.1 x.1.2.2.2.1 x.2.1 E J (c2 := c2) (a4 := a4) (n4 := x.2.2.2.length) (c4 := c4) hB.1.2.1 hB.1.2.2.2.2 hd.sch hd.sec hd.hb hd.bl.1 hd.bl.2 hd.j6 h1 h2 h3
  rw [hd.ee, hd.jj]
  rw [hd.ee] at this
  exact this
theorem tagsDD (x : T_Deal) (e j : Int) {E J : Nat} (hd : DealAt x e j E J) {cs : List Value} (hB : B_Deal x) (h : K_Deal.R S H0 x cs) {vals : List Int} {a c} (hl : vals.length = (rowsOf x.1.2.1 j).length) (he : Elems x.1.2.2.1 vals) (hs : KI.Sl S H0 (.slice a vals.length c) vals) : SpecM Try.prog S H0 147 [.agg cs.toArray, .int .i64 e, .int .i64 j, .slice a vals.length c] (MkL (tagsD x e j vals)) := by
  obtain ⟨a1, c1, a2, c2, a3, c3, a4, c4, rfl, h1, h2, h3, h4⟩ := split2_Deal h
  have := tags x.1.1 x.1.2.2.1 x.1.2.2.2.1 x.2.1 E J (a2 := a2) (c2 := c2) (a3 := a3) (n3 := x.2.2.1.length) (c3 := c3) hB.1.2.1 hB.2.2.2 hd.sch hd.hk hd.key hd.j6 (by rw [← hd.jj]; exact hl) he h1 h4 hs
  unfold tagsD
  rw [hd.ee, hd.jj]
  rw [hd.ee] at this
  exact this
/-- A list and a code. -/
def MkLC (xs : List Int) (code : Int) (n : Nat) (v : Value) (H1 : AH) : Prop := ∃ a c, v = .tuple #[.slice a xs.length c, .int .i64 code] ∧ M_Int64S.R (New n H1.n) H1 xs [.slice a xs.length c]
theorem MkLC.nil {code : Int} {n : Nat} {H1 : AH} {v : Value} (hv : v = .tuple #[.slice none 0 0, .int .i64 code]) : MkLC [] code n v H1 := ⟨none, 0, hv, ml1' (.inl ⟨rfl, _, _, rfl, fun _ => rfl⟩)⟩
theorem MkLC.nil' {code : Int} {n id : Nat} {H1 : AH} {v : Value} (hv : v = .tuple #[.slice (some ⟨id, 0, some 1⟩) 0 0, .int .i64 code]) : MkLC [] code n v H1 := ⟨_, 0, hv, ml1' (.inl ⟨rfl, _, _, rfl, fun h => by cases h⟩)⟩
/-- What a callee has made is handed on. -/
theorem Good.made {S0 : Ids} {H0 H1 H2 : AH} {T : List Var} {n lo m : Nat} {xs : List Int} {a : Option Addr} {c : Nat} (g : Good S0 H0 T n H2) [o : On (New m H1.n) H1 S0 H0] (hm : lo ≤ m) (h : KI.Ml (New m H1.n) H1 (.slice a xs.length c) xs) : KI.Ml (New lo H2.n) H2 (.slice a xs.length c) xs :=
  Kn.Ml.st h (g.out (fun id hid => by have := hid.1; omega)).st
noncomputable def r1_DealValues (x : T_Deal) (e j : Int) : Int := codeD x e j
noncomputable def r1_DealTags (x : T_Deal) (e j : Int) : Int := codeD x e j
noncomputable def r0_DealValues (x : T_Deal) (e j : Int) : List Int := if codeD x e j = 0 then valsD x e j else []
theorem impl_DealValues {x : T_Deal} (e j : Int) (he : I64 e) (hj : I64 j) {cs : List Value} (hB : B_Deal x) (h : K_Deal.R S H0 x cs) : SpecM Try.prog S H0 51 [.agg cs.toArray, .int .i64 e, .int .i64 j] (MkLC (r0_DealValues x e j) (codeD x e j)) := by
  obtain ⟨a1, c1, a2, c2, a3, c3, a4, c4, rfl, h1, h2, h3, h4⟩ := split2_Deal h
  refine SpecM.of1 Try.func51 rfl (by kernel_rfl) rfl (fun H _ => ?_)
  refine KW.callE rfl rfl rfl rfl rfl (dealCode x e j hB (On.R h)) (fun _ _ => ?_)
  unfold r0_DealValues
  by_cases hc : codeD x e j = 0
  · obtain ⟨E, J, hd⟩ := codeD_ok hc
    rw [if_pos hc, hc]
    refine KW.cF rfl rfl (by first | (simp; done) | decide) ?_
    refine KW.callN1 rfl rfl rfl rfl rfl (valuesD x e j hd hB (On.R h)) (fun v HA SA mA _ _ hv => ?_)
    obtain ⟨a5, c5, rfl, hA⟩ := hv
    refine KW.retM1 rfl rfl rfl rfl (fun H1 g => ⟨_, _, rfl, ml1' (g.made (by omega) hA)⟩)
  · rw [if_neg hc]
    refine KW.cndB rfl rfl (fun k1 => ?_) (fun k1 => ?_)
    · refine KW.retM1 rfl rfl rfl rfl (fun H1 g => MkLC.nil rfl)
    · exact absurd (by simpa using k1) hc
noncomputable def r0_DealTags (x : T_Deal) (e j : Int) : List Int := if codeD x e j = 0 then tagsD x e j (valsD x e j) else []
theorem impl_DealTags {x : T_Deal} (e j : Int) (he : I64 e) (hj : I64 j) {cs : List Value} (hB : B_Deal x) (h : K_Deal.R S H0 x cs) : SpecM Try.prog S H0 52 [.agg cs.toArray, .int .i64 e, .int .i64 j] (MkLC (r0_DealTags x e j) (codeD x e j)) := by
  obtain ⟨a1, c1, a2, c2, a3, c3, a4, c4, rfl, h1, h2, h3, h4⟩ := split2_Deal h
  refine SpecM.of1 Try.func52 rfl (by kernel_rfl) rfl (fun H _ => ?_)
  refine KW.callE rfl rfl rfl rfl rfl (dealCode x e j hB (On.R h)) (fun _ _ => ?_)
  unfold r0_DealTags
  by_cases hc : codeD x e j = 0
  · obtain ⟨E, J, hd⟩ := codeD_ok hc
    rw [if_pos hc, hc]
    refine KW.cF rfl rfl (by first | (simp; done) | decide) ?_
    refine KW.fact (fun _ g => g.nle (H1 := H)) (fun hn0 => ?_)
    refine KW.callN1 rfl rfl rfl rfl rfl (valuesD x e j hd hB (On.R h)) (fun v HA SA mA _ _ hv => ?_)
    obtain ⟨a5, c5, rfl, hA⟩ := hv
    refine KW.callN1 rfl rfl rfl rfl rfl (tagsDD x e j hd hB (On.R h) vals_len (vals_in hd.sch.mat.pr) hA.ups) (fun v HC SC mC _ _ hv => ?_)
    obtain ⟨a6, c6, rfl, hC⟩ := hv
    refine KW.retM1 rfl rfl rfl rfl (fun H1 g => ⟨_, _, rfl, ml1' (g.made (by omega) hC)⟩)
  · rw [if_neg hc]
    refine KW.cndB rfl rfl (fun k1 => ?_) (fun k1 => ?_)
    · refine KW.retM1 rfl rfl rfl rfl (fun H1 g => MkLC.nil rfl)
    · exact absurd (by simpa using k1) hc
theorem bound_DealValues {x : T_Deal} (e j : Int) (he : I64 e) (hj : I64 j) (hB : B_Deal x) : B_Int64S (r0_DealValues x e j) := by
  unfold r0_DealValues
  split
  · rename_i hc
    obtain ⟨E, J, hd⟩ := codeD_ok hc
    show (valsD x e j).length ≤ 1048576
    have h1 : (valsD x e j).length = (rowsOf x.1.2.1 j).length := vals_len
    have h2 : (rowsOf x.1.2.1 j).length ≤ x.1.2.1.length := rowsP_len _ _
    have h3 : x.1.2.1.length ≤ 1048576 := hB.1.2.1
    omega
  · show 0 ≤ _; omega
theorem bound_DealTags {x : T_Deal} (e j : Int) (he : I64 e) (hj : I64 j) (hB : B_Deal x) : B_Int64S (r0_DealTags x e j) := by
  unfold r0_DealTags
  split
  · show (tagsD x e j _).length ≤ 1048576
    have h1 : (tagsD x e j (valsD x e j)).length = (rowsOf x.1.2.1 j).length := by simp [tagsD, tagsOf]
    have h2 : (rowsOf x.1.2.1 j).length ≤ x.1.2.1.length := rowsP_len _ _
    have h3 : x.1.2.1.length ≤ 1048576 := hB.1.2.1
    omega
  · show 0 ≤ _; omega
end
end Go.Proofs.Ytmkpfllbmdahkaa.Am
/- Contracts: copies and equality of rows; lies. Each holds under its own conditions. -/
set_option linter.unusedVariables false
set_option linter.unusedSimpArgs false
set_option maxRecDepth 20000
namespace Go.Proofs.Ytmkpfllbmdahkaa.Am
open Go Go.RowKit Go.Proofs
section
variable {S : Ids} {H0 : AH}
theorem l00Own {a c} {xs : List Int} (hl : xs.length ≤ 1048576) (hs : KI.Sl S H0 (.slice a xs.length c) xs) : SpecM Try.prog S H0 125 [.slice a xs.length c] (MkL xs) := by
  refine SpecM.of1 Try.func125 rfl (by kernel_rfl) rfl (fun H _ => ?_)
  refine KW.lit rfl rfl rfl rfl rfl rfl rfl rfl rfl rfl [] rfl rfl (fun v hv => by simp at hv) rfl ?_
  refine KW.appV 0 rfl rfl rfl rfl rfl rfl rfl rfl rfl rfl (fun H1 g => acells_I hs.up g) (by simp) (by simp) (fun v hv => by obtain ⟨_, _, rfl⟩ := List.mem_map.1 hv; rfl) (by show (_ + _) * 8 ≤ _; simp only [List.length_cons, List.length_nil]; omega) (by simp only [List.length_cons, List.length_nil]; omega) (show 0 + xs.length = xs.length from by omega) (fun oa _ _ => ?_)
  refine KW.retM1 rfl rfl rfl rfl (fun H1 g => MkL.of g (j := 0) rfl (g.ge (H1 := H) (j := 0) rfl))
theorem cloneI {a c} {xs : List Int} (hl : xs.length ≤ 1048576) (hs : KI.Sl S H0 (.slice a xs.length c) xs) : SpecM Try.prog S H0 119 [.slice a xs.length c] (MkL xs) := by
  refine SpecM.of1 Try.func119 rfl (by kernel_rfl) rfl (fun H _ => ?_)
  refine KW.cndB rfl rfl (fun h => ?_) (fun h => ?_)
  · have ha : a = none := by cases a with
      | none => rfl
      | some a => simp at h
    have hx : xs = [] := by
      rcases hs with ⟨hx, _⟩ | ⟨id, k, c1, b, h1, _⟩
      · exact hx
      · rw [ha] at h1; cases h1
    subst hx
    refine KW.retM1 rfl rfl rfl rfl (fun H1 g => ⟨none, 0, rfl, .inl ⟨rfl, _, _, rfl, fun _ => rfl⟩⟩)
  · refine KW.lit rfl rfl rfl rfl rfl rfl rfl rfl rfl rfl [] rfl rfl (fun v hv => by simp at hv) rfl ?_
    refine KW.appV 0 rfl rfl rfl rfl rfl rfl rfl rfl rfl rfl (fun H1 g => acells_I hs.up g) (by simp) (by simp) (fun v hv => by obtain ⟨_, _, rfl⟩ := List.mem_map.1 hv; rfl) (by show (_ + _) * 8 ≤ _; simp only [List.length_cons, List.length_nil]; omega) (by simp only [List.length_cons, List.length_nil]; omega) (show 0 + xs.length = xs.length from by omega) (fun oa _ _ => ?_)
    refine KW.retM1 rfl rfl rfl rfl (fun H1 g => MkL.of g (j := 0) rfl (g.ge (H1 := H) (j := 0) rfl))
theorem equalI {a c a' c'} {xs ys : List Int} (hl : xs.length ≤ 1048576) (hs : KI.Sl S H0 (.slice a xs.length c) xs) (hs' : KI.Sl S H0 (.slice a' ys.length c') ys) : Spec Try.prog S H0 126 [.slice a xs.length c, .slice a' ys.length c'] (fun v => v = .bool (tv (xs = ys))) := by
  refine Spec.of1 Try.func126 rfl (by kernel_rfl) rfl (fun H _ => ?_)
  refine KW.cndB rfl rfl (fun h => ?_) (fun h => ?_)
  · exact KW.ret rfl rfl rfl rfl (by rw [tv_false (fun hc => by rw [hc] at h; simp at h)]; rfl)
  have h : xs.length = ys.length := by simp at h; omega
  refine KW.lp rfl rfl (fun i : Nat => [(0, .slice a xs.length c), (1, .slice a' ys.length c'), (12, .int .i64 xs.length), (13, .int .i64 i)]) (fun i => i ≤ xs.length ∧ ∀ j, j < i → xs[j]? = ys[j]?) (fun i => xs.length - i) (0) (⟨by omega, fun j h => absurd h (by omega)⟩) ⟨rfl, rfl, rfl, rfl, trivial⟩ (fun i hi bE n => ?_)
  obtain ⟨hi, hj⟩ := hi
  refine KW.cnd rfl rfl (fun h2 => ?_) (fun h2 => ?_)
  · refine KW.getI hs.up rfl rfl rfl rfl rfl rfl rfl rfl rfl rfl rfl rfl rfl rfl rfl rfl (by omega) (h2) (fun x hx => ?_)
    refine KW.getI hs'.up rfl rfl rfl rfl rfl rfl rfl rfl rfl rfl rfl rfl rfl rfl rfl rfl (by omega) (by omega) (fun y hy => ?_)
    have hx : xs[i]? = some x := hx
    have hy : ys[i]? = some y := hy
    refine KW.cndB rfl rfl (fun h3 => ?_) (fun h3 => ?_)
    · exact KW.ret rfl rfl rfl rfl (by rw [tv_false (fun hc => by subst hc; rw [hx] at hy; cases hy; simp at h3)]; rfl)
    have h3 : x = y := by simpa using h3
    refine KW.nxt rfl rfl (fun H' g => ⟨i + 1, ⟨by omega, upto hj (by rw [hx, hy, h3])⟩, by first | omega | (simp only; omega), ⟨rfl, rfl, rfl, congrArg (Value.int .i64) (inc64 (by omega)), trivial⟩, g⟩)
  · have : xs = ys := List.ext_getElem? fun j => by
      rcases Nat.lt_or_ge j i with h | h
      · exact hj j h
      · rw [List.getElem?_eq_none (by omega), List.getElem?_eq_none (by omega)]
    exact KW.ret rfl rfl rfl rfl (by rw [tv_true this]; rfl)
theorem l00Same {a c a' c'} {xs ys : List Int} (hl : xs.length ≤ 1048576) (hs : KI.Sl S H0 (.slice a xs.length c) xs) (hs' : KI.Sl S H0 (.slice a' ys.length c') ys) : Spec Try.prog S H0 122 [.slice a xs.length c, .slice a' ys.length c'] (fun v => v = .bool (tv (xs = ys))) := by
  refine Spec.of1 Try.func122 rfl (by kernel_rfl) rfl (fun H _ => ?_)
  refine KW.cndB rfl rfl (fun h => ?_) (fun h => ?_)
  · exact KW.ret rfl rfl rfl rfl (by rw [tv_false (fun hc => by rw [hc] at h; simp at h)]; rfl)
  have h : xs.length = ys.length := by simp at h; omega
  refine KW.lp rfl rfl (fun i : Nat => [(0, .slice a xs.length c), (1, .slice a' ys.length c'), (5, .int .i64 i)]) (fun i => i ≤ xs.length ∧ ∀ j, j < i → xs[j]? = ys[j]?) (fun i => xs.length - i) (0) (⟨by omega, fun j h => absurd h (by omega)⟩) ⟨rfl, rfl, rfl, trivial⟩ (fun i hi bE n => ?_)
  obtain ⟨hi, hj⟩ := hi
  refine KW.cnd rfl rfl (fun h2 => ?_) (fun h2 => ?_)
  · refine KW.getI hs.up rfl rfl rfl rfl rfl rfl rfl rfl rfl rfl rfl rfl rfl rfl rfl rfl (by omega) (h2) (fun x hx => ?_)
    refine KW.getI hs'.up rfl rfl rfl rfl rfl rfl rfl rfl rfl rfl rfl rfl rfl rfl rfl rfl (by omega) (by omega) (fun y hy => ?_)
    have hx : xs[i]? = some x := hx
    have hy : ys[i]? = some y := hy
    refine KW.cndB rfl rfl (fun h3 => ?_) (fun h3 => ?_)
    · exact KW.ret rfl rfl rfl rfl (by rw [tv_false (fun hc => by subst hc; rw [hx] at hy; cases hy; simp at h3)]; rfl)
    have h3 : x = y := by simpa using h3
    refine KW.nxt rfl rfl (fun H' g => ⟨i + 1, ⟨by omega, upto hj (by rw [hx, hy, h3])⟩, by first | omega | (simp only; omega), ⟨rfl, rfl, congrArg (Value.int .i64) (inc64 (by omega)), trivial⟩, g⟩)
  · have : xs = ys := List.ext_getElem? fun j => by
      rcases Nat.lt_or_ge j i with h | h
      · exact hj j h
      · rw [List.getElem?_eq_none (by omega), List.getElem?_eq_none (by omega)]
    exact KW.ret rfl rfl rfl rfl (by rw [tv_true this]; rfl)
theorem lie_at {p : Int} {vals : List Int} {lie : Int} {i : Nat} {x : Int} (hi : (lieOf p vals lie)[i]? = some x) : (i = 0 ∧ x = (vals.getD 0 0 + lie) % p) ∨ (0 < i ∧ vals[i]? = some x) := by
  cases vals with
  | nil => simp [lieOf] at hi
  | cons v vs =>
    cases i with
    | zero => exact .inl ⟨rfl, by simpa [lieOf] using hi.symm⟩
    | succ i => exact .inr ⟨by omega, by simpa [lieOf] using hi⟩
theorem lied (h p c s : Int) (hp : PrimeP p) (lie : Int) (hlie : 0 ≤ lie ∧ lie ≤ p) {a1 c1 a2 c2 a3 c3 a4 c4 a5 c5} {n1 n2 n3 n4 : Nat} {vals : List Int} (hl : vals.length ≤ 1048576) (hv : Elems p vals) (hs : KI.Sl S H0 (.slice a5 vals.length c5) vals) :
    SpecM Try.prog S H0 148 [.agg #[.int .i64 h, .slice a1 n1 c1, .int .i64 p, .int .i64 c, .slice a2 n2 c2, .int .i64 s, .slice a3 n3 c3, .slice a4 n4 c4], .slice a5 vals.length c5, .int .i64 lie] (MkL (lieOf p vals lie)) := by
  refine SpecM.of1 Try.func148 rfl (by kernel_rfl) rfl (fun H _ => ?_)
  refine KW.fact (fun _ g => g.nle (H1 := H)) (fun hn0 => ?_)
  refine KW.callN1 rfl rfl rfl rfl rfl (cloneI hl hs.up) (fun v HA SA mA _ _ hv => ?_)
  obtain ⟨a6, c6, rfl, hA⟩ := hv
  refine KW.cnd rfl rfl (fun k1 => ?_) (fun k1 => ?_)
  · have k1 : 0 < vals.length := by have : (0 : Int) < vals.length := k1; omega
    obtain ⟨o, c7, b, e1, e2, e3, e4, e5, e6, e7⟩ := hA.ints (fun hx => by rw [hx] at k1; simp at k1)
    cases e1
    obtain ⟨ty, rw, cells⟩ := b
    obtain rfl : rw = true := e5
    obtain ⟨v0, hv0⟩ : ∃ v, vals[0]? = some v := ⟨vals[0], List.getElem?_eq_getElem k1⟩
    have hvd : vals.getD 0 0 = v0 := getD_of hv0
    have hvb := hv v0 (List.mem_of_getElem? hv0)
    have hp2 := hp.1
    have hp31 := hp.2.1
    have oS := (inferInstance : On (New _ HA.n) HA SA HA).st o e3
    refine KW.thaw o ⟨ty, true, cells⟩ oS.1 e4 ?_
    haveI : On (Low H.n) H (fun id => SA id ∧ id ≠ o) HA := On.thaw (fun id hid => by have : id < H.n := hid; have := e3.1; omega)
    refine KW.idx0 rfl rfl rfl rfl rfl rfl rfl rfl rfl (by omega) (by omega) ?_
    refine KW.ldT 1 rfl rfl rfl rfl rfl rfl (bload_at (e7 0 v0 hv0) rfl rfl) ?_
    refine KW.rem rfl rfl rfl rfl rfl rfl (by rw [wr (by omega) (by omega)]; omega) (by omega) ?_
    rw [wr (by omega) (by omega), ← hvd]
    refine KW.idx0 rfl rfl rfl rfl rfl rfl rfl rfl rfl (by omega) (by omega) ?_
    refine KW.st1 1 rfl rfl rfl rfl rfl rfl rfl rfl rfl rfl rfl rfl (by simp only; simp only at e6; omega) ?_
    refine KW.retM1 rfl rfl rfl rfl (fun H1 g => ?_)
    have hb := g.blk (j := 1) rfl
    have el : (lieOf p vals lie).length = vals.length := lie_len
    refine ⟨_, _, by rw [el]; rfl, ?_⟩
    refine mlI_of ⟨by have := e3.1; omega, hb.2⟩ hb.1 rfl (by rw [el]; exact e2) (by rw [el]; simp only [List.length_set]; exact e6) (fun i x hi => ?_)
    rcases lie_at hi with ⟨rfl, rfl⟩ | ⟨h0, h1⟩
    · show (cells.set 0 (Value.int .i64 _))[0]? = _
      rw [List.getElem?_set_self (by simp only at e6; omega)]
    · show (cells.set 0 (Value.int .i64 _))[i]? = _
      rw [List.getElem?_set_ne (by omega)]; exact e7 i x h1
  · have hx : vals = [] := List.eq_nil_of_length_eq_zero (by have k1 : ¬ (0 : Int) < vals.length := k1; omega)
    subst hx
    refine KW.retM1 rfl rfl rfl rfl (fun H1 g => ⟨_, _, rfl, g.made (by omega) hA⟩)
end
end Go.Proofs.Ytmkpfllbmdahkaa.Am
