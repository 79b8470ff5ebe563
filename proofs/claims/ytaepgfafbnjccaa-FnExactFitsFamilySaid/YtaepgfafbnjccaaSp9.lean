/- Contracts: the program's search for a misfit. Each holds under its own conditions. -/
import Derived.Test.YtaepgfafbnjccaaSp8
set_option linter.unusedVariables false
set_option maxRecDepth 20000
namespace Go.Proofs.Ytaepgfafbnjccaa.Am
open Go Go.RowKit Go.Proofs
def Grow (l : List Int) (u : Int) (gs : List (List Int)) (a b : Nat) : Prop := a &&& b = a ∧ ¬ Opens gs a ∧ Opens gs b ∧ l.getD b 0 < l.getD a 0 + u
def Meet (l : List Int) (u : Int) (gs : List (List Int)) (a b : Nat) : Prop := Opens gs a ∧ Opens gs b ∧ ¬ Opens gs (a &&& b) ∧ l.getD a 0 + l.getD b 0 < l.getD (a ||| b) 0 + l.getD (a &&& b) 0 + u
def Mis (l : List Int) (u : Int) (gs : List (List Int)) (a b : Nat) : Prop := Grow l u gs a b ∨ Meet l u gs a b
/-- The first misfit, or that there is none. -/
def Fst (l : List Int) (u : Int) (gs : List (List Int)) (a b : Nat) (f : Bool) : Prop :=
  (f = true ∧ a < l.length ∧ b < l.length ∧ Mis l u gs a b ∧ (∀ a', a' < a → ∀ b', b' < l.length → ¬ Mis l u gs a' b') ∧ ∀ b', b' < b → ¬ Mis l u gs a b') ∨
  (f = false ∧ a = 0 ∧ b = 0 ∧ ∀ a', a' < l.length → ∀ b', b' < l.length → ¬ Mis l u gs a' b')
theorem Fst.one {l : List Int} {u : Int} {gs : List (List Int)} {a b a' b' : Nat} {f f' : Bool} (h : Fst l u gs a b f) (k : Fst l u gs a' b' f') : a = a' ∧ b = b' ∧ f = f' := by
  rcases h with ⟨rfl, h1, h2, h3, h4, h5⟩ | ⟨rfl, rfl, rfl, h4⟩ <;> rcases k with ⟨rfl, k1, k2, k3, k4, k5⟩ | ⟨rfl, rfl, rfl, k4⟩
  · have ha : a = a' := by
      rcases Nat.lt_trichotomy a a' with h | h | h
      · exact absurd h3 (k4 a h b h2)
      · exact h
      · exact absurd k3 (h4 a' h b' k2)
    subst ha
    refine ⟨rfl, ?_, rfl⟩
    rcases Nat.lt_trichotomy b b' with h | h | h
    · exact absurd h3 (k5 b h)
    · exact h
    · exact absurd k3 (h5 b' h)
  · exact absurd h3 (k4 a h1 b h2)
  · exact absurd k3 (h4 a' k1 b' k2)
  · exact ⟨rfl, rfl, rfl⟩
section
variable {S : Ids} {H0 : AH}
theorem misfit (u : Int) {m : Nat} (hm : m ≤ 7) (hu : 1 ≤ u ∧ u ≤ 100000) {a0 c0 a1 c1} {l : List Int} {gs : List (List Int)} (hl : l.length = 2 ^ m) (hw : Within l) (hsm : Sml gs) (hb : Below' m gs) (hs : (Kn.int .i64).Sl S H0 (.slice a0 l.length c0) l) (hs' : (Kn.int .i64).sl.Sl S H0 (.slice a1 gs.length c1) gs) :
    Spec Try.prog S H0 76 [ranksV m u (.slice a0 l.length c0), familyV m (.slice a1 gs.length c1)] (fun v => ∃ (a b : Nat) (f : Bool), v = .tuple #[.int .u64 a, .int .u64 b, .bool f] ∧ Fst l u gs a b f) := by
  refine Spec.of Try.func76 rfl (by kernel_rfl) rfl (fun H hfin hfz => ?_)
  have hs := hs.to hfz
  have hs' := hs'.to hfz
  have h256 := len_le (m := m) (by omega) hl
  refine KW.lp rfl rfl (fun a : Nat => [(2, .pointer (some ⟨H.n, 0, some 0⟩)), (3, .pointer (some ⟨H.n + 1, 0, some 1⟩)), (7, .int .u64 a)]) (fun a => a ≤ l.length ∧ ∀ a', a' < a → ∀ b', b' < l.length → ¬ Mis l u gs a' b') (fun a => l.length - a) 0 ⟨by omega, fun j h => absurd h (by omega)⟩ ⟨rfl, rfl, rfl, trivial⟩ (fun a ha e n => ?_)
  obtain ⟨ha0, ha⟩ := ha
  refine KW.callE rfl rfl rfl rfl rfl (everybody (m := m) (by omega)) (fun _ _ => ?_)
  refine KW.cnd rfl rfl (fun h => ?_) (fun h => KW.ret rfl rfl rfl rfl ⟨0, 0, false, rfl, .inr ⟨rfl, rfl, rfl, fun a' ha' => ha a' (by rw [hl] at ha'; omega)⟩⟩)
  have hal : a < l.length := by rw [hl]; have := Nat.two_pow_pos m; omega
  refine KW.lp rfl rfl (fun b : Nat => [(2, .pointer (some ⟨H.n, 0, some 0⟩)), (3, .pointer (some ⟨H.n + 1, 0, some 1⟩)), (7, .int .u64 a), (8, .int .u64 b)]) (fun b => b ≤ l.length ∧ ∀ b', b' < b → ¬ Mis l u gs a b') (fun b => l.length - b) 0 ⟨by omega, fun j h => absurd h (by omega)⟩ ⟨rfl, rfl, rfl, rfl, trivial⟩ (fun b hb' e n => ?_)
  obtain ⟨hb0, hb'⟩ := hb'
  refine KW.callE rfl rfl rfl rfl rfl (everybody (m := m) (by omega)) (fun _ _ => ?_)
  refine KW.cnd rfl rfl (fun h => ?_) (fun h => ?_)
  · have hbl : b < l.length := by rw [hl]; have := Nat.two_pow_pos m; omega
    have eo := or_u64 (a := a) (b := b) (by omega) (by omega)
    have ea := and_u64 (a := a) (b := b) (by omega) (by omega)
    have ho := or_in hl hal hbl
    have hn := and_in (a := a) hl hbl
    have w1 := hw a hal
    have w2 := hw b hbl
    have w3 := hw _ ho
    have w4 := hw _ hn
    have O : ∀ q : Nat, q < l.length → ∀ {n : Nat}, Spec Try.prog (Low H.n) H 110 [familyV m (.slice a1 gs.length c1), .int .u64 q] (fun v => v = .bool (tv (Opens gs q))) := fun q hq _ => opens hm m (by omega) hsm hb hs'
    refine KW.mid 7 rfl rfl (fun g : Bool => [(2, .pointer (some ⟨H.n, 0, some 0⟩)), (3, .pointer (some ⟨H.n + 1, 0, some 1⟩)), (7, .int .u64 a), (8, .int .u64 b), (9, .bool g)]) (fun g => g = true ↔ Grow l u gs a b) ?_ (fun g hg e n => ?_)
    · have no : ¬ Grow l u gs a b → (false = true ↔ Grow l u gs a b) := fun h => ⟨fun h => (by cases h), fun hc => absurd hc h⟩
      refine KW.callE rfl rfl rfl rfl rfl (contains (x := b) (y := a) (by omega) (by omega)) (fun _ _ => ?_)
      refine KW.tstB rfl rfl (fun h1 => ?_) (fun h1 => ?_)
      · have h1 : a &&& b = a := by rw [Nat.and_comm]; exact tv_iff.1 h1
        refine KW.callE rfl rfl rfl rfl rfl (O a hal (n := 0)) (fun _ _ => ?_)
        refine KW.tstB rfl rfl (fun h2 => ?_) (fun h2 => ?_)
        · have h2 : ¬ Opens gs a := fun hc => by rw [tv_true hc] at h2; cases h2
          refine KW.callE rfl rfl rfl rfl rfl (O b hbl (n := 0)) (fun _ _ => ?_)
          refine KW.tstB rfl rfl (fun h3 => ?_) (fun h3 => ?_)
          · refine KW.callE rfl rfl rfl rfl rfl (rank _ _ b hbl hs) (fun _ _ => ?_)
            refine KW.callE rfl rfl rfl rfl rfl (rank _ _ a hal hs) (fun _ _ => ?_)
            have e5 : IntKind.i64.wrap (l.getD a 0 + u) = l.getD a 0 + u := wr (by omega) (by omega)
            refine KW.nxt rfl rfl (fun H g' => ⟨decide (l.getD b 0 < l.getD a 0 + u), ?_, ⟨rfl, rfl, rfl, rfl, ?_, trivial⟩, g'⟩)
            · rw [decide_eq_true_iff]
              exact ⟨fun h => ⟨h1, h2, tv_iff.1 h3, h⟩, fun h => h.2.2.2⟩
            · show Value.bool (decide (l.getD b 0 < IntKind.i64.wrap (l.getD a 0 + u))) = _
              rw [e5]
          · exact KW.nxt rfl rfl (fun H g' => ⟨false, no (fun hc => by rw [tv_true hc.2.2.1] at h3; cases h3), ⟨rfl, rfl, rfl, rfl, rfl, trivial⟩, g'⟩)
        · refine KW.tstB rfl rfl (fun h => absurd h (by decide)) (fun _ => ?_)
          exact KW.nxt rfl rfl (fun H g' => ⟨false, no (fun hc => by rw [tv_false hc.2.1] at h2; cases h2), ⟨rfl, rfl, rfl, rfl, rfl, trivial⟩, g'⟩)
      · refine KW.tstB rfl rfl (fun h => absurd h (by decide)) (fun _ => ?_)
        refine KW.tstB rfl rfl (fun h => absurd h (by decide)) (fun _ => ?_)
        exact KW.nxt rfl rfl (fun H g' => ⟨false, no (fun hc => by rw [tv_true (show b &&& a = a by rw [Nat.and_comm]; exact hc.1)] at h1; cases h1), ⟨rfl, rfl, rfl, rfl, rfl, trivial⟩, g'⟩)
    refine KW.mid 8 rfl rfl (fun g2 : Bool => [(2, .pointer (some ⟨H.n, 0, some 0⟩)), (3, .pointer (some ⟨H.n + 1, 0, some 1⟩)), (7, .int .u64 a), (8, .int .u64 b), (9, .bool g), (10, .bool g2)]) (fun g2 => g2 = true ↔ Meet l u gs a b) ?_ (fun g2 hg2 e n => ?_)
    · have no : ¬ Meet l u gs a b → (false = true ↔ Meet l u gs a b) := fun h => ⟨fun h => (by cases h), fun hc => absurd hc h⟩
      refine KW.callE rfl rfl rfl rfl rfl (O a hal (n := 0)) (fun _ _ => ?_)
      refine KW.tstB rfl rfl (fun h1 => ?_) (fun h1 => ?_)
      · refine KW.callE rfl rfl rfl rfl rfl (O b hbl (n := 0)) (fun _ _ => ?_)
        refine KW.tstB rfl rfl (fun h2 => ?_) (fun h2 => ?_)
        · refine KW.callE rfl rfl rfl rfl rfl (by show Spec _ _ _ _ [familyV m (.slice a1 gs.length c1), .int .u64 (IntKind.u64.wrap _)] _; rw [ea]; exact O _ hn (n := 0)) (fun _ _ => ?_)
          refine KW.tstB rfl rfl (fun h3 => ?_) (fun h3 => ?_)
          · have h3 : ¬ Opens gs (a &&& b) := fun hc => by rw [tv_true hc] at h3; cases h3
            refine KW.callE rfl rfl rfl rfl rfl (rank _ _ a hal hs) (fun _ _ => ?_)
            refine KW.callE rfl rfl rfl rfl rfl (rank _ _ b hbl hs) (fun _ _ => ?_)
            refine KW.callE rfl rfl rfl rfl rfl (by show Spec _ _ _ _ [ranksV m u (.slice a0 l.length c0), .int .u64 (IntKind.u64.wrap _)] _; rw [eo]; exact rank _ _ _ ho hs) (fun _ _ => ?_)
            refine KW.callE rfl rfl rfl rfl rfl (by show Spec _ _ _ _ [ranksV m u (.slice a0 l.length c0), .int .u64 (IntKind.u64.wrap _)] _; rw [ea]; exact rank _ _ _ hn hs) (fun _ _ => ?_)
            have e5 : IntKind.i64.wrap (l.getD a 0 + l.getD b 0) = l.getD a 0 + l.getD b 0 := wr (by omega) (by omega)
            have e6 : IntKind.i64.wrap (l.getD (a ||| b) 0 + l.getD (a &&& b) 0) = l.getD (a ||| b) 0 + l.getD (a &&& b) 0 := wr (by omega) (by omega)
            have e7 : IntKind.i64.wrap (l.getD (a ||| b) 0 + l.getD (a &&& b) 0 + u) = l.getD (a ||| b) 0 + l.getD (a &&& b) 0 + u := wr (by omega) (by omega)
            refine KW.nxt rfl rfl (fun H g' => ⟨decide (l.getD a 0 + l.getD b 0 < l.getD (a ||| b) 0 + l.getD (a &&& b) 0 + u), ?_, ⟨rfl, rfl, rfl, rfl, rfl, ?_, trivial⟩, g'⟩)
            · rw [decide_eq_true_iff]
              exact ⟨fun h => ⟨tv_iff.1 h1, tv_iff.1 h2, h3, h⟩, fun h => h.2.2.2⟩
            · show Value.bool (decide (IntKind.i64.wrap (l.getD a 0 + l.getD b 0) < IntKind.i64.wrap (IntKind.i64.wrap (l.getD (a ||| b) 0 + l.getD (a &&& b) 0) + u))) = _
              rw [e5, e6, e7]
          · exact KW.nxt rfl rfl (fun H g' => ⟨false, no (fun hc => by rw [tv_false hc.2.2.1] at h3; cases h3), ⟨rfl, rfl, rfl, rfl, rfl, rfl, trivial⟩, g'⟩)
        · refine KW.tstB rfl rfl (fun h => absurd h (by decide)) (fun _ => ?_)
          exact KW.nxt rfl rfl (fun H g' => ⟨false, no (fun hc => by rw [tv_true hc.2.1] at h2; cases h2), ⟨rfl, rfl, rfl, rfl, rfl, rfl, trivial⟩, g'⟩)
      · refine KW.tstB rfl rfl (fun h => absurd h (by decide)) (fun _ => ?_)
        refine KW.tstB rfl rfl (fun h => absurd h (by decide)) (fun _ => ?_)
        exact KW.nxt rfl rfl (fun H g' => ⟨false, no (fun hc => by rw [tv_true hc.1] at h1; cases h1), ⟨rfl, rfl, rfl, rfl, rfl, rfl, trivial⟩, g'⟩)
    have found : Mis l u gs a b → Fst l u gs a b true := fun h => .inl ⟨rfl, hal, hbl, h, ha, hb'⟩
    refine KW.tstB rfl rfl (fun h1 => ?_) (fun h1 => ?_)
    · refine KW.cndB rfl rfl (fun _ => KW.ret rfl rfl rfl rfl ⟨a, b, true, rfl, found (.inl (hg.1 h1))⟩) (fun h => absurd h (by decide))
    · refine KW.cndB rfl rfl (fun h2 => KW.ret rfl rfl rfl rfl ⟨a, b, true, rfl, found (.inr (hg2.1 h2))⟩) (fun h2 => ?_)
      refine KW.nxt rfl rfl (fun H g' => ⟨b + 1, ⟨by omega, upto hb' (fun hc => ?_)⟩, by omega, ⟨rfl, rfl, rfl, congrArg (Value.int .u64) (incu64 (by omega)), trivial⟩, g'⟩)
      rcases hc with hc | hc
      · rw [hg.2 hc] at h1; cases h1
      · rw [hg2.2 hc] at h2; cases h2
  · exact KW.nxt rfl rfl (fun H g' => ⟨a + 1, ⟨by omega, upto ha (fun b' hb1 => hb' b' (by rw [hl] at hb1; omega))⟩, by omega, ⟨rfl, rfl, congrArg (Value.int .u64) (incu64 (by omega)), trivial⟩, g'⟩)
end
end Go.Proofs.Ytaepgfafbnjccaa.Am
