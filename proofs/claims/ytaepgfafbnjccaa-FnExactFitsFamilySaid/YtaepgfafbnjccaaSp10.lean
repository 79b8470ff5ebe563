/- Contracts: the reference's table of what opens, and its search for a misfit. Each holds under its own conditions. -/
import Derived.Test.YtaepgfafbnjccaaSp9
set_option linter.unusedVariables false
set_option maxRecDepth 20000
namespace Go.Proofs.Ytaepgfafbnjccaa.Am
open Go Go.RowKit Go.Proofs
theorem bool_sl {xs : List Bool} {S : Ids} {H : AH} {id c : Nat} {b : Blk} (hS : S id) (hb : H.m id = some b) (hc : b.cells = xs.map Value.bool) (hl : xs.length ≤ c) : Kn.bool.Sl S H (.slice (some ⟨id, 0, some 1⟩) xs.length c) xs := by
  refine .inr ⟨id, 0, c, b, rfl, hl, hS, hb, by rw [hc]; simp [Kn.bool], fun i x hx => ?_⟩
  obtain ⟨hi, rfl⟩ := List.getElem?_eq_some_iff.1 hx
  show _ = _
  rw [hc]
  show ((xs.map Value.bool).drop (0 + i * 1)).take 1 = _
  rw [List.take_one, Nat.zero_add, Nat.mul_one, List.head?_drop]
  simp [hi]
noncomputable def tabO (gs : List (List Int)) (n : Nat) : List Bool := (List.range n).map fun q => tv (Opens gs q)
theorem tabO_len (gs : List (List Int)) (n : Nat) : (tabO gs n).length = n := by simp [tabO]
theorem tabO_at {gs : List (List Int)} {n q : Nat} (h : q < n) {y : Bool} (hy : (tabO gs n)[q]? = some y) : y = tv (Opens gs q) := by
  unfold tabO at hy
  rw [List.getElem?_map, List.getElem?_range h] at hy
  simpa using hy.symm
theorem tabO_next (gs : List (List Int)) (n : Nat) : tabO gs (n + 1) = tabO gs n ++ [tv (Opens gs n)] := by simp [tabO, List.range_succ]
section
variable {S : Ids} {H0 : AH}
theorem l07Grows {gs : List (List Int)} {n a b : Nat} (hn : n ≤ 256) (ha : a < n) (hb : b < n) {s c} (hs : Kn.bool.Sl S H0 (.slice s (tabO gs n).length c) (tabO gs n)) :
    Spec Try.prog S H0 114 [.slice s (tabO gs n).length c, .int .i64 a, .int .i64 b] (fun v => v = .bool (tv (a &&& b = a ∧ ¬ Opens gs a ∧ Opens gs b))) := by
  refine Spec.of Try.func114 rfl (by kernel_rfl) rfl (fun H hfin hfz => ?_)
  have hs := hs.to hfz
  have hl := tabO_len gs n
  have ea := and_i64 (a := a) (b := b) (by omega) (by omega)
  have no : ¬ (a &&& b = a ∧ ¬ Opens gs a ∧ Opens gs b) → aout [Value.bool false] = .bool (tv (a &&& b = a ∧ ¬ Opens gs a ∧ Opens gs b)) := fun h => by rw [tv_false h]; rfl
  refine KW.tstB rfl rfl (fun h1 => ?_) (fun h1 => ?_)
  · have h1 : a &&& b = a := by rw [ea] at h1; simp at h1; omega
    refine KW.getB hs rfl rfl rfl rfl rfl rfl rfl rfl rfl rfl rfl rfl rfl rfl rfl rfl (by omega) (by omega) (fun y hy => ?_)
    obtain rfl := tabO_at ha hy
    refine KW.tstB rfl rfl (fun h2 => ?_) (fun h2 => ?_)
    · refine KW.getB hs rfl rfl rfl rfl rfl rfl rfl rfl rfl rfl rfl rfl rfl rfl rfl rfl (by omega) (by omega) (fun z hz => ?_)
      obtain rfl := tabO_at hb hz
      refine KW.ret rfl rfl rfl rfl ?_
      show Value.bool (tv _) = _
      congr 1
      exact tv_congr ⟨fun h => ⟨h1, fun hc => (by rw [tv_true hc] at h2; cases h2), h⟩, fun h => h.2.2⟩
    · exact KW.ret rfl rfl rfl rfl (no (fun hc => by rw [tv_false hc.2.1] at h2; cases h2))
  · refine KW.tstB rfl rfl (fun h => absurd h (by decide)) (fun _ => ?_)
    exact KW.ret rfl rfl rfl rfl (no (fun hc => by rw [ea, hc.1] at h1; simp at h1))
theorem l07Parts {gs : List (List Int)} {n a b : Nat} (hn : n ≤ 256) (ha : a < n) (hb : b < n) (hab : a &&& b < n) {s c} (hs : Kn.bool.Sl S H0 (.slice s (tabO gs n).length c) (tabO gs n)) :
    Spec Try.prog S H0 115 [.slice s (tabO gs n).length c, .int .i64 a, .int .i64 b] (fun v => v = .bool (tv (Opens gs a ∧ Opens gs b ∧ ¬ Opens gs (a &&& b)))) := by
  refine Spec.of Try.func115 rfl (by kernel_rfl) rfl (fun H hfin hfz => ?_)
  have hs := hs.to hfz
  have hl := tabO_len gs n
  have ea := and_i64 (a := a) (b := b) (by omega) (by omega)
  have no : ¬ (Opens gs a ∧ Opens gs b ∧ ¬ Opens gs (a &&& b)) → aout [Value.bool false] = .bool (tv (Opens gs a ∧ Opens gs b ∧ ¬ Opens gs (a &&& b))) := fun h => by rw [tv_false h]; rfl
  refine KW.getB hs rfl rfl rfl rfl rfl rfl rfl rfl rfl rfl rfl rfl rfl rfl rfl rfl (by omega) (by omega) (fun y hy => ?_)
  obtain rfl := tabO_at ha hy
  refine KW.tstB rfl rfl (fun h1 => ?_) (fun h1 => ?_)
  · refine KW.getB hs rfl rfl rfl rfl rfl rfl rfl rfl rfl rfl rfl rfl rfl rfl rfl rfl (by omega) (by omega) (fun z hz => ?_)
    obtain rfl := tabO_at hb hz
    refine KW.tstB rfl rfl (fun h2 => ?_) (fun h2 => ?_)
    · refine KW.getB hs rfl rfl rfl rfl rfl rfl rfl rfl rfl rfl rfl rfl rfl rfl rfl rfl (by rw [ea]; omega) (by rw [ea]; omega) (fun w hw => ?_)
      rw [ea] at hw
      obtain rfl := tabO_at hab hw
      refine KW.ret rfl rfl rfl rfl ?_
      show Value.bool (!tv _) = _
      congr 1
      by_cases h : Opens gs (a &&& b)
      · rw [tv_true h, tv_false (fun hc => hc.2.2 h)]; rfl
      · rw [tv_false h, tv_true ⟨tv_iff.1 h1, tv_iff.1 h2, h⟩]; rfl
    · exact KW.ret rfl rfl rfl rfl (no (fun hc => by rw [tv_true hc.2.1] at h2; cases h2))
  · refine KW.tstB rfl rfl (fun h => absurd h (by decide)) (fun _ => ?_)
    exact KW.ret rfl rfl rfl rfl (no (fun hc => by rw [tv_true hc.1] at h1; cases h1))
theorem l07Misfit (u : Int) {m : Nat} (hm : m ≤ 7) (hu : 1 ≤ u ∧ u ≤ 100000) {id : Nat} {ty : TypeId} {rw : Bool} {a0 c0 a1 c1} {l : List Int} {gs : List (List Int)} (hl : l.length = 2 ^ m) (hw : Within l) (hS : S id) (hmm : H0.m id = some ⟨ty, rw, [.int .i64 m, .int .i64 u, .slice a0 l.length c0]⟩)
    (hs : (Kn.int .i64).Sl S H0 (.slice a0 l.length c0) l) (hs' : Kn.bool.Sl S H0 (.slice a1 (tabO gs l.length).length c1) (tabO gs l.length)) :
    Spec Try.prog S H0 73 [.pointer (some ⟨id, 0, none⟩), .slice a1 (tabO gs l.length).length c1] (fun v => ∃ (a b : Nat) (f : Bool), v = .tuple #[.int .i64 a, .int .i64 b, .bool f] ∧ Fst l u gs a b f) := by
  refine Spec.of Try.func73 rfl (by kernel_rfl) rfl (fun H hfin hfz => ?_)
  have hs := hs.to hfz
  have hs' := hs'.to hfz
  have hm := ((hfz id hS).2).trans hmm
  have hS : Low H.n id := (hfz id hS).1
  have h256 := len_le (m := m) (by omega) hl
  have htl := tabO_len gs l.length
  refine KW.lp rfl rfl (fun a : Nat => [(0, .pointer (some ⟨id, 0, none⟩)), (1, .slice a1 (tabO gs l.length).length c1), (7, .int .i64 (tabO gs l.length).length), (8, .int .i64 a)]) (fun a => a ≤ l.length ∧ ∀ a', a' < a → ∀ b', b' < l.length → ¬ Mis l u gs a' b') (fun a => l.length - a) 0 ⟨by omega, fun j h => absurd h (by omega)⟩ ⟨rfl, rfl, rfl, rfl, trivial⟩ (fun a ha e n => ?_)
  obtain ⟨ha0, ha⟩ := ha
  refine KW.cnd rfl rfl (fun h => ?_) (fun h => KW.ret rfl rfl rfl rfl ⟨0, 0, false, rfl, .inr ⟨rfl, rfl, rfl, fun a' ha' => ha a' (by omega)⟩⟩)
  have hal : a < l.length := by omega
  refine KW.lp rfl rfl (fun b : Nat => [(0, .pointer (some ⟨id, 0, none⟩)), (1, .slice a1 (tabO gs l.length).length c1), (7, .int .i64 (tabO gs l.length).length), (8, .int .i64 a), (9, .int .i64 b)]) (fun b => b ≤ l.length ∧ ∀ b', b' < b → ¬ Mis l u gs a b') (fun b => l.length - b) 0 ⟨by omega, fun j h => absurd h (by omega)⟩ ⟨rfl, rfl, rfl, rfl, rfl, trivial⟩ (fun b hb' e n => ?_)
  obtain ⟨hb0, hb'⟩ := hb'
  refine KW.cnd rfl rfl (fun h => ?_) (fun h => ?_)
  · have hbl : b < l.length := by omega
    have eo := or_i64 (a := a) (b := b) (by omega) (by omega)
    have ea := and_i64 (a := a) (b := b) (by omega) (by omega)
    have ho := or_in hl hal hbl
    have hn := and_in (a := a) hl hbl
    have w1 := hw a hal
    have w2 := hw b hbl
    have w3 := hw _ ho
    have w4 := hw _ hn
    have found : Mis l u gs a b → Fst l u gs a b true := fun h => .inl ⟨rfl, hal, hbl, h, ha, hb'⟩
    refine KW.callE rfl rfl rfl rfl rfl (l07Grows (by omega) hal hbl hs') (fun _ _ => ?_)
    refine KW.tstB rfl rfl (fun h1 => ?g1) (fun h1 => ?g2)
    case' g1 =>
      have h1 := tv_iff.1 h1
      refine KW.ldP hS hm rfl rfl rfl rfl rfl rfl ?_
      refine KW.getI hs rfl rfl rfl rfl rfl rfl rfl rfl rfl rfl rfl rfl rfl rfl rfl rfl (by omega) (by omega) (fun x hx => ?_)
      have hx : l.getD b 0 = x := getD_of hx
      refine KW.ldP hS hm rfl rfl rfl rfl rfl rfl ?_
      refine KW.getI hs rfl rfl rfl rfl rfl rfl rfl rfl rfl rfl rfl rfl rfl rfl rfl rfl (by omega) (by omega) (fun y hy => ?_)
      have hy : l.getD a 0 = y := getD_of hy
      refine KW.ldP hS hm rfl rfl rfl rfl rfl rfl ?_
      have e5 : IntKind.i64.wrap (x - y) = x - y := wr (by omega) (by omega)
      refine KW.cnd rfl rfl (fun h2 => KW.ret rfl rfl rfl rfl ⟨a, b, true, rfl, found (.inl ⟨h1.1, h1.2.1, h1.2.2, by rw [e5] at h2; omega⟩)⟩) (fun h2 => ?_)
      have hng : ¬ Grow l u gs a b := fun hc => h2 (by rw [e5]; have := hc.2.2.2; omega)
      clear hx hy h2 h1
    case' g2 =>
      refine KW.cndB rfl rfl (fun h => absurd h (by decide)) (fun _ => ?_)
      have hng : ¬ Grow l u gs a b := fun hc => by rw [tv_true ⟨hc.1, hc.2.1, hc.2.2.1⟩] at h1; cases h1
      clear h1
    all_goals
      refine KW.callE rfl rfl rfl rfl rfl (l07Parts (by omega) hal hbl hn hs') (fun _ _ => ?_)
      refine KW.tstB rfl rfl (fun h1 => ?_) (fun h1 => ?_)
      · have h1 := tv_iff.1 h1
        refine KW.ldP hS hm rfl rfl rfl rfl rfl rfl ?_
        refine KW.getI hs rfl rfl rfl rfl rfl rfl rfl rfl rfl rfl rfl rfl rfl rfl rfl rfl (by omega) (by omega) (fun x hx => ?_)
        have hx : l.getD a 0 = x := getD_of hx
        refine KW.ldP hS hm rfl rfl rfl rfl rfl rfl ?_
        refine KW.getI hs rfl rfl rfl rfl rfl rfl rfl rfl rfl rfl rfl rfl rfl rfl rfl rfl (by omega) (by omega) (fun y hy => ?_)
        have hy : l.getD b 0 = y := getD_of hy
        refine KW.ldP hS hm rfl rfl rfl rfl rfl rfl ?_
        refine KW.getI hs rfl rfl rfl rfl rfl rfl rfl rfl rfl rfl rfl rfl rfl rfl rfl rfl (by rw [eo]; omega) (by rw [eo]; omega) (fun z hz => ?_)
        rw [eo] at hz
        have hz : l.getD (a ||| b) 0 = z := getD_of hz
        refine KW.ldP hS hm rfl rfl rfl rfl rfl rfl ?_
        refine KW.getI hs rfl rfl rfl rfl rfl rfl rfl rfl rfl rfl rfl rfl rfl rfl rfl rfl (by rw [ea]; omega) (by rw [ea]; omega) (fun w hw' => ?_)
        rw [ea] at hw'
        have hw' : l.getD (a &&& b) 0 = w := getD_of hw'
        refine KW.ldP hS hm rfl rfl rfl rfl rfl rfl ?_
        have e5 : IntKind.i64.wrap (x + y) = x + y := wr (by omega) (by omega)
        have e6 : IntKind.i64.wrap (x + y - z) = x + y - z := wr (by omega) (by omega)
        have e7 : IntKind.i64.wrap (x + y - z - w) = x + y - z - w := wr (by omega) (by omega)
        refine KW.cnd rfl rfl (fun h2 => KW.ret rfl rfl rfl rfl ⟨a, b, true, rfl, found (.inr ⟨h1.1, h1.2.1, h1.2.2, by rw [e5, e6, e7] at h2; omega⟩)⟩) (fun h2 => ?_)
        refine KW.nxt rfl rfl (fun H g' => ⟨b + 1, ⟨by omega, upto hb' (fun hc => ?_)⟩, by omega, ⟨rfl, rfl, rfl, rfl, congrArg (Value.int .i64) (inc64 (by omega)), trivial⟩, g'⟩)
        rcases hc with hc | hc
        · exact hng hc
        · exact h2 (by rw [e5, e6, e7]; have := hc.2.2.2; omega)
      · refine KW.cndB rfl rfl (fun h => absurd h (by decide)) (fun _ => ?_)
        refine KW.nxt rfl rfl (fun H g' => ⟨b + 1, ⟨by omega, upto hb' (fun hc => ?_)⟩, by omega, ⟨rfl, rfl, rfl, rfl, congrArg (Value.int .i64) (inc64 (by omega)), trivial⟩, g'⟩)
        rcases hc with hc | hc
        · exact hng hc
        · rw [tv_true ⟨hc.1, hc.2.1, hc.2.2.1⟩] at h1; cases h1
  · exact KW.nxt rfl rfl (fun H g' => ⟨a + 1, ⟨by omega, upto ha (fun b' hb1 => hb' b' (by omega))⟩, by omega, ⟨rfl, rfl, rfl, congrArg (Value.int .i64) (inc64 (by omega)), trivial⟩, g'⟩)
theorem l07Open {m : Nat} (hm : m ≤ 7) {id : Nat} {ty : TypeId} {rw : Bool} {a1 c1} {gs : List (List Int)} (hsm : Sml gs) (hb : Below' m gs) (hS : S id) (hmm : H0.m id = some ⟨ty, rw, [.int .i64 m, .slice a1 gs.length c1]⟩) (hs : (Kn.int .i64).sl.Sl S H0 (.slice a1 gs.length c1) gs) :
    SpecM Try.prog S H0 74 [.pointer (some ⟨id, 0, none⟩)] (fun n v H1 => ∃ a c, v = .slice a (tabO gs (2 ^ m)).length c ∧ Kn.bool.Sl (New n H1.n) H1 (.slice a (tabO gs (2 ^ m)).length c) (tabO gs (2 ^ m))) := by
  refine SpecM.of Try.func74 rfl (by kernel_rfl) rfl (fun H hfin hfz => ?_)
  have hs := hs.to hfz
  have hm2 := ((hfz id hS).2).trans hmm
  have hS2 : Low H.n id := (hfz id hS).1
  have hgl := hsm.len
  have hp := small_pow (m := m) (by omega)
  refine KW.lit rfl rfl rfl rfl rfl rfl rfl rfl rfl rfl [] rfl rfl (fun v hv => by simp at hv) rfl ?_
  refine KW.lpM rfl rfl (fun s : Nat × Nat => [(0, .pointer (some ⟨id, 0, none⟩)), (3, .slice (some ⟨s.2, 0, some 1⟩) s.1 s.1), (4, .int .i64 s.1)]) (fun _ => Low H.n) (fun _ => H) (fun s => [(s.2, ⟨_, true, (tabO gs s.1).map Value.bool⟩)]) (fun s => s.1 ≤ 2 ^ m) (fun s => 2 ^ m - s.1) (0, H.n) (by simp) ⟨rfl, rfl, rfl, trivial⟩ rfl rfl rfl (fun s hi b n => ?_)
  obtain ⟨q, o⟩ := s
  simp only at hi
  refine KW.fact (p := ¬ o < H.n) (fun _ g => (g.vars 0 _ rfl).2.2) (fun ho => ?_)
  refine KW.ldP hS2 hm2 rfl rfl rfl rfl rfl rfl ?_
  refine KW.shlI rfl rfl rfl rfl rfl rfl m (wru (by omega) (by omega)) (by omega) ?_
  refine KW.cnd rfl rfl (fun h => ?_) (fun h => ?_)
  · have hql : q < 2 ^ m := by omega
    refine KW.lp rfl rfl (fun i : Nat => [(0, .pointer (some ⟨id, 0, none⟩)), (3, .slice (some ⟨o, 0, some 1⟩) q q), (4, .int .i64 q), (5, .bool (tv (Opens (gs.take i) q))), (6, .int .i64 i)]) (fun i => i ≤ gs.length) (fun i => gs.length - i) 0 (by omega) ⟨rfl, rfl, rfl, congrArg Value.bool (tv_false (fun ⟨g, hg, _⟩ => by simp at hg)).symm, rfl, trivial⟩ (fun i hi b n => ?_)
    refine KW.ldP hS2 hm2 rfl rfl rfl rfl rfl rfl ?_
    refine KW.cnd rfl rfl (fun h2 => ?_) (fun h2 => ?_)
    · refine KW.ldP hS2 hm2 rfl rfl rfl rfl rfl rfl ?_
      refine KW.getL hs rfl rfl rfl rfl rfl rfl rfl rfl rfl rfl rfl rfl rfl rfl rfl rfl (by omega) h2 (fun g ag cg hg hsg => ?_)
      have hg : gs[i]? = some g := hg
      have hmem := List.mem_of_getElem? hg
      have hbs := below_bits hm hb hmem
      refine KW.callE rfl rfl rfl rfl rfl (l07Bits (m := m) (by omega) (by have := hsm.each g hmem; omega) (hb g hmem) hsg) (fun _ _ => ?_)
      have etake : gs.take (i + 1) = gs.take i ++ [g] := by
        obtain ⟨hi', rfl⟩ := List.getElem?_eq_some_iff.1 hg
        exact List.take_succ_eq_append_getElem hi'
      have eop : Opens (gs.take (i + 1)) q ↔ Opens (gs.take i) q ∨ q &&& bitsOf g = bitsOf g := by
        rw [etake]
        constructor
        · rintro ⟨x, hx, h⟩
          rcases List.mem_append.1 hx with hx | hx
          · exact .inl ⟨x, hx, h⟩
          · obtain rfl : x = g := by simpa using hx
            exact .inr h
        · rintro (⟨x, hx, h⟩ | h)
          · exact ⟨x, List.mem_append_left _ hx, h⟩
          · exact ⟨g, by simp, h⟩
      refine KW.tstB rfl rfl (fun h3 => ?_) (fun h3 => ?_)
      · exact KW.nxt rfl rfl (fun H g' => ⟨i + 1, by omega, by omega, ⟨rfl, rfl, rfl, congrArg Value.bool (tv_true (eop.2 (.inl (tv_iff.1 h3)))).symm, congrArg (Value.int .i64) (inc64 (by omega)), trivial⟩, g'⟩)
      · refine KW.nxt rfl rfl (fun H g' => ⟨i + 1, by omega, by omega, ⟨rfl, rfl, rfl, ?_, congrArg (Value.int .i64) (inc64 (by omega)), trivial⟩, g'⟩)
        show Value.bool (IntKind.i64.wrap ((BitVec.ofInt IntKind.i64.bits ((bitsOf g : Nat) : Int) &&& BitVec.ofInt IntKind.i64.bits (q : Int)).toNat : Int) == ((bitsOf g : Nat) : Int)) = _
        rw [and_i64 (by omega) (by omega), Nat.and_comm]
        congr 1
        by_cases h4 : q &&& bitsOf g = bitsOf g
        · rw [tv_true (eop.2 (.inr h4)), h4]; simp
        · rw [tv_false (fun hc => by rcases eop.1 hc with hc | hc; · rw [tv_true hc] at h3; cases h3
                                     · exact h4 hc)]
          simp; omega
    · have hil : i = gs.length := by omega
      subst hil
      rw [List.take_length]
      refine KW.lit rfl rfl rfl rfl rfl rfl rfl rfl rfl rfl [.bool (tv (Opens gs q))] rfl rfl (fun v hv => by simp at hv; subst hv; rfl) rfl ?_
      refine KW.appT (ys := [.bool (tv (Opens gs q))]) (m := 1) 0 rfl rfl rfl rfl rfl rfl rfl rfl rfl rfl (fun H g => acells_T (g.blk (j := 1) rfl).1 rfl rfl) (by simp [tabO_len]) (fun v hv => by simp at hv; subst hv; rfl) (by decide) (by show (q + 1) * 1 ≤ _; omega) (by omega) ?_
      refine KW.nxt rfl rfl (fun H g' => ⟨(q + 1, _), by simp only; omega, by simp only; omega, ⟨rfl, rfl, congrArg (Value.int .i64) (inc64 (by omega)), trivial⟩, (g'.take 1).eqT ?_⟩)
      rw [tabO_next, List.map_append]
      rfl
  · obtain rfl : q = 2 ^ m := by omega
    refine KW.retM rfl rfl rfl rfl (fun id hid => ⟨hid, rfl⟩) (fun H1 g => ?_)
    have hb := g.blk (j := 0) rfl
    refine ⟨some ⟨o, 0, some 1⟩, 2 ^ m, ?_, bool_sl ⟨by omega, hb.2⟩ hb.1 rfl (by rw [tabO_len]; omega)⟩
    rw [tabO_len]
    rfl
end
end Go.Proofs.Ytaepgfafbnjccaa.Am
