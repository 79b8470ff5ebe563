/- Contracts and laws on abstract memory, merged. Each holds under its own conditions. -/
import Derived.Test.YtijmkfnmdhpakaaPTermBound03
/- Contract: TermBound of the reference. Each holds under its own conditions. -/
set_option linter.unusedVariables false
set_option linter.unusedSimpArgs false
set_option maxRecDepth 20000
namespace Go.Proofs.Ytijmkfnmdhpakaa.Am
open Go Go.RowKit Go.Proofs
section
variable {S : Ids} {H0 : AH}
theorem spec_TermBound {x : T_Family} {y : List T_Term} {ds : List Value} {a2 c2} (hF : B_Family x) (hT : B_TermS y) (h : K_Family.R S H0 x ds) (k : K_TermS.R S H0 y [.slice a2 y.length c2]) :
    SpecM Try.prog S H0 13 [.agg ds.toArray, .slice a2 y.length c2] (MkTB (r0_TermBound x y) (r1_TermBound x y) (r2_TermBound x y)) := by
  obtain ⟨a3, c3, rfl, h1⟩ := split_Family h
  have s1 := sl1 h1
  have s2 := sl1 k
  obtain ⟨m, gs⟩ := x
  simp only at s1 ⊢
  have hsm : Sml gs := hF.2
  have hyl := hT.len
  refine SpecM.of1 Try.func13 rfl (by kernel_rfl) rfl (fun H _ => ?_)
  refine KW.callV1 rfl rfl rfl rfl rfl (fun H1 g _ => l07Family m hsm (g.blk (j := 0) rfl).2 (g.blk (j := 0) rfl).1 s1.up) (fun _ _ => ?_)
  by_cases hc : codeF m gs = 0
  · rw [hc]
    have hf := codeF_ok hc
    obtain ⟨q, rfl⟩ : ∃ q : Nat, m = q := ⟨m.toNat, by have := hf.h1; omega⟩
    have hq5 : q ≤ 5 := by
      unfold codeF at hc
      rw [if_pos (tv_true hf)] at hc
      split at hc
      · cases hc
      · omega
    have hq1 : 1 ≤ q := by have := hf.h1; omega
    have hp := small_pow (m := q) (by omega)
    have hpq : 2 ^ q ≤ 32 := Nat.le_trans (Nat.pow_le_pow_right (by decide) hq5) (by decide)
    have hb : Below' q gs := by simpa using hf.below
    have bad : ¬ (y.length ≤ 40 ∧ ∀ t ∈ y, TermP q t) → r2_TermBound ((q : Int), gs) y = 2 := fun hx => by unfold r2_TermBound; rw [if_pos hc, tv_false hx]; rfl
    refine KW.cF rfl rfl (by first | (simp; done) | decide) ?_
    refine KW.lp rfl rfl (fun i : Nat => [(1, .slice a2 y.length c2), (2, .pointer (some ⟨H.n, 0, some 0⟩)), (8, .bool (tv (y.length ≤ 40 ∧ ∀ t ∈ y.take i, TermP q t))), (9, .int .i64 i)]) (fun i => i ≤ y.length) (fun i => y.length - i) (0) (by omega) ⟨rfl, rfl, by show Value.bool (decide ((y.length : Int) ≤ 40)) = _; rw [tv_dec]; congr 1; exact tv_congr ⟨fun h => ⟨by omega, by simp⟩, fun h => by omega⟩, rfl, trivial⟩ (fun i hi bE n => ?_)
    refine KW.tst rfl rfl (fun k1 => ?_) (fun k1 => ?_)
    · have k1 : (i : Int) < (y.length : Int) := k1
      by_cases hall : y.length ≤ 40 ∧ ∀ t ∈ y.take i, TermP q t
      · rw [tv_true hall]
        refine KW.cT rfl rfl (by first | (simp; done) | decide) ?_
        refine KW.adS s2.up rfl rfl rfl rfl rfl rfl rfl rfl rfl (by omega) (by omega) (fun t ct id kq ht hst hat => ?_)
        have ht : y[i]? = some t := ht
        refine KW.callV1 rfl rfl rfl rfl rfl (fun H1 g _ => l07Term q (by omega) ((g.has (j := 0) rfl rfl).take (vs := [.int .i64 q]).up) hat.up (hT.each t (List.mem_of_getElem? ht)) (On.R hst)) (fun _ _ => ?_)
        refine KW.nxt rfl rfl (fun H' g => ⟨i + 1, by omega, by first | omega | (simp only; omega), ⟨rfl, rfl, congrArg Value.bool (tv_congr (by rw [take_one ht]; exact ⟨fun h => ⟨hall.1, fun z hz => by rcases List.mem_append.1 hz with hz | hz; exact hall.2 z hz; rw [List.mem_singleton.1 hz]; exact h⟩, fun h => h.2 t (by simp)⟩)), congrArg (Value.int .i64) (inc64 (by omega)), trivial⟩, g⟩)
      · rw [tv_false hall]
        refine KW.cF rfl rfl (by first | (simp; done) | decide) ?_
        refine KW.cT rfl rfl (by first | (simp; done) | decide) ?_
        refine KW.lit rfl rfl rfl rfl rfl rfl rfl rfl rfl rfl [] rfl rfl (fun v hv => by simp at hv) rfl ?_
        have e2 := bad (fun hx => hall ⟨hx.1, fun t ht => hx.2 t (List.mem_of_mem_take ht)⟩)
        have e3 := tb_err (x := ((q : Int), gs)) (y := y) (by rw [e2]; decide)
        rw [e2, e3.1, e3.2]
        refine KW.retM1 rfl rfl rfl rfl (fun H1 g => ?_)
        exact MkTB.nil' rfl
    · have k1 : ¬ (i : Int) < (y.length : Int) := k1
      obtain rfl : i = y.length := by omega
      refine KW.fact (p := H.n < n) (fun _ g => (g.vars 0 _ rfl).2.1) (fun hHn => ?_)
      rw [List.take_of_length_le (Nat.le_refl _)]
      refine KW.cF rfl rfl (by first | (simp; done) | decide) ?_
      by_cases hall : y.length ≤ 40 ∧ ∀ t ∈ y, TermP q t
      · rw [tv_true hall]
        refine KW.cF rfl rfl (by first | (simp; done) | decide) ?_
        refine KW.callNV1 rfl rfl rfl rfl rfl (fun H1 g _ => l07Open (m := q) (by omega) hsm hb (g.blk (j := 0) rfl).2 (g.blk (j := 0) rfl).1 s1.up) (fun v HO SO mO _ _ hv => ?_)
        obtain ⟨a5, c5, rfl, hO⟩ := hv
        have hL := tabO_len gs (2 ^ q)
        refine KW.mk1 rfl rfl rfl rfl rfl rfl rfl rfl rfl rfl rfl rfl ((tabO gs (2 ^ q)).length) rfl rfl (by omega) (by show 8 * _ ≤ _; omega) ?_
        obtain ⟨k1', hall⟩ := hall
        obtain ⟨L, hLe⟩ : ∃ L, (tabO gs (2 ^ q)).length = L := ⟨_, rfl⟩
        obtain ⟨F0, hF0⟩ : ∃ F0, List.replicate (2 ^ q) (0 : Int) = F0 := ⟨_, rfl⟩
        have hF0l : F0.length = 2 ^ q := by rw [← hF0]; simp
        refine KW.lpM rfl rfl (fun i : Nat => [(1, .slice a2 y.length c2), (10, .slice a5 (tabO gs (2 ^ q)).length c5), (11, .slice (some ⟨HO.n, 0, some 1⟩) (tabO gs (2 ^ q)).length (tabO gs (2 ^ q)).length), (12, .int .i64 (uniT gs 0 (y.take i))), (13, .int .i64 i)]) (fun i => SO) (fun i => HO) (fun i => [(H.n, ⟨31, true, [.int .i64 q, .slice a3 gs.length c3]⟩), (HO.n, ⟨2, true, (facT F0 (y.take i)).map (Value.int .i64)⟩)]) (fun i => i ≤ y.length) (fun i => y.length - i) (0) (by omega) ⟨rfl, rfl, rfl, rfl, rfl, trivial⟩ rfl rfl (by rw [← hF0, hL]; simp only [List.take_zero, facT, List.map_replicate]; rfl) (fun i hi bE n => ?_)
        have hFl := facT_len (y.take i) F0
        refine KW.cnd rfl rfl (fun k3 => ?_) (fun k3 => ?_)
        · refine KW.adS s2.up rfl rfl rfl rfl rfl rfl rfl rfl rfl (by omega) (k3) (fun t ct id kq ht hst hat => ?_)
          have ht : y[i]? = some t := ht
          have hp1 := hall t (List.mem_of_getElem? ht)
          have hBt := hT.each t (List.mem_of_getElem? ht)
          have lA : t.2.1.length ≤ 1048576 := hBt.2.1
          have lB : t.2.2.1.length ≤ 1048576 := hBt.2.2.1
          obtain ⟨g1, g2, b1, b2⟩ := term_ok rfl hp1
          obtain ⟨p1, q1, p2, q2, rfl, y1, y2⟩ := split_Term hst
          have y1 := sl1 y1
          have y2 := sl1 y2
          have band : bitsOf t.2.1 &&& bitsOf t.2.2.1 < 2 ^ q := Nat.and_lt_two_pow _ b2
          have bor : bitsOf t.2.1 ||| bitsOf t.2.2.1 < 2 ^ q := Nat.or_lt_two_pow b1 b2
          have eand := and_i64 (a := bitsOf t.2.1) (b := bitsOf t.2.2.1) (by omega) (by omega)
          have eor := or_i64 (a := bitsOf t.2.1) (b := bitsOf t.2.2.1) (by omega) (by omega)
          refine KW.ldF 1 hat.up rfl rfl rfl rfl rfl rfl rfl rfl rfl ?_
          refine KW.callE rfl rfl rfl rfl rfl (l07Bits (m := q) (by omega) (by omega) g1 y1.up) (fun _ _ => ?_)
          refine KW.ldF 2 hat.up rfl rfl rfl rfl rfl rfl rfl rfl rfl ?_
          refine KW.callE rfl rfl rfl rfl rfl (l07Bits (m := q) (by omega) (by omega) g2 y2.up) (fun _ _ => ?_)
          have eT := facT_snoc (y.take i) F0 t
          have eU := uniT_snoc gs (y.take i) 0 t
          rw [← take_one ht] at eT eU
          refine KW.ldF 0 hat.up rfl rfl rfl rfl rfl rfl rfl rfl rfl ?_
          refine KW.cnd rfl rfl (fun k4 => ?_) (fun k4 => ?_)
          · have k4 : t.1 = 1 := k4
            refine KW.idx0 rfl rfl rfl rfl rfl rfl rfl rfl rfl (by omega) (by omega) ?_
            refine KW.ldI 1 (bitsOf t.2.2.1) rfl rfl rfl rfl rfl rfl rfl rfl (by omega) (by omega) ?_
            refine KW.ldF 3 hat.up rfl rfl rfl rfl rfl rfl rfl rfl rfl ?_
            refine KW.idx0 rfl rfl rfl rfl rfl rfl rfl rfl rfl (by omega) (by omega) ?_
            refine KW.stI 1 (bitsOf t.2.2.1) rfl rfl rfl rfl rfl rfl rfl rfl rfl (by omega) (by omega) ?_
            refine KW.idx0 rfl rfl rfl rfl rfl rfl rfl rfl rfl (by omega) (by omega) ?_
            refine KW.ldI 1 (bitsOf t.2.1) rfl rfl rfl rfl rfl rfl rfl rfl (by omega) (by simp; omega) ?_
            refine KW.ldF 3 hat.up rfl rfl rfl rfl rfl rfl rfl rfl rfl ?_
            refine KW.idx0 rfl rfl rfl rfl rfl rfl rfl rfl rfl (by omega) (by omega) ?_
            refine KW.stI 1 (bitsOf t.2.1) rfl rfl rfl rfl rfl rfl rfl rfl rfl (by omega) (by simp; omega) ?_
            refine KW.callE rfl rfl rfl rfl rfl (l07Grows (n := 2 ^ q) (by omega) b1 b2 hO.up) (fun _ _ => ?_)
            have eT := eT.trans (show facS (facT F0 (y.take i)) t = subW (addW (facT F0 (y.take i)) (bitsOf t.2.2.1) t.2.2.2) (bitsOf t.2.1) t.2.2.2 from if_pos k4)
            have hsu : bitsOf t.2.1 &&& bitsOf t.2.2.1 = bitsOf t.2.1 := by rw [Nat.and_comm]; exact hp1.su.resolve_left (by omega)
            by_cases k5 : bitsOf t.2.1 &&& bitsOf t.2.2.1 = bitsOf t.2.1 ∧ ¬ Opens gs (bitsOf t.2.1) ∧ Opens gs (bitsOf t.2.2.1)
            · have hst : uniS gs (uniT gs 0 (y.take i)) t = IntKind.i64.wrap (uniT gs 0 (y.take i) + t.2.2.2) := by unfold uniS; rw [tv_true (p := Strict gs t) (.inl ⟨k4, k5.2⟩)]; rfl
              rw [tv_true k5]
              refine KW.cT rfl rfl (by first | (simp; done) | decide) ?_
              refine KW.ldF 3 hat.up rfl rfl rfl rfl rfl rfl rfl rfl rfl ?_
              refine KW.nxt rfl rfl (fun H' g => ⟨i + 1, by omega, by first | omega | (simp only; omega), ⟨rfl, rfl, rfl, congrArg (Value.int .i64) (by rw [eU, hst]), congrArg (Value.int .i64) (inc64 (by omega)), trivial⟩, g.idT (by rw [eT]; rfl)⟩)
            · have hst : uniS gs (uniT gs 0 (y.take i)) t = uniT gs 0 (y.take i) := by unfold uniS; rw [tv_false (p := Strict gs t) (fun hc => by rcases hc with hc | hc; exact k5 ⟨hsu, hc.2⟩; exact hc.1 k4)]; rfl
              rw [tv_false k5]
              refine KW.cF rfl rfl (by first | (simp; done) | decide) ?_
              refine KW.nxt rfl rfl (fun H' g => ⟨i + 1, by omega, by first | omega | (simp only; omega), ⟨rfl, rfl, rfl, congrArg (Value.int .i64) (by rw [eU, hst]), congrArg (Value.int .i64) (inc64 (by omega)), trivial⟩, g.idT (by rw [eT]; rfl)⟩)
          · have k4 : ¬ t.1 = 1 := k4
            refine KW.idx0 rfl rfl rfl rfl rfl rfl rfl rfl rfl (by omega) (by omega) ?_
            refine KW.ldI 1 (bitsOf t.2.1) rfl rfl rfl rfl rfl rfl rfl rfl (by omega) (by omega) ?_
            refine KW.ldF 3 hat.up rfl rfl rfl rfl rfl rfl rfl rfl rfl ?_
            refine KW.idx0 rfl rfl rfl rfl rfl rfl rfl rfl rfl (by omega) (by omega) ?_
            refine KW.stI 1 (bitsOf t.2.1) rfl rfl rfl rfl rfl rfl rfl rfl rfl (by omega) (by omega) ?_
            refine KW.idx0 rfl rfl rfl rfl rfl rfl rfl rfl rfl (by omega) (by omega) ?_
            refine KW.ldI 1 (bitsOf t.2.2.1) rfl rfl rfl rfl rfl rfl rfl rfl (by omega) (by simp; omega) ?_
            refine KW.ldF 3 hat.up rfl rfl rfl rfl rfl rfl rfl rfl rfl ?_
            refine KW.idx0 rfl rfl rfl rfl rfl rfl rfl rfl rfl (by omega) (by omega) ?_
            refine KW.stI 1 (bitsOf t.2.2.1) rfl rfl rfl rfl rfl rfl rfl rfl rfl (by omega) (by simp; omega) ?_
            refine KW.idx0 rfl rfl rfl rfl rfl rfl rfl rfl rfl (by rw [eor]; omega) (by rw [eor]; omega) ?_
            refine KW.ldI 1 (bitsOf t.2.1 ||| bitsOf t.2.2.1) rfl rfl rfl rfl rfl rfl rfl rfl (by rw [eor]; omega) (by simp; omega) ?_
            refine KW.ldF 3 hat.up rfl rfl rfl rfl rfl rfl rfl rfl rfl ?_
            refine KW.idx0 rfl rfl rfl rfl rfl rfl rfl rfl rfl (by rw [eor]; omega) (by rw [eor]; omega) ?_
            refine KW.stI 1 (bitsOf t.2.1 ||| bitsOf t.2.2.1) rfl rfl rfl rfl rfl rfl rfl rfl rfl (by rw [eor]; omega) (by simp; omega) ?_
            refine KW.idx0 rfl rfl rfl rfl rfl rfl rfl rfl rfl (by rw [eand]; omega) (by rw [eand]; omega) ?_
            refine KW.ldI 1 (bitsOf t.2.1 &&& bitsOf t.2.2.1) rfl rfl rfl rfl rfl rfl rfl rfl (by rw [eand]; omega) (by simp; omega) ?_
            refine KW.ldF 3 hat.up rfl rfl rfl rfl rfl rfl rfl rfl rfl ?_
            refine KW.idx0 rfl rfl rfl rfl rfl rfl rfl rfl rfl (by rw [eand]; omega) (by rw [eand]; omega) ?_
            refine KW.stI 1 (bitsOf t.2.1 &&& bitsOf t.2.2.1) rfl rfl rfl rfl rfl rfl rfl rfl rfl (by rw [eand]; omega) (by simp; omega) ?_
            refine KW.callE rfl rfl rfl rfl rfl (l07Parts (n := 2 ^ q) (by omega) b1 b2 band hO.up) (fun _ _ => ?_)
            have eT := eT.trans (show facS (facT F0 (y.take i)) t = subW (subW (addW (addW (facT F0 (y.take i)) (bitsOf t.2.1) t.2.2.2) (bitsOf t.2.2.1) t.2.2.2) (bitsOf t.2.1 ||| bitsOf t.2.2.1) t.2.2.2) (bitsOf t.2.1 &&& bitsOf t.2.2.1) t.2.2.2 from if_neg k4)
            by_cases k5 : Opens gs (bitsOf t.2.1) ∧ Opens gs (bitsOf t.2.2.1) ∧ ¬ Opens gs (bitsOf t.2.1 &&& bitsOf t.2.2.1)
            · have hst : uniS gs (uniT gs 0 (y.take i)) t = IntKind.i64.wrap (uniT gs 0 (y.take i) + t.2.2.2) := by unfold uniS; rw [tv_true (p := Strict gs t) (.inr ⟨k4, k5⟩)]; rfl
              rw [tv_true k5]
              refine KW.cT rfl rfl (by first | (simp; done) | decide) ?_
              refine KW.ldF 3 hat.up rfl rfl rfl rfl rfl rfl rfl rfl rfl ?_
              refine KW.nxt rfl rfl (fun H' g => ⟨i + 1, by omega, by first | omega | (simp only; omega), ⟨rfl, rfl, rfl, congrArg (Value.int .i64) (by rw [eU, hst]), congrArg (Value.int .i64) (inc64 (by omega)), trivial⟩, g.idT (by rw [eT]; rfl)⟩)
            · have hst : uniS gs (uniT gs 0 (y.take i)) t = uniT gs 0 (y.take i) := by unfold uniS; rw [tv_false (p := Strict gs t) (fun hc => by rcases hc with hc | hc; exact k4 hc.1; exact k5 hc.2)]; rfl
              rw [tv_false k5]
              refine KW.cF rfl rfl (by first | (simp; done) | decide) ?_
              refine KW.nxt rfl rfl (fun H' g => ⟨i + 1, by omega, by first | omega | (simp only; omega), ⟨rfl, rfl, rfl, congrArg (Value.int .i64) (by rw [eU, hst]), congrArg (Value.int .i64) (inc64 (by omega)), trivial⟩, g.idT (by rw [eT]; rfl)⟩)
        · obtain rfl : i = y.length := by omega
          refine KW.fact (p := HO.n < n) (fun _ g => (g.vars 1 _ rfl).2.1) (fun hnV => ?_)
          obtain ⟨no, rfl⟩ : ∃ no, no = n := ⟨n, rfl⟩
          refine KW.lit rfl rfl rfl rfl rfl rfl rfl rfl rfl rfl [] rfl rfl (fun v hv => by simp at hv) rfl ?_
          obtain ⟨F, hF⟩ : ∃ F, facT F0 y = F := ⟨_, rfl⟩
          have hFy : F.length = 2 ^ q := by rw [← hF, facT_len]; exact hF0l
          have efx : facX ((q : Int), gs) y = F := by rw [← hF, ← hF0]; rfl
          have hpos := Nat.two_pow_pos q
          refine KW.lpM rfl rfl (fun s : Nat × Nat × Nat => [(11, .slice (some ⟨HO.n, 0, some 1⟩) (tabO gs (2 ^ q)).length (tabO gs (2 ^ q)).length), (12, .int .i64 (uniT gs 0 y)), (18, .slice (some ⟨s.2.2, 0, some 1⟩) s.2.1 s.2.1), (19, .int .i64 s.1)]) (fun s => SO) (fun s => HO) (fun s => [(H.n, ⟨31, true, [.int .i64 q, .slice a3 gs.length c3]⟩), (HO.n, ⟨2, true, F.map (Value.int .i64)⟩), (s.2.2, ⟨2, true, (outF F s.2.1).map (Value.int .i64)⟩)]) (fun s => (1 ≤ s.1 ∧ s.1 ≤ 2 ^ q ∧ s.1 ≤ 2 ^ s.2.1 ∧ (s.2.1 = 0 ∨ 2 ^ (s.2.1 - 1) < s.1)) ∧ HO.n < s.2.2 ∧ ∀ c', c' < s.1 → 0 < c' → ones c' ≠ 1 → F.getD c' 0 = 0) (fun s => 2 ^ q - s.1) ((1, 0, no)) (⟨⟨by simp only; omega, by simp only; omega, by simp, .inl rfl⟩, hnV, fun c' h1 h2 => by simp only at h1; omega⟩) ⟨rfl, congrArg (Value.int .i64) (by rw [List.take_of_length_le (Nat.le_refl _)]), rfl, rfl, trivial⟩ rfl rfl (by rw [List.take_of_length_le (Nat.le_refl _), hF]; rfl) (fun s hi bE n => ?_)
          obtain ⟨c, j, o⟩ := s
          obtain ⟨⟨h1, h2, h3, h4⟩, ho, hz⟩ := hi
          simp only at h1 h2 h3 h4 ho hz
          refine KW.fact (p := HO.n < n) (fun _ g => (g.vars 1 _ rfl).2.1) (fun hno => ?_)
          have hol := outF_len F j
          refine KW.cnd rfl rfl (fun k4 => ?_) (fun k4 => ?_)
          · have k4 : (c : Int) < ((tabO gs (2 ^ q)).length : Int) := k4
            have hc64 : c < 64 := by omega
            refine KW.callE rfl rfl rfl rfl rfl (l07Count (x := c) (by omega)) (fun n9 m9 => ?_)
            refine KW.cnd rfl rfl (fun k5 => ?_) (fun k5 => ?_)
            · have k5 : (ones c : Int) = 1 := k5
              have k5 : ones c = 1 := by omega
              obtain ⟨j', hj6, hcj⟩ := (ones_pow c hc64).1 k5
              have hjj : j' = j := by
                rcases Nat.lt_trichotomy j' j with h | h | h
                · have := Nat.pow_le_pow_right (n := 2) (by decide) (show j' ≤ j - 1 by omega)
                  rcases h4 with h4 | h4 <;> omega
                · exact h
                · have := Nat.pow_lt_pow_right (a := 2) (by decide) h; omega
              subst hjj
              have hjq : j' < q := by
                rcases Nat.lt_or_ge j' q with h | h
                · exact h
                · have := Nat.pow_le_pow_right (n := 2) (by decide) h; omega
              refine KW.idx0 rfl rfl rfl rfl rfl rfl rfl rfl rfl (by omega) (by simp only; omega) ?_
              refine KW.ldI 1 (c) rfl rfl rfl rfl rfl rfl rfl rfl (by omega) (by omega) ?_
              refine KW.app1 (xs := (outF F j').map (Value.int .i64)) (v := .int .i64 (F.getD c 0)) 2 3 rfl rfl rfl rfl rfl rfl rfl rfl rfl rfl rfl rfl rfl rfl rfl rfl rfl rfl rfl rfl rfl rfl rfl (by simp [hol]) (by show (j' + 1) * 8 ≤ _; omega) (by show j' + 1 ≤ _; omega) ?_
              refine KW.nxt rfl rfl (fun H' g => ⟨(c + 1, j' + 1, _), ⟨⟨by simp only; omega, by simp only; omega, by simp only [Nat.pow_succ]; omega, .inr (by simp only [Nat.add_sub_cancel]; omega)⟩, by simp only; omega, fun c' e1 e2 e3 => by rcases Nat.lt_or_ge c' c with h | h; exact hz c' h e2 e3; exact absurd k5 (by rw [show c = c' by simp only at e1; omega]; exact e3)⟩, by first | omega | (simp only; omega), ⟨rfl, rfl, rfl, congrArg (Value.int .i64) (inc64 (by omega)), trivial⟩, g.idT (by rw [outF_next, List.map_append, ← hcj]; rfl)⟩)
            · have k5 : ¬ (ones c : Int) = 1 := k5
              have k5 : ones c ≠ 1 := by omega
              refine KW.idx0 rfl rfl rfl rfl rfl rfl rfl rfl rfl (by omega) (by simp only; omega) ?_
              refine KW.ldI 1 (c) rfl rfl rfl rfl rfl rfl rfl rfl (by omega) (by omega) ?_
              refine KW.cndB rfl rfl (fun k7 => ?_) (fun k7 => ?_)
              · have k7 : F.getD c 0 ≠ 0 := by simpa using k7
                refine KW.lit rfl rfl rfl rfl rfl rfl rfl rfl rfl rfl [] rfl rfl (fun v hv => by simp at hv) rfl ?_
                have e2 : r2_TermBound ((q : Int), gs) y = 8 := by unfold r2_TermBound; rw [if_pos hc, tv_true ⟨k1', hall⟩, efx, tv_true (p := BadF F) ⟨c, by omega, by omega, k5, k7⟩]; rfl
                have e3 := tb_err (x := ((q : Int), gs)) (y := y) (by rw [e2]; decide)
                rw [e2, e3.1, e3.2]
                refine KW.retM1 rfl rfl rfl rfl (fun H1 g => ?_)
                exact MkTB.nil' rfl
              · have k7 : F.getD c 0 = 0 := by simpa using k7
                have hne : c ≠ 2 ^ j := fun e => k5 ((ones_pow c hc64).2 ⟨j, by rcases Nat.lt_or_ge j 6 with h | h; exact h; have := Nat.pow_le_pow_right (n := 2) (by decide) h; omega, e⟩)
                refine KW.nxt rfl rfl (fun H' g => ⟨(c + 1, j, o), ⟨⟨by simp only; omega, by simp only; omega, by simp only; omega, h4.imp id (fun h => by simp only; omega)⟩, ho, fun c' e1 e2 e3 => by rcases Nat.lt_or_ge c' c with h | h; exact hz c' h e2 e3; rw [show c' = c by simp only at e1; omega]; exact k7⟩, by first | omega | (simp only; omega), ⟨rfl, rfl, rfl, congrArg (Value.int .i64) (inc64 (by omega)), trivial⟩, g⟩)
          · have k4 : ¬ (c : Int) < ((tabO gs (2 ^ q)).length : Int) := k4
            obtain rfl : c = 2 ^ q := by omega
            have hjq : j = q := by
              have h5 : q ≤ j := by
                rcases Nat.lt_or_ge j q with h | h
                · have := Nat.pow_lt_pow_right (a := 2) (by decide) h; omega
                · exact h
              rcases h4 with h4 | h4
              · omega
              · rcases Nat.lt_or_ge q j with h | h
                · have := Nat.pow_le_pow_right (n := 2) (by decide) (show q ≤ j - 1 by omega); omega
                · omega
            subst hjq
            have e2 : r2_TermBound ((j : Int), gs) y = 0 := by
              unfold r2_TermBound
              rw [if_pos hc, tv_true ⟨k1', hall⟩, efx, tv_false (p := BadF F) (fun ⟨c', h1, h2, h3, h4⟩ => h4 (hz c' (by omega) h2 h3))]; rfl
            have e0 : r0_TermBound ((j : Int), gs) y = outF F j := by unfold r0_TermBound; rw [if_pos e2, efx]; rfl
            have e1 : r1_TermBound ((j : Int), gs) y = uniT gs 0 y := by unfold r1_TermBound; rw [if_pos e2]
            rw [e2, e1, e0]
            refine KW.retM1 rfl rfl rfl rfl (fun H1 g => ?_)
            refine ⟨some ⟨o, 0, some 1⟩, j, by rw [hol]; rfl, ml1' (int_ml ⟨(by omega : H.n ≤ o), (g.blk (j := 2) rfl).2⟩ (g.blk (j := 2) rfl).1 rfl rfl (by omega))⟩
      · rw [tv_false hall]
        refine KW.cT rfl rfl (by first | (simp; done) | decide) ?_
        refine KW.lit rfl rfl rfl rfl rfl rfl rfl rfl rfl rfl [] rfl rfl (fun v hv => by simp at hv) rfl ?_
        have e2 := bad hall
        have e3 := tb_err (x := ((q : Int), gs)) (y := y) (by rw [e2]; decide)
        rw [e2, e3.1, e3.2]
        refine KW.retM1 rfl rfl rfl rfl (fun H1 g => ?_)
        exact MkTB.nil' rfl
  · refine KW.cT rfl rfl (by simpa using hc) ?_
    refine KW.lit rfl rfl rfl rfl rfl rfl rfl rfl rfl rfl [] rfl rfl (fun v hv => by simp at hv) rfl ?_
    have e2 : r2_TermBound (m, gs) y = codeF m gs := by unfold r2_TermBound; rw [if_neg hc]
    have e3 := tb_err (x := (m, gs)) (y := y) (by rw [e2]; exact hc)
    rw [e2, e3.1, e3.2]
    refine KW.retM1 rfl rfl rfl rfl (fun H1 g => ?_)
    exact MkTB.nil' rfl
end
end Go.Proofs.Ytijmkfnmdhpakaa.Am
/- The law FnExactTermBound returns true. No condition beyond the reading of the arguments. -/
set_option linter.unusedVariables false
set_option maxRecDepth 20000
set_option maxHeartbeats 4000000
namespace Go.Proofs.Ytijmkfnmdhpakaa.Am
open Go Go.RowKit Go.Proofs
section
variable {S : Ids} {H0 : AH}
theorem lawTermBound {ar0 : T_Family} {ar1 : T_TermS} {cs0 : List Value} {p1 : Option Addr} {q1 : Nat} (hW0 : W_Family ar0) (h0 : K_Family.R S H0 ar0 cs0) (hW1 : W_TermS ar1) (h1 : K_TermS.R S H0 ar1 [.slice p1 ar1.length q1]) : Spec Try.prog S H0 3 [.agg cs0.toArray, .slice p1 ar1.length q1] (fun v => v = .bool true) := by
  obtain ⟨p0_0, q0_0, rfl⟩ := form_Family h0
  refine Spec.of1 Try.func3 rfl (by kernel_rfl) rfl (fun H _ => ?_)
  have A0 : Fk K_Family (Low H.n) (Low H.n) H ar0 _ := ⟨On.R h0, fun _ p => p⟩
  have A1 : Fk K_TermS (Low H.n) (Low H.n) H ar1 _ := ⟨On.R h1, fun _ p => p⟩
  refine KW.call rfl rfl rfl rfl rfl (sz_Family' (left := 1048576) (by decide) (by decide) hW0 A0.all) (fun v n0 _ hv => ?_)
  obtain ⟨r0, rfl, k0⟩ := hv
  refine KW.cnd rfl rfl (fun h => KW.ret rfl rfl rfl rfl rfl) (fun h => ?_)
  have k0 := k0.resolve_left (by omega)
  have hB0 := k0.2.2
  refine KW.call rfl rfl rfl rfl rfl (sz_TermS'  k0.1 (by have := k0.2.1; omega) hW1 A1.all) (fun v n1 _ hv => ?_)
  obtain ⟨r1, rfl, k1⟩ := hv
  refine KW.cnd rfl rfl (fun h => KW.ret rfl rfl rfl rfl rfl) (fun h => ?_)
  have k1 := k1.resolve_left (by omega)
  have hB1 := k1.2.2
  obtain ⟨q0r, eq0r⟩ : ∃ q, r0_TermBound ar0 ar1 = q := ⟨_, rfl⟩
  obtain ⟨q1r, eq1r⟩ : ∃ q, r1_TermBound ar0 ar1 = q := ⟨_, rfl⟩
  obtain ⟨q2r, eq2r⟩ : ∃ q, r2_TermBound ar0 ar1 = q := ⟨_, rfl⟩
  have cspec : ∀ {S1 : Ids} {H1 : AH} {ca0 : List Value} {pa1 : Option Addr} {qa1 : Nat} (_ : K_Family.R S1 H1 ar0 ca0) (_ : K_TermS.R S1 H1 ar1 [.slice pa1 ar1.length qa1]), SpecM Try.prog S1 H1 13 [.agg ca0.toArray, .slice pa1 ar1.length qa1] (fun n v H2 => ∃ a c, v = .tuple #[.slice a q0r.length c, .int .i64 q1r, .int .i64 q2r] ∧ M_Int64S.R (New n H2.n) H2 q0r [.slice a q0r.length c]) := by
    subst eq0r; subst eq1r; subst eq2r
    intros
    exact spec_TermBound hB0 hB1 (by assumption) (by assumption)
  have cimpl : ∀ {S1 : Ids} {H1 : AH} {ca0 : List Value} {pa1 : Option Addr} {qa1 : Nat} (_ : K_Family.R S1 H1 ar0 ca0) (_ : K_TermS.R S1 H1 ar1 [.slice pa1 ar1.length qa1]), SpecM Try.prog S1 H1 16 [.agg ca0.toArray, .slice pa1 ar1.length qa1] (fun n v H2 => ∃ a c, v = .tuple #[.slice a q0r.length c, .int .i64 q1r, .int .i64 q2r] ∧ M_Int64S.R (New n H2.n) H2 q0r [.slice a q0r.length c]) := by
    subst eq0r; subst eq1r; subst eq2r
    intros
    exact impl_TermBound hB0 hB1 (by assumption) (by assumption)
  have hBr : B_Int64S q0r := by subst eq0r; exact bound_TermBound hB0 hB1
  refine KW.callN1 rfl rfl rfl rfl rfl (to_Family hB0 A0.all) (fun v Hb0 Sb0 mb0 _ _ hv => ?_)
  obtain ⟨wb0, rfl, b0⟩ := hv
  obtain ⟨b0_0, b0c_0, rfl⟩ := formM_Family b0
  refine KW.callN1 rfl rfl rfl rfl rfl (to_TermS hB1 A1.all) (fun v Hb1 Sb1 mb1 _ _ hv => ?_)
  obtain ⟨b1_0, b1c_0, rfl, b1⟩ := hv
  refine KW.callN1 rfl rfl rfl rfl rfl (cspec ((le_Family).2 _ _ _ _ (On.R b0)) ((le_TermS).2 _ _ _ _ (On.R b1))) (fun v Hw Sw mw _ _ hv => ?_)
  obtain ⟨w_0, wc_0, rfl, w⟩ := hv
  refine KW.callN1 rfl rfl rfl rfl rfl (to_Family hB0 A0.all) (fun v Hx0 Sx0 mx0 _ _ hv => ?_)
  obtain ⟨wx0, rfl, x0⟩ := hv
  obtain ⟨x0_0, x0c_0, rfl⟩ := formM_Family x0
  refine KW.callN1 rfl rfl rfl rfl rfl (to_TermS hB1 A1.all) (fun v Hx1 Sx1 mx1 _ _ hv => ?_)
  obtain ⟨x1_0, x1c_0, rfl, x1⟩ := hv
  refine KW.callN1 rfl rfl rfl rfl rfl (cimpl ((le_Family).2 _ _ _ _ (On.R x0)) ((le_TermS).2 _ _ _ _ (On.R x1))) (fun v Hg Sg mg _ _ hv => ?_)
  obtain ⟨g_0, gc_0, rfl, g⟩ := hv
  refine KW.callE rfl rfl rfl rfl rfl (eq_Int64S hBr ((le_Int64S).2 _ _ _ _ (On.R g)) ((le_Int64S).2 _ _ _ _ (On.R w))) (fun _ _ => ?_)
  refine KW.tF rfl rfl (by first | (simp; done) | decide) ?_
  refine KW.tF rfl rfl (by first | (simp; done) | decide) ?_
  refine KW.cF rfl rfl (by first | (simp; done) | decide) ?_
  refine KW.callN1 rfl rfl rfl rfl rfl (to_Family hB0 A0.all) (fun v Hy0 Sy0 my0 _ _ hv => ?_)
  obtain ⟨wy0, rfl, y0⟩ := hv
  obtain ⟨y0_0, y0c_0, rfl⟩ := formM_Family y0
  refine KW.callE rfl rfl rfl rfl rfl (eq_Family hB0 ((le_Family).2 _ _ _ _ (On.R x0)) ((le_Family).2 _ _ _ _ (On.R y0))) (fun _ _ => ?_)
  refine KW.cF rfl rfl (by first | (simp; done) | decide) ?_
  refine KW.callN1 rfl rfl rfl rfl rfl (to_TermS hB1 A1.all) (fun v Hy1 Sy1 my1 _ _ hv => ?_)
  obtain ⟨y1_0, y1c_0, rfl, y1⟩ := hv
  refine KW.callE rfl rfl rfl rfl rfl (eq_TermS hB1 ((le_TermS).2 _ _ _ _ (On.R x1)) ((le_TermS).2 _ _ _ _ (On.R y1))) (fun _ _ => ?_)
  refine KW.cF rfl rfl (by first | (simp; done) | decide) ?_
  have A0 : Fk _ _ Sy1 Hy1 _ _ := A0.up
  have A1 : Fk _ _ Sy1 Hy1 _ _ := A1.up
  have X0 : Fk _ _ Sy1 Hy1 _ _ := Fk.on x0
  have X1 : Fk _ _ Sy1 Hy1 _ _ := Fk.on x1
  have W : Fk _ _ Sy1 Hy1 _ _ := Fk.on w
  have G : Fk _ _ Sy1 Hy1 _ _ := Fk.on g
  have T : St (Low H.n) H Sy1 Hy1 := (inferInstance : On (Low H.n) H Sy1 Hy1).st
  refine KW.callW X0.i rfl rfl rfl rfl rfl (mark_Family hB0 (k := 1) (by have := size_Family hB0;  constructor <;> omega) X0.i X0.r) (fun v Hk0 Sk0 mk0 tk0 _ hv => ?_)
  obtain ⟨rfl, _⟩ := hv
  have A0 := A0.w tk0 (fun id p q => by have : id < H.n := p; have := q.1; have := q.2; omega)
  have A1 := A1.w tk0 (fun id p q => by have : id < H.n := p; have := q.1; have := q.2; omega)
  have X1 := X1.w tk0 (fun id p q => by have := p.1; have := p.2; have := q.1; have := q.2; omega)
  have W := W.w tk0 (fun id p q => by have := p.1; have := p.2; have := q.1; have := q.2; omega)
  have G := G.w tk0 (fun id p q => by have := p.1; have := p.2; have := q.1; have := q.2; omega)
  have T := tk0.low T (fun id p q => by have := q.1; omega)
  refine KW.callW X1.i rfl rfl rfl rfl rfl (mark_TermS hB1 (k := 1 + (sz_Family ar0 : Nat)) (by have := size_TermS hB1; have := size_Family hB0; constructor <;> omega) X1.i X1.r) (fun v Hk1 Sk1 mk1 tk1 _ hv => ?_)
  obtain ⟨rfl, _⟩ := hv
  have A0 := A0.w tk1 (fun id p q => by have : id < H.n := p; have := q.1; have := q.2; omega)
  have A1 := A1.w tk1 (fun id p q => by have : id < H.n := p; have := q.1; have := q.2; omega)
  have W := W.w tk1 (fun id p q => by have := p.1; have := p.2; have := q.1; have := q.2; omega)
  have G := G.w tk1 (fun id p q => by have := p.1; have := p.2; have := q.1; have := q.2; omega)
  have T := tk1.low T (fun id p q => by have := q.1; omega)
  refine KW.tno rfl rfl (by omega) ?_
  refine KW.callE rfl rfl rfl rfl rfl (eq_Int64S hBr ((le_Int64S).2 _ _ _ _ G.all) ((le_Int64S).2 _ _ _ _ W.all)) (fun _ _ => ?_)
  refine KW.tF rfl rfl (by first | (simp; done) | decide) ?_
  refine KW.tF rfl rfl (by first | (simp; done) | decide) ?_
  refine KW.cF rfl rfl (by first | (simp; done) | decide) ?_
  refine KW.callW G.i rfl rfl rfl rfl rfl (mark_Int64S hBr (k := 1) (by have := size_Int64S hBr; constructor <;> omega) G.i G.r) (fun v HM SM mM tM _ hv => ?_)
  obtain ⟨rfl, G1⟩ := hv
  have A0 := A0.w tM (fun id p q => by have : id < H.n := p; have := q.1; have := q.2; omega)
  have A1 := A1.w tM (fun id p q => by have : id < H.n := p; have := q.1; have := q.2; omega)
  have W := W.w tM (fun id p q => by have := p.1; have := p.2; have := q.1; have := q.2; omega)
  have T := tM.low T (fun id p q => by have := q.1; omega)
  have G1 : Fk _ _ SM HM _ _ := ⟨G1, fun id p => (tM id (G.i id p)).1⟩
  refine KW.callE rfl rfl rfl rfl rfl (held_Int64S' hBr (k := 1) (by have := size_Int64S hBr; constructor <;> omega) ((le_Int64S).2 _ _ _ _ G1.all)) (fun _ _ => ?_)
  refine KW.no rfl rfl (by omega) ?_
  refine KW.cF rfl rfl (by first | (simp; done) | decide) ?_
  refine KW.callN1 rfl rfl rfl rfl rfl (to_Family hB0 A0.all) (fun v Hu0 Su0 mu0 _ _ hv => ?_)
  obtain ⟨wu0, rfl, u0⟩ := hv
  obtain ⟨u0_0, u0c_0, rfl⟩ := formM_Family u0
  refine KW.callN1 rfl rfl rfl rfl rfl (to_TermS hB1 A1.all) (fun v Hu1 Su1 mu1 _ _ hv => ?_)
  obtain ⟨u1_0, u1c_0, rfl, u1⟩ := hv
  refine KW.callN1 rfl rfl rfl rfl rfl (cimpl ((le_Family).2 _ _ _ _ (On.R u0)) ((le_TermS).2 _ _ _ _ (On.R u1))) (fun v Hh Sh mh _ _ hv => ?_)
  obtain ⟨h_0, hc_0, rfl, h⟩ := hv
  refine KW.callE rfl rfl rfl rfl rfl (eq_Int64S hBr ((le_Int64S).2 _ _ _ _ (On.R h)) ((le_Int64S).2 _ _ _ _ W.all)) (fun _ _ => ?_)
  refine KW.tF rfl rfl (by first | (simp; done) | decide) ?_
  refine KW.tF rfl rfl (by first | (simp; done) | decide) ?_
  refine KW.cF rfl rfl (by first | (simp; done) | decide) ?_
  refine KW.callE rfl rfl rfl rfl rfl (held_Int64S' hBr (k := 1) (by have := size_Int64S hBr; constructor <;> omega) ((le_Int64S).2 _ _ _ _ G1.all)) (fun _ _ => ?_)
  refine KW.no rfl rfl (by omega) ?_
  refine KW.cF rfl rfl (by first | (simp; done) | decide) ?_
  exact KW.retM rfl rfl rfl rfl (fun id hid => (T.trans (inferInstance : On SM HM _ _).st) id hid) (fun H1 g => rfl)
end
end Go.Proofs.Ytijmkfnmdhpakaa.Am
/- A row's closed facts, each by itself. No condition beyond them. -/
namespace Go.Proofs.Ytijmkfnmdhpakaa.Am
open Go
theorem joined_of {P : Program} {f : FuncId} {fn : Func} {s : ChangeSpec} {c : OpenClaim}
    (h0 : (c.wf (OpenSpec.ofChange s)) = true)
    (h1 : (laidOutB P) = true)
    (h2 : (mapsRowed P) = true)
    (h3 : (fn.params.all (P.readableRec ·)) = true)
    (h4 : (namedTie P c.named s.vars) = true)
    (h5 : ((c.stops == [])) = true)
    (h6 : ((P.stops == [])) = true)
    (h7 : ((c.knobs == [])) = true)
    (h8 : ((P.stopKnobs == [])) = true)
    (h9 : ((c.inPlace == P.inPlace f)) = true)
    (h10 : ((c.unfollowed == P.unfollowed f)) = true)
    (h11 : ((c.recurses == P.recurses f)) = true)
    (h12 : ((c.named == P.varsNamed f)) = true)
    (h13 : ((c.maps == (fn.params.toList ++ s.plain.varTypes P).any (P.mapsRec ·))) = true)
    (h14 : ((c.ifaces == (fn.params.toList ++ s.plain.varTypes P).any (P.ifacesRec ·))) = true)
    (h15 : ((c.mapsOut == P.mapsAmong fn.resultTypes.toList)) = true)
    (h16 : ((c.loops == (fn.params.toList ++ s.plain.varTypes P).any (P.loopsFrom ·))) = true)
    (h17 : ((c.wideKeys == (fn.params.toList ++ s.plain.varTypes P ++ fn.resultTypes.toList).any (P.wideKeysFrom ·))) = true)
    (h18 : (s.vars.all (P.varReadable ·)) = true)
    (h19 : (fn.resultTypes.all (fun t => P.readableRec t && decide (t < P.types.size))) = true)
    (h20 : ((c.ifacesOut == fn.resultTypes.toList.any (P.ifacesRec ·))) = true)
    (h21 : ((c.loopsOut == fn.resultTypes.toList.any (P.loopsFrom ·))) = true)
    (h22 : ((c.plainKeys == P.plainKeys)) = true)
    (h23 : (c.shortTexts.isNone) = true)
    (h24 : (P.stopsHeard) = true)
    (h25 : (P.mayEnter) = true)
    (h26 : ((c.lifted == P.liftsFinal)) = true)
    (h27 : ((P.make == some c.make)) = true)
    (h28 : ((c.kinds == (if c.domain.isEmpty then [] else fn.params.toList.map fun t => match P.underlying t with | some (.int k) => some k | _ => none))) = true)
    (h29 : ((c.pinned == c.pinnedBy)) = true)
    (h30 : ((c.veiled == (fn.params.toList ++ s.plain.varTypes P ++ fn.resultTypes.toList).any (P.veiledRec ·))) = true)
    (h31 : (c.veiledFits P fn.params.toList (fn.params.toList ++ s.plain.varTypes P ++ fn.resultTypes.toList)) = true)
    : joinedFacts P f fn s c = true := by
  unfold joinedFacts
  simp only [Bool.and_eq_true]
  exact ⟨⟨⟨⟨⟨⟨⟨⟨⟨⟨⟨⟨⟨⟨⟨⟨⟨⟨⟨⟨⟨⟨⟨⟨⟨⟨⟨⟨⟨⟨⟨h0, h1⟩, h2⟩, h3⟩, h4⟩, h5⟩, h6⟩, h7⟩, h8⟩, h9⟩, h10⟩, h11⟩, h12⟩, h13⟩, h14⟩, h15⟩, h16⟩, h17⟩, h18⟩, h19⟩, h20⟩, h21⟩, h22⟩, h23⟩, h24⟩, h25⟩, h26⟩, h27⟩, h28⟩, h29⟩, h30⟩, h31⟩
end Go.Proofs.Ytijmkfnmdhpakaa.Am
