/- Contracts and laws on abstract memory, merged. Each holds under its own conditions. -/
import Derived.Test.YtmkpfllbmdahkaaPKernel03
/- Contracts: primes and matrices drawn by the reference. Each holds under its own conditions. -/
set_option linter.unusedVariables false
set_option linter.unusedSimpArgs false
set_option maxRecDepth 20000
set_option maxHeartbeats 2000000
namespace Go.Proofs.Ytmkpfllbmdahkaa.Am
open Go Go.RowKit Go.Proofs Go.Proofs.Ytmkpfllbmdahkaa.Pl
section
variable {S : Ids} {H0 : AH}
theorem srcAmong {bs : List Int} (hb : ∀ x ∈ bs, 0 ≤ x ∧ x < 256) (hl : bs.length ≤ 1048576) {ac : Option Addr} {cc id at_ : Nat} {Y : Ids} {ls : List Int} {a c} (hn : ls.length ≤ 1000) (hn1 : 1 ≤ ls.length) (hat : at_ ≤ 800000) (hS : S id) (hY : ∀ i, Y i → S i ∧ i ≠ id) (hsrc : Src ac bs.length cc H0 id at_) (hs : KB.Sl Y H0 (.slice ac bs.length cc) bs) (hls : KI.Sl Y H0 (.slice a ls.length c) ls) :
    SpecW Try.prog S H0 (fun i => i = id) 212 [.pointer (some ⟨id, 0, none⟩), .slice a ls.length c] (fun _ v H1 => ∃ (y : Int) (at' : Nat), y ∈ ls ∧ at_ ≤ at' ∧ at' ≤ at_ + 2 ∧ v = .int .i64 y ∧ Src ac bs.length cc H1 id at') := by
  refine SpecW.of0 Try.func212 rfl (by kernel_rfl) rfl (fun H hfin hfz => ?_)
  have fx : ∀ i, S i → Low H.n i ∧ H.m i = H0.m i := fun i hi => hfz i hi
  have hid : id < H.n := (fx id hS).1
  have t0 : ∀ i, Y i → (Low H.n i ∧ i ≠ id) ∧ H.m i = H0.m i := fun i hi => ⟨⟨(fx i (hY i hi).1).1, (hY i hi).2⟩, (fx i (hY i hi).1).2⟩
  have hsH := hs.stX t0
  have hlH := hls.stX t0
  have E0 : DwE H id (Low H.n) H := ⟨hid, fun i hi => ⟨hi.1, rfl⟩⟩
  refine KW.callW (W := fun i => i = id) (fun i hi => by subst hi; exact E0.sid) rfl rfl rfl rfl rfl (srcPick (S := Low H.n) (H0 := H) hb hl (n := (ls.length : Int)) (by omega) (by omega) E0.sid (fun i hi => hi) (hsrc.mv (fx id hS).2) (E0.kb hsH)) (fun v H1 S1 hn1 st1 hw1 hp => ?_)
  obtain ⟨z1, a1, hz1, l1, u1, rfl, src1⟩ := hp
  have hz1 := hz1 (by omega)
  have E1 := E0.w st1
  refine KW.getI ((hlH.stX (S' := S1) (H' := H1) (fun i hi => E1.old i hi))) rfl rfl rfl rfl rfl rfl rfl rfl rfl rfl rfl rfl rfl rfl rfl rfl (by omega) (hz1) (fun y hy => ?_)
  refine KW.retW rfl rfl rfl rfl (fun H9 g => by have := g.n_; omega) (fun i hi hw => E1.old i ⟨hi, hw⟩) (fun H9 g => ⟨y, a1, List.mem_of_getElem? hy, l1, u1, rfl, src1.mv (g.froz id E1.sid).2⟩)
def prL : List Int := [2, 2, 3, 3, 5, 5, 7, 7, 11, 13, 17, 31]
theorem srcPrime {bs : List Int} (hb : ∀ x ∈ bs, 0 ≤ x ∧ x < 256) (hl : bs.length ≤ 1048576) {ac : Option Addr} {cc id at_ : Nat} {Y : Ids} (hat : at_ ≤ 800000) (hS : S id) (hY : ∀ i, Y i → S i ∧ i ≠ id) (hsrc : Src ac bs.length cc H0 id at_) (hs : KB.Sl Y H0 (.slice ac bs.length cc) bs) :
    SpecW Try.prog S H0 (fun i => i = id) 203 [.pointer (some ⟨id, 0, none⟩)] (fun _ v H1 => ∃ (y : Int) (at' : Nat), y ∈ prL ∧ at_ ≤ at' ∧ at' ≤ at_ + 2 ∧ v = .int .i64 y ∧ Src ac bs.length cc H1 id at') := by
  refine SpecW.of0 Try.func203 rfl (by kernel_rfl) rfl (fun H hfin hfz => ?_)
  have fx : ∀ i, S i → Low H.n i ∧ H.m i = H0.m i := fun i hi => hfz i hi
  have hid : id < H.n := (fx id hS).1
  have hsH := hs.stX (S' := fun i => Low H.n i ∧ i ≠ id) (H' := H) (fun i hi => ⟨⟨(fx i (hY i hi).1).1, (hY i hi).2⟩, (fx i (hY i hi).1).2⟩)
  have E0 : DwE H id (Low H.n) H := ⟨hid, fun i hi => ⟨hi.1, rfl⟩⟩
  refine KW.lit rfl rfl rfl rfl rfl rfl rfl rfl rfl rfl (prL.map (Value.int .i64)) rfl rfl (fun v hv => by obtain ⟨x, _, rfl⟩ := List.mem_map.1 hv; rfl) rfl ?_
  refine KW.freeze 0 rfl (fun A6 S6 hn6 hS6 st6 hm6 ho6 hnS6 hlow6 => ?_)
  have E1 := E0.s st6.st
  have hlit : KI.Sl (fun i => S6 i ∧ i ≠ id) A6 (.slice (some ⟨H.n, 0, some 1⟩) prL.length prL.length) prL := (row_ml hm6).sl.stX (fun i hi => ⟨⟨(hS6 i).2 (.inr hi), fun e => by have hi : i = H.n := hi; omega⟩, rfl⟩)
  refine KW.callW (W := fun i => i = id) (fun i hi => by subst hi; exact E1.sid) rfl rfl rfl rfl rfl (srcAmong (S := S6) (H0 := A6) hb hl (by decide) (by decide) hat E1.sid (fun i hi => hi) ((hsrc.mv (fx id hS).2).mv (st6.st id hid).2) (E1.kb hsH) hlit) (fun v H1 S1 hn1 st1 hw1 hp => ?_)
  obtain ⟨y, a1, hy, l1, u1, rfl, src1⟩ := hp
  have E2 := E1.w st1
  refine KW.retW rfl rfl rfl rfl (fun H9 g => by have := g.n_; omega) (fun i hi hw => E2.old i ⟨hi, hw⟩) (fun H9 g => ⟨y, a1, hy, l1, u1, rfl, src1.mv (g.froz id E2.sid).2⟩)
end
end Go.Proofs.Ytmkpfllbmdahkaa.Am
/- Contracts: a row times an element, a row taken off another one, powers and inverses. Each holds under its own conditions. -/
set_option linter.unusedVariables false
set_option linter.unusedSimpArgs false
set_option maxRecDepth 20000
namespace Go.Proofs.Ytmkpfllbmdahkaa.Am
open Go Go.RowKit Go.Proofs Go.Proofs.Ytmkpfllbmdahkaa.Pl
/-- The cells of a list that is written from left to right: the first i of them are done. -/
structure Wr (xs ys : List Int) (n i : Nat) (cs : List Value) : Prop where
  len : cs.length = n
  done : ∀ (j : Nat) y, j < i → ys[j]? = some y → cs[j]? = some (.int .i64 y)
  rest : ∀ (j : Nat) x, i ≤ j → xs[j]? = some x → cs[j]? = some (.int .i64 x)
theorem Wr.next {xs ys : List Int} {n i : Nat} {cs : List Value} {v : Value} {y : Int} (h : Wr xs ys n i cs) (hi : i < n) (hy : ys[i]? = some y) (hv : v = .int .i64 y) : Wr xs ys n (i + 1) (cs.set (0 + i * 1) v) := by
  have hl := h.len
  rw [Nat.zero_add, Nat.mul_one]
  refine ⟨by simp [hl], fun j z hj hz => ?_, fun j x hj hx => ?_⟩
  · by_cases e : i = j
    · subst e
      rw [hy] at hz
      cases hz
      rw [List.getElem?_set_self (by omega), hv]
    · rw [List.getElem?_set_ne e]
      exact h.done j z (by omega) hz
  · rw [List.getElem?_set_ne (by omega)]
    exact h.rest j x (by omega) hx
theorem mul_in {x y : Int} (hx : 0 ≤ x ∧ x ≤ 31) (hy : 0 ≤ y ∧ y ≤ 31) : 0 ≤ x * y ∧ x * y ≤ 961 :=
  ⟨Int.mul_nonneg hx.1 hy.1, Int.le_trans (Int.mul_le_mul_of_nonneg_right hx.2 hy.1) (by omega)⟩
theorem tk_length {p t : Int} {xs ys : List Int} (h : xs.length = ys.length) : (tk p t xs ys).length = xs.length := by simp [tk, h]
theorem tk_at {p t : Int} {xs ys : List Int} {i : Nat} {x y : Int} (hx : xs[i]? = some x) (hy : ys[i]? = some y) : (tk p t xs ys)[i]? = some ((x + (p - t) * y) % p) := by
  simp [tk, List.getElem?_zipWith, hx, hy]
section
variable {S : Ids} {H0 : AH}
theorem scaled {W : Ids} {p b : Int} (hp : 2 ≤ p ∧ p ≤ 31) (hb : 0 ≤ b ∧ b < p) {a c} {xs : List Int} (hl : xs.length ≤ 4194304) (hx : ∀ x ∈ xs, 0 ≤ x ∧ x < p) (hW : ∀ id, W id → S id) (hs : KI.Ml W H0 (.slice a xs.length c) xs) :
    SpecW Try.prog S H0 W 138 [.int .i64 p, .slice a xs.length c, .int .i64 b] (fun n v H1 => KI.Ml W H1 (.slice a xs.length c) (sc p b xs)) := by
  rcases hs with ⟨rfl, a0, c0, he, ha⟩ | ⟨o, c1, bb, Ws, he, h2, h3, h4, h5, h6, h7, h8, h9⟩
  · refine SpecM.w ?_
    refine SpecM.of Try.func138 rfl (by kernel_rfl) rfl (fun H hfin hfz => ?_)
    refine KW.lp rfl rfl (fun _ : Unit => [(0, .int .i64 p), (1, .slice a 0 c), (2, .int .i64 b), (8, .int .i64 0), (9, .int .i64 0)]) (fun _ => True) (fun _ => 0) (()) (trivial) ⟨rfl, rfl, rfl, rfl, rfl, trivial⟩ (fun _ hi bE n => ?_)
    refine KW.cF rfl rfl (by first | (simp; done) | decide) ?_
    exact KW.endM rfl rfl rfl rfl (fun id hid => ⟨hid, rfl⟩) (fun H1 g => .inl ⟨rfl, a, c, rfl, by cases he; exact ha⟩)
  · cases he
    obtain ⟨ty, rw, cells⟩ := bb
    obtain rfl : rw = true := h5
    have h6 : xs.length * 1 ≤ cells.length := h6
    have hget : ∀ (i : Nat) x, xs[i]? = some x → cells[i]? = some (.int .i64 x) := fun i x hx => by
      have h := cell_of (m := 0 + i * 1) (h9 i x hx)
      rw [Nat.zero_add, Nat.mul_one] at h
      exact h
    refine SpecW.of Try.func138 rfl (by kernel_rfl) rfl (hW o h3) h4 (fun H hfin hfz => ?_)
    refine KW.lpM rfl rfl (fun s : (Nat × List Value) => [(0, .int .i64 p), (1, .slice (some ⟨o, 0, some 1⟩) xs.length c), (2, .int .i64 b), (8, .int .i64 xs.length), (9, .int .i64 s.1)]) (fun s => fun i => Low H.n i ∧ i ≠ o) (fun s => H) (fun s => [(o, ⟨_, true, s.2⟩)]) (fun s => s.1 ≤ xs.length ∧ Wr xs (sc p b xs) cells.length s.1 s.2) (fun s => xs.length - s.1) ((0, cells)) (⟨by omega, rfl, fun j y hj => absurd hj (Nat.not_lt_zero _), fun j x _ h => hget j x h⟩) ⟨rfl, rfl, rfl, rfl, rfl, trivial⟩ rfl rfl rfl (fun s hi bE n => ?_)
    obtain ⟨i, cs⟩ := s
    obtain ⟨hi0, hi1⟩ := hi
    simp only at hi0 hi1
    have hcl := hi1.len
    refine KW.cnd rfl rfl (fun h => ?_) (fun h => ?_)
    · have h : (i : Int) < xs.length := h
      obtain ⟨x, hx1⟩ : ∃ x, xs[i]? = some x := ⟨xs[i]'(by omega), List.getElem?_eq_getElem (by omega)⟩
      have hxb := hx x (List.mem_of_getElem? hx1)
      have hm := mul_in (x := x) (y := b) (by omega) (by omega)
      refine KW.idx0 rfl rfl rfl rfl rfl rfl rfl rfl rfl (by omega) (h) ?_
      refine KW.ldT 0 rfl rfl rfl rfl rfl rfl (bload_at (by rw [Nat.zero_add, Nat.mul_one]; exact hi1.rest i x (Nat.le_refl _) hx1) rfl rfl) ?_
      refine KW.rem rfl rfl rfl rfl rfl rfl (by rw [wr (by omega) (by omega)]; exact hm.1) (by omega) ?_
      refine KW.idx0 rfl rfl rfl rfl rfl rfl rfl rfl rfl (by omega) (h) ?_
      refine KW.st1 0 rfl rfl rfl rfl rfl rfl rfl rfl rfl rfl rfl rfl (by simp only; omega) ?_
      refine KW.nxt rfl rfl (fun H' g => ⟨(i + 1, _), ⟨by simp only; omega, hi1.next (by omega) (y := x * b % p) (by simp [sc, hx1]) (congrArg (fun z => Value.int .i64 (z % p)) (wr (by omega) (by omega)))⟩, by first | omega | (simp only; omega), ⟨rfl, rfl, rfl, rfl, congrArg (Value.int .i64) (inc64 (by omega)), trivial⟩, g⟩)
    · obtain rfl : i = xs.length := by have h : ¬ (i : Int) < xs.length := h; omega
      refine KW.endW rfl rfl rfl rfl (fun H1 g => g.nle1 (j := 0) rfl) (fun id hid hw => ⟨⟨hid, fun e => hw (by subst e; exact h3)⟩, rfl⟩) (fun H1 g => ?_)
      have hb := g.blk (j := 0) rfl
      have el : (sc p b xs).length = xs.length := by simp [sc]
      rw [← el]
      exact mlI_of h3 hb.1 rfl (by rw [el]; exact h2) (by rw [el]; simp only; omega) (fun j y hy => hi1.done j y (by have := (List.getElem?_eq_some_iff.1 hy).1; omega) hy)
theorem l03Times {W : Ids} {p b : Int} (hp : 2 ≤ p ∧ p ≤ 31) (hb : 0 ≤ b ∧ b < p) {a c} {xs : List Int} (hl : xs.length ≤ 4194304) (hx : ∀ x ∈ xs, 0 ≤ x ∧ x < p) (hW : ∀ id, W id → S id) (hs : KI.Ml W H0 (.slice a xs.length c) xs) :
    SpecW Try.prog S H0 W 236 [.int .i64 p, .slice a xs.length c, .int .i64 b] (fun n v H1 => KI.Ml W H1 (.slice a xs.length c) (sc p b xs)) := by
  rcases hs with ⟨rfl, a0, c0, he, ha⟩ | ⟨o, c1, bb, Ws, he, h2, h3, h4, h5, h6, h7, h8, h9⟩
  · refine SpecM.w ?_
    refine SpecM.of Try.func236 rfl (by kernel_rfl) rfl (fun H hfin hfz => ?_)
    refine KW.lp rfl rfl (fun _ : Unit => [(0, .int .i64 p), (1, .slice a 0 c), (2, .int .i64 b), (6, .int .i64 0)]) (fun _ => True) (fun _ => 0) (()) (trivial) ⟨rfl, rfl, rfl, rfl, trivial⟩ (fun _ hi bE n => ?_)
    refine KW.cF rfl rfl (by first | (simp; done) | decide) ?_
    exact KW.endM rfl rfl rfl rfl (fun id hid => ⟨hid, rfl⟩) (fun H1 g => .inl ⟨rfl, a, c, rfl, by cases he; exact ha⟩)
  · cases he
    obtain ⟨ty, rw, cells⟩ := bb
    obtain rfl : rw = true := h5
    have h6 : xs.length * 1 ≤ cells.length := h6
    have hget : ∀ (i : Nat) x, xs[i]? = some x → cells[i]? = some (.int .i64 x) := fun i x hx => by
      have h := cell_of (m := 0 + i * 1) (h9 i x hx)
      rw [Nat.zero_add, Nat.mul_one] at h
      exact h
    refine SpecW.of Try.func236 rfl (by kernel_rfl) rfl (hW o h3) h4 (fun H hfin hfz => ?_)
    refine KW.lpM rfl rfl (fun s : (Nat × List Value) => [(0, .int .i64 p), (1, .slice (some ⟨o, 0, some 1⟩) xs.length c), (2, .int .i64 b), (6, .int .i64 s.1)]) (fun s => fun i => Low H.n i ∧ i ≠ o) (fun s => H) (fun s => [(o, ⟨_, true, s.2⟩)]) (fun s => s.1 ≤ xs.length ∧ Wr xs (sc p b xs) cells.length s.1 s.2) (fun s => xs.length - s.1) ((0, cells)) (⟨by omega, rfl, fun j y hj => absurd hj (Nat.not_lt_zero _), fun j x _ h => hget j x h⟩) ⟨rfl, rfl, rfl, rfl, trivial⟩ rfl rfl rfl (fun s hi bE n => ?_)
    obtain ⟨i, cs⟩ := s
    obtain ⟨hi0, hi1⟩ := hi
    simp only at hi0 hi1
    have hcl := hi1.len
    refine KW.cnd rfl rfl (fun h => ?_) (fun h => ?_)
    · have h : (i : Int) < xs.length := h
      obtain ⟨x, hx1⟩ : ∃ x, xs[i]? = some x := ⟨xs[i]'(by omega), List.getElem?_eq_getElem (by omega)⟩
      have hxb := hx x (List.mem_of_getElem? hx1)
      have hm := mul_in (x := x) (y := b) (by omega) (by omega)
      refine KW.idx0 rfl rfl rfl rfl rfl rfl rfl rfl rfl (by omega) (h) ?_
      refine KW.ldT 0 rfl rfl rfl rfl rfl rfl (bload_at (by rw [Nat.zero_add, Nat.mul_one]; exact hi1.rest i x (Nat.le_refl _) hx1) rfl rfl) ?_
      refine KW.rem rfl rfl rfl rfl rfl rfl (by rw [wr (by omega) (by omega)]; exact hm.1) (by omega) ?_
      refine KW.idx0 rfl rfl rfl rfl rfl rfl rfl rfl rfl (by omega) (h) ?_
      refine KW.st1 0 rfl rfl rfl rfl rfl rfl rfl rfl rfl rfl rfl rfl (by simp only; omega) ?_
      refine KW.nxt rfl rfl (fun H' g => ⟨(i + 1, _), ⟨by simp only; omega, hi1.next (by omega) (y := x * b % p) (by simp [sc, hx1]) (congrArg (fun z => Value.int .i64 (z % p)) (wr (by omega) (by omega)))⟩, by first | omega | (simp only; omega), ⟨rfl, rfl, rfl, congrArg (Value.int .i64) (inc64 (by omega)), trivial⟩, g⟩)
    · obtain rfl : i = xs.length := by have h : ¬ (i : Int) < xs.length := h; omega
      refine KW.endW rfl rfl rfl rfl (fun H1 g => g.nle1 (j := 0) rfl) (fun id hid hw => ⟨⟨hid, fun e => hw (by subst e; exact h3)⟩, rfl⟩) (fun H1 g => ?_)
      have hb := g.blk (j := 0) rfl
      have el : (sc p b xs).length = xs.length := by simp [sc]
      rw [← el]
      exact mlI_of h3 hb.1 rfl (by rw [el]; exact h2) (by rw [el]; simp only; omega) (fun j y hy => hi1.done j y (by have := (List.getElem?_eq_some_iff.1 hy).1; omega) hy)
theorem takeOff {W X : Ids} {p t : Int} (hp : 2 ≤ p ∧ p ≤ 31) (ht : 0 ≤ t ∧ t < p) {a c a2 c2} {xs ys : List Int} (hxy : xs.length = ys.length) (hy : ∀ y ∈ ys, 0 ≤ y ∧ y < p) (hX : ∀ id, X id → S id ∧ ¬ W id) (hs2 : KI.Sl X H0 (.slice a2 ys.length c2) ys) (hl : xs.length ≤ 4194304) (hx : ∀ x ∈ xs, 0 ≤ x ∧ x < p) (hW : ∀ id, W id → S id) (hs : KI.Ml W H0 (.slice a xs.length c) xs) :
    SpecW Try.prog S H0 W 140 [.int .i64 p, .slice a xs.length c, .slice a2 ys.length c2, .int .i64 t] (fun n v H1 => KI.Ml W H1 (.slice a xs.length c) (tk p t xs ys)) := by
  rcases hs with ⟨rfl, a0, c0, he, ha⟩ | ⟨o, c1, bb, Ws, he, h2, h3, h4, h5, h6, h7, h8, h9⟩
  · obtain rfl : ys = [] := List.eq_nil_of_length_eq_zero hxy.symm
    refine SpecM.w ?_
    refine SpecM.of Try.func140 rfl (by kernel_rfl) rfl (fun H hfin hfz => ?_)
    refine KW.lp rfl rfl (fun _ : Unit => [(0, .int .i64 p), (1, .slice a 0 c), (2, .slice a2 0 c2), (3, .int .i64 t), (10, .slice a2 0 c2), (11, .int .i64 0), (12, .int .i64 0)]) (fun _ => True) (fun _ => 0) (()) (trivial) ⟨rfl, rfl, rfl, rfl, rfl, rfl, rfl, trivial⟩ (fun _ hi bE n => ?_)
    refine KW.cF rfl rfl (by first | (simp; done) | decide) ?_
    exact KW.endM rfl rfl rfl rfl (fun id hid => ⟨hid, rfl⟩) (fun H1 g => .inl ⟨rfl, a, c, rfl, by cases he; exact ha⟩)
  · cases he
    obtain ⟨ty, rw, cells⟩ := bb
    obtain rfl : rw = true := h5
    have h6 : xs.length * 1 ≤ cells.length := h6
    have hget : ∀ (i : Nat) x, xs[i]? = some x → cells[i]? = some (.int .i64 x) := fun i x hx => by
      have h := cell_of (m := 0 + i * 1) (h9 i x hx)
      rw [Nat.zero_add, Nat.mul_one] at h
      exact h
    refine SpecW.of Try.func140 rfl (by kernel_rfl) rfl (hW o h3) h4 (fun H hfin hfz => ?_)
    have hs3 : KI.Sl (fun i => Low H.n i ∧ i ≠ o) H (.slice a2 ys.length c2) ys := (hs2.same (fun id hid => (hfz id (hX id hid).1).2)).more (fun id hid => ⟨(hfz id (hX id hid).1).1, fun e => (hX id hid).2 (by rw [e]; exact h3)⟩)
    refine KW.lpM rfl rfl (fun s : (Nat × List Value) => [(0, .int .i64 p), (1, .slice (some ⟨o, 0, some 1⟩) xs.length c), (2, .slice a2 ys.length c2), (3, .int .i64 t), (10, .slice a2 ys.length c2), (11, .int .i64 ys.length), (12, .int .i64 s.1)]) (fun s => fun i => Low H.n i ∧ i ≠ o) (fun s => H) (fun s => [(o, ⟨_, true, s.2⟩)]) (fun s => s.1 ≤ xs.length ∧ Wr xs (tk p t xs ys) cells.length s.1 s.2) (fun s => xs.length - s.1) ((0, cells)) (⟨by omega, rfl, fun j y hj => absurd hj (Nat.not_lt_zero _), fun j x _ h => hget j x h⟩) ⟨rfl, rfl, rfl, rfl, rfl, rfl, rfl, trivial⟩ rfl rfl rfl (fun s hi bE n => ?_)
    obtain ⟨i, cs⟩ := s
    obtain ⟨hi0, hi1⟩ := hi
    simp only at hi0 hi1
    have hcl := hi1.len
    refine KW.cnd rfl rfl (fun h => ?_) (fun h => ?_)
    · have h : (i : Int) < xs.length := by have h : (i : Int) < ys.length := h; omega
      obtain ⟨x, hx1⟩ : ∃ x, xs[i]? = some x := ⟨xs[i]'(by omega), List.getElem?_eq_getElem (by omega)⟩
      have hxb := hx x (List.mem_of_getElem? hx1)
      refine KW.getI hs3 rfl rfl rfl rfl rfl rfl rfl rfl rfl rfl rfl rfl rfl rfl rfl rfl (by omega) (by omega) (fun y hy1 => ?_)
      have hy1 : ys[i]? = some y := hy1
      have hyb := hy y (List.mem_of_getElem? hy1)
      have hm := mul_in (x := p - t) (y := y) (by omega) (by omega)
      have ew : IntKind.i64.wrap (x + IntKind.i64.wrap (IntKind.i64.wrap (p - t) * y)) = x + (p - t) * y := by rw [wr (x := p - t) (by omega) (by omega), wr (x := (p - t) * y) (by omega) (by omega), wr (by omega) (by omega)]
      refine KW.idx0 rfl rfl rfl rfl rfl rfl rfl rfl rfl (by omega) (h) ?_
      refine KW.ldT 0 rfl rfl rfl rfl rfl rfl (bload_at (by rw [Nat.zero_add, Nat.mul_one]; exact hi1.rest i x (Nat.le_refl _) hx1) rfl rfl) ?_
      refine KW.rem rfl rfl rfl rfl rfl rfl (by rw [ew]; omega) (by omega) ?_
      refine KW.idx0 rfl rfl rfl rfl rfl rfl rfl rfl rfl (by omega) (h) ?_
      refine KW.st1 0 rfl rfl rfl rfl rfl rfl rfl rfl rfl rfl rfl rfl (by simp only; omega) ?_
      refine KW.nxt rfl rfl (fun H' g => ⟨(i + 1, _), ⟨by simp only; omega, hi1.next (by omega) (y := (x + (p - t) * y) % p) (tk_at hx1 hy1) (congrArg (fun z => Value.int .i64 (z % p)) ew)⟩, by first | omega | (simp only; omega), ⟨rfl, rfl, rfl, rfl, rfl, rfl, congrArg (Value.int .i64) (inc64 (by omega)), trivial⟩, g⟩)
    · obtain rfl : i = xs.length := by have h : ¬ (i : Int) < ys.length := h; omega
      refine KW.endW rfl rfl rfl rfl (fun H1 g => g.nle1 (j := 0) rfl) (fun id hid hw => ⟨⟨hid, fun e => hw (by subst e; exact h3)⟩, rfl⟩) (fun H1 g => ?_)
      have hb := g.blk (j := 0) rfl
      have el : (tk p t xs ys).length = xs.length := tk_length hxy
      rw [← el]
      exact mlI_of h3 hb.1 rfl (by rw [el]; exact h2) (by rw [el]; simp only; omega) (fun j y hy => hi1.done j y (by have := (List.getElem?_eq_some_iff.1 hy).1; omega) hy)
theorem l03Add {W X : Ids} {p t z : Int} (hp : 2 ≤ p ∧ p ≤ 31) (ht : 0 ≤ t ∧ t < p) (hz : z = p - t) {a c a2 c2} {xs ys : List Int} (hxy : xs.length = ys.length) (hy : ∀ y ∈ ys, 0 ≤ y ∧ y < p) (hX : ∀ id, X id → S id ∧ ¬ W id) (hs2 : KI.Sl X H0 (.slice a2 ys.length c2) ys) (hl : xs.length ≤ 4194304) (hx : ∀ x ∈ xs, 0 ≤ x ∧ x < p) (hW : ∀ id, W id → S id) (hs : KI.Ml W H0 (.slice a xs.length c) xs) :
    SpecW Try.prog S H0 W 238 [.int .i64 p, .slice a xs.length c, .slice a2 ys.length c2, .int .i64 z] (fun n v H1 => KI.Ml W H1 (.slice a xs.length c) (tk p t xs ys)) := by
  subst hz
  rcases hs with ⟨rfl, a0, c0, he, ha⟩ | ⟨o, c1, bb, Ws, he, h2, h3, h4, h5, h6, h7, h8, h9⟩
  · obtain rfl : ys = [] := List.eq_nil_of_length_eq_zero hxy.symm
    refine SpecM.w ?_
    refine SpecM.of Try.func238 rfl (by kernel_rfl) rfl (fun H hfin hfz => ?_)
    refine KW.lp rfl rfl (fun _ : Unit => [(0, .int .i64 p), (1, .slice a 0 c), (2, .slice a2 0 c2), (3, .int .i64 (p - t)), (8, .int .i64 0)]) (fun _ => True) (fun _ => 0) (()) (trivial) ⟨rfl, rfl, rfl, rfl, rfl, trivial⟩ (fun _ hi bE n => ?_)
    refine KW.cF rfl rfl (by first | (simp; done) | decide) ?_
    exact KW.endM rfl rfl rfl rfl (fun id hid => ⟨hid, rfl⟩) (fun H1 g => .inl ⟨rfl, a, c, rfl, by cases he; exact ha⟩)
  · cases he
    obtain ⟨ty, rw, cells⟩ := bb
    obtain rfl : rw = true := h5
    have h6 : xs.length * 1 ≤ cells.length := h6
    have hget : ∀ (i : Nat) x, xs[i]? = some x → cells[i]? = some (.int .i64 x) := fun i x hx => by
      have h := cell_of (m := 0 + i * 1) (h9 i x hx)
      rw [Nat.zero_add, Nat.mul_one] at h
      exact h
    refine SpecW.of Try.func238 rfl (by kernel_rfl) rfl (hW o h3) h4 (fun H hfin hfz => ?_)
    have hs3 : KI.Sl (fun i => Low H.n i ∧ i ≠ o) H (.slice a2 ys.length c2) ys := (hs2.same (fun id hid => (hfz id (hX id hid).1).2)).more (fun id hid => ⟨(hfz id (hX id hid).1).1, fun e => (hX id hid).2 (by rw [e]; exact h3)⟩)
    refine KW.lpM rfl rfl (fun s : (Nat × List Value) => [(0, .int .i64 p), (1, .slice (some ⟨o, 0, some 1⟩) xs.length c), (2, .slice a2 ys.length c2), (3, .int .i64 (p - t)), (8, .int .i64 s.1)]) (fun s => fun i => Low H.n i ∧ i ≠ o) (fun s => H) (fun s => [(o, ⟨_, true, s.2⟩)]) (fun s => s.1 ≤ xs.length ∧ Wr xs (tk p t xs ys) cells.length s.1 s.2) (fun s => xs.length - s.1) ((0, cells)) (⟨by omega, rfl, fun j y hj => absurd hj (Nat.not_lt_zero _), fun j x _ h => hget j x h⟩) ⟨rfl, rfl, rfl, rfl, rfl, trivial⟩ rfl rfl rfl (fun s hi bE n => ?_)
    obtain ⟨i, cs⟩ := s
    obtain ⟨hi0, hi1⟩ := hi
    simp only at hi0 hi1
    have hcl := hi1.len
    refine KW.cnd rfl rfl (fun h => ?_) (fun h => ?_)
    · have h : (i : Int) < xs.length := h
      obtain ⟨x, hx1⟩ : ∃ x, xs[i]? = some x := ⟨xs[i]'(by omega), List.getElem?_eq_getElem (by omega)⟩
      have hxb := hx x (List.mem_of_getElem? hx1)
      obtain ⟨y, hy1⟩ : ∃ y, ys[i]? = some y := ⟨ys[i]'(by omega), List.getElem?_eq_getElem (by omega)⟩
      have hyb := hy y (List.mem_of_getElem? hy1)
      have hm := mul_in (x := p - t) (y := y) (by omega) (by omega)
      have ew : IntKind.i64.wrap (x + IntKind.i64.wrap (y * (p - t))) = x + (p - t) * y := by rw [Int.mul_comm y, wr (x := (p - t) * y) (by omega) (by omega), wr (by omega) (by omega)]
      refine KW.idx0 rfl rfl rfl rfl rfl rfl rfl rfl rfl (by omega) (h) ?_
      refine KW.ldT 0 rfl rfl rfl rfl rfl rfl (bload_at (by rw [Nat.zero_add, Nat.mul_one]; exact hi1.rest i x (Nat.le_refl _) hx1) rfl rfl) ?_
      refine KW.getI hs3 rfl rfl rfl rfl rfl rfl rfl rfl rfl rfl rfl rfl rfl rfl rfl rfl (by omega) (by omega) (fun y2 hy2 => ?_)
      obtain rfl : y = y2 := by have hy2 : ys[i]? = some y2 := hy2; rw [hy1] at hy2; cases hy2; rfl
      refine KW.rem rfl rfl rfl rfl rfl rfl (by rw [ew]; omega) (by omega) ?_
      refine KW.idx0 rfl rfl rfl rfl rfl rfl rfl rfl rfl (by omega) (h) ?_
      refine KW.st1 0 rfl rfl rfl rfl rfl rfl rfl rfl rfl rfl rfl rfl (by simp only; omega) ?_
      refine KW.nxt rfl rfl (fun H' g => ⟨(i + 1, _), ⟨by simp only; omega, hi1.next (by omega) (y := (x + (p - t) * y) % p) (tk_at hx1 hy1) (congrArg (fun z => Value.int .i64 (z % p)) ew)⟩, by first | omega | (simp only; omega), ⟨rfl, rfl, rfl, rfl, congrArg (Value.int .i64) (inc64 (by omega)), trivial⟩, g⟩)
    · obtain rfl : i = xs.length := by have h : ¬ (i : Int) < xs.length := h; omega
      refine KW.endW rfl rfl rfl rfl (fun H1 g => g.nle1 (j := 0) rfl) (fun id hid hw => ⟨⟨hid, fun e => hw (by subst e; exact h3)⟩, rfl⟩) (fun H1 g => ?_)
      have hb := g.blk (j := 0) rfl
      have el : (tk p t xs ys).length = xs.length := tk_length hxy
      rw [← el]
      exact mlI_of h3 hb.1 rfl (by rw [el]; exact h2) (by rw [el]; simp only; omega) (fun j y hy => hi1.done j y (by have := (List.getElem?_eq_some_iff.1 hy).1; omega) hy)
theorem power (p a z : Int) (hp : 2 ≤ p ∧ p ≤ 31) (ha : 0 ≤ a ∧ a < p) (hz : 0 ≤ z ∧ z ≤ 1000) : Spec Try.prog S H0 205 [.int .i64 p, .int .i64 a, .int .i64 z] (fun v => v = .int .i64 (pw p a z.toNat)) := by
  refine Spec.of1 Try.func205 rfl (by kernel_rfl) rfl (fun H _ => ?_)
  obtain ⟨q, rfl⟩ : ∃ q : Nat, z = q := ⟨z.toNat, by omega⟩
  refine KW.rem rfl rfl rfl rfl rfl rfl (by decide) (by omega) ?_
  have e1 : (1 : Int) % p = 1 := Int.emod_eq_of_lt (by omega) (by omega)
  refine KW.lp rfl rfl (fun i : Nat => [(0, .int .i64 p), (1, .int .i64 a), (2, .int .i64 q), (7, .int .i64 (pw p a i)), (10, .int .i64 q), (11, .int .i64 i)]) (fun i => i ≤ q) (fun i => q - i) (0) (Nat.zero_le _) ⟨rfl, rfl, rfl, congrArg (Value.int .i64) e1, rfl, rfl, trivial⟩ (fun i hi bE n => ?_)
  refine KW.cnd rfl rfl (fun h => ?_) (fun h => ?_)
  · have h : (i : Int) < q := h
    have hw := pw_ok (a := a) hp.1 i
    have hm := mul_in (x := pw p a i) (y := a) (by omega) (by omega)
    refine KW.rem rfl rfl rfl rfl rfl rfl (by rw [wr (by omega) (by omega)]; exact hm.1) (by omega) ?_
    refine KW.nxt rfl rfl (fun H' g => ⟨i + 1, by omega, by first | omega | (simp only; omega), ⟨rfl, rfl, rfl, congrArg (fun z => Value.int .i64 (z % p)) (wr (by omega) (by omega)), rfl, congrArg (Value.int .i64) (inc64 (by omega)), trivial⟩, g⟩)
  · obtain rfl : i = q := by have h : ¬ (i : Int) < q := h; omega
    exact KW.ret rfl rfl rfl rfl (rfl)
theorem inverse (p a : Int) (hp : 2 ≤ p ∧ p ≤ 31) (ha : 0 ≤ a ∧ a < p) : Spec Try.prog S H0 139 [.int .i64 p, .int .i64 a] (fun v => v = .int .i64 (pw p a (p - 2).toNat)) := by
  refine Spec.of1 Try.func139 rfl (by kernel_rfl) rfl (fun H _ => ?_)
  have ew : IntKind.i64.wrap (p - 2) = p - 2 := wr (by omega) (by omega)
  refine KW.callE rfl rfl rfl rfl rfl (power p a _ hp ha (by rw [ew]; omega)) (fun _ _ => ?_)
  exact KW.ret rfl rfl rfl rfl (by rw [ew]; rfl)
theorem l03Power (p a z : Int) (hp : 2 ≤ p ∧ p ≤ 31) (ha : 0 ≤ a ∧ a < p) (hz : 0 ≤ z ∧ z ≤ 1000) : Spec Try.prog S H0 262 [.int .i64 p, .int .i64 a, .int .i64 z] (fun v => v = .int .i64 (pw p a z.toNat)) := by
  refine Spec.of1 Try.func262 rfl (by kernel_rfl) rfl (fun H _ => ?_)
  obtain ⟨q, rfl⟩ : ∃ q : Nat, z = q := ⟨z.toNat, by omega⟩
  refine KW.lp rfl rfl (fun i : Nat => [(0, .int .i64 p), (1, .int .i64 a), (2, .int .i64 ((q : Int) - i)), (7, .int .i64 (pw p a i))]) (fun i => i ≤ q) (fun i => q - i) (0) (Nat.zero_le _) ⟨rfl, rfl, congrArg (Value.int .i64) (by simp), rfl, trivial⟩ (fun i hi bE n => ?_)
  refine KW.cnd rfl rfl (fun h => ?_) (fun h => ?_)
  · have h : (0 : Int) < (q : Int) - i := h
    have hw := pw_ok (a := a) hp.1 i
    have hm := mul_in (x := pw p a i) (y := a) (by omega) (by omega)
    refine KW.rem rfl rfl rfl rfl rfl rfl (by rw [wr (by omega) (by omega)]; exact hm.1) (by omega) ?_
    refine KW.nxt rfl rfl (fun H' g => ⟨i + 1, by omega, by first | omega | (simp only; omega), ⟨rfl, rfl, vI (by omega) (by omega) (by omega), congrArg (fun z => Value.int .i64 (z % p)) (wr (by omega) (by omega)), trivial⟩, g⟩)
  · obtain rfl : i = q := by have h : ¬ (0 : Int) < (q : Int) - i := h; omega
    exact KW.ret rfl rfl rfl rfl (rfl)
theorem l03Inverse (p a : Int) (hp : 2 ≤ p ∧ p ≤ 31) (ha : 0 ≤ a ∧ a < p) : Spec Try.prog S H0 237 [.int .i64 p, .int .i64 a] (fun v => v = .int .i64 (pw p a (p - 2).toNat)) := by
  refine Spec.of1 Try.func237 rfl (by kernel_rfl) rfl (fun H _ => ?_)
  have ew : IntKind.i64.wrap (p - 2) = p - 2 := wr (by omega) (by omega)
  refine KW.callE rfl rfl rfl rfl rfl (l03Power p a _ hp ha (by rw [ew]; omega)) (fun _ _ => ?_)
  exact KW.ret rfl rfl rfl rfl (by rw [ew]; rfl)
end
end Go.Proofs.Ytmkpfllbmdahkaa.Am
/- Contracts: rows copied. Each holds under its own conditions. -/
set_option linter.unusedVariables false
set_option linter.unusedSimpArgs false
set_option maxRecDepth 20000
namespace Go.Proofs.Ytmkpfllbmdahkaa.Am
open Go Go.RowKit Go.Proofs Go.Proofs.Ytmkpfllbmdahkaa.Pl
/-- What a maker of rows yields: the list lies in block o, its rows in V. -/
def MkG (xs : List (List Int)) (ty : TypeId) (n : Nat) (v : Value) (H1 : AH) : Prop := ∃ o cs V, v = .slice (some ⟨o, 0, some 1⟩) xs.length xs.length ∧ New n H1.n o ∧ H1.m o = some ⟨ty, true, cs⟩ ∧ (∀ id, V id → New n H1.n id ∧ id ≠ o) ∧ RowsB KI.ml V H1 V xs cs
theorem RowsB.on {S S' V : Ids} {A A' : AH} {rows : List (List Int)} {cs : List Value} (h : RowsB KI.ml S A V rows cs) (hs : ∀ id, V id → S' id ∧ A'.m id = A.m id) : RowsB KI.ml S' A' V rows cs := by
  obtain ⟨W, h1, h2, h3⟩ := h.rows
  refine ⟨h.len, fun id hid => (hs id hid).1, W, h1, h2, fun j x hx => ?_⟩
  obtain ⟨v, h4, h5⟩ := h3 j x hx
  exact ⟨v, h4, KI.ml.same (fun id hid => (hs id (h1 j id hid)).2) h5⟩
theorem RwI.mkG {xs : List (List Int)} {H HB H1 : AH} {SB : Ids} {s : RwS} {T : List Var} {n j : Nat} {ty : TypeId} (h : RwI (fun x => x) xs H SB HB s) (he : s.i = xs.length) (g : Good s.S s.A T n H1) (hT : T[j]? = some (s.o, ⟨ty, true, s.cs⟩)) (ho : H.n ≤ s.o) : MkG xs ty H.n (.slice (some ⟨s.o, 0, some 1⟩) xs.length xs.length) H1 := by
  have hb := h.b
  rw [he, List.take_of_length_le (Nat.le_refl _), List.map_id'] at hb
  have hno := (g.vars j _ hT).2.2
  have hn := g.n_
  refine ⟨s.o, s.cs, s.V, rfl, ⟨ho, (g.blk hT).2⟩, (g.blk hT).1, fun id hid => ⟨⟨h.v id hid, ?_⟩, fun e => hno (e ▸ hb.sub id hid)⟩, hb.on (fun id hid => ⟨hid, (g.froz id (hb.sub id hid)).2⟩)⟩
  have := (g.froz id (hb.sub id hid)).1
  omega
section
variable {S : Ids} {H0 : AH}
theorem copyRows {a c} {xs : List (List Int)} (hB : B_Int64SS xs) (hs : KI.sl.Sl S H0 (.slice a xs.length c) xs) : SpecM Try.prog S H0 137 [.slice a xs.length c] (MkG xs 32) := by
  have hxl := hB.len
  refine SpecM.of1 Try.func137 rfl (by kernel_rfl) rfl (fun H _ => ?_)
  refine KW.lit rfl rfl rfl rfl rfl rfl rfl rfl rfl rfl [] rfl rfl (fun v hv => by simp at hv) rfl ?_
  refine KW.lpM rfl rfl (fun s : RwS => [(3, .slice (some ⟨s.o, 0, some 1⟩) s.i s.i), (7, .slice a xs.length c), (8, .int .i64 xs.length), (9, .int .i64 s.i)]) (fun s => s.S) (fun s => s.A) (fun s => [(s.o, ⟨_, true, s.cs⟩)]) (fun s => RwI (fun x => x) xs H (Low H.n) H s) (fun s => xs.length - s.i) (⟨0, Low H.n, H, fun _ => False, [], _⟩) (RwI.start) ⟨rfl, rfl, rfl, rfl, trivial⟩ rfl rfl rfl (fun s hi bE n => ?_)
  haveI : Stp (Low H.n) H s.S s.A := ⟨hi.old⟩
  have hle := hi.le
  have hcl := hi.b.len
  rw [List.length_map, List.length_take] at hcl
  refine KW.cnd rfl rfl (fun k1 => ?_) (fun k1 => ?_)
  · have k1 : (s.i : Int) < xs.length := k1
    refine KW.getL hs.up rfl rfl rfl rfl rfl rfl rfl rfl rfl rfl rfl rfl rfl rfl rfl rfl (by omega) (k1) (fun y ay cy hy hsy => ?_)
    have hy : xs[s.i]? = some y := hy
    have hyl := hB.each y (List.mem_of_getElem? hy)
    refine KW.ids (fun hlow hvar => ?_)
    refine KW.fact (fun _ g => g.nle (H1 := H)) (fun hn0 => ?_)
    refine KW.callN1 rfl rfl rfl rfl rfl (cloneI hyl hsy) (fun v HC SC mC _ _ hv => ?_)
    obtain ⟨a5, c5, rfl, hC⟩ := hv
    refine KW.app1 (xs := s.cs) (v := .slice a5 y.length c5) 0 1 rfl rfl rfl rfl rfl rfl rfl rfl rfl rfl rfl rfl rfl rfl rfl rfl rfl rfl rfl rfl rfl rfl rfl (by omega) (by show (_ + 1) * 24 ≤ _; omega) (by first | omega | (simp only; omega)) ?_
    exact KW.nxt rfl rfl (fun H' g => ⟨_, hi.next (inferInstance : Stp s.S s.A SC HC).st inferInstance hlow hn0 hy hC, by simp only; omega, ⟨rfl, rfl, rfl, congrArg (Value.int .i64) (inc64 (by omega)), trivial⟩, g⟩)
  · have k1 : ¬ (s.i : Int) < xs.length := k1
    have he : s.i = xs.length := by omega
    refine KW.retM1 rfl rfl rfl rfl (fun H1 g => ?_)
    rw [he]
    exact hi.mkG he g (j := 0) rfl (g.ge (H1 := H) (j := 0) rfl)
end
end Go.Proofs.Ytmkpfllbmdahkaa.Am
/- Contract: the echelon of the program. It holds under its own conditions. -/
set_option linter.unusedVariables false
set_option linter.unusedSimpArgs false
set_option maxRecDepth 20000
namespace Go.Proofs.Ytmkpfllbmdahkaa.Am
open Go Go.RowKit Go.Proofs Go.Proofs.Ytmkpfllbmdahkaa.Pl
/-- What an echelon yields. -/
def MkE (p : Int) (k : Nat) (e : List (List Int) × List Nat) (n : Nat) (v : Value) (H1 : AH) : Prop := ∃ a1 c1 a2 c2, v = .tuple #[.agg #[.int .i64 p, .int .i64 k, .slice a1 e.2.length c1], .slice a2 e.2.length c2] ∧ KI.ml.Ml (New n H1.n) H1 (.slice a1 e.2.length c1) (e.1.take e.2.length) ∧ KI.Ml (New n H1.n) H1 (.slice a2 e.2.length c2) (e.2.map fun (i : Nat) => (i : Int))
structure EcS where
  c : Nat
  S : Ids
  A : AH
  cs : List Value
  po : Nat
structure EcI (p : Int) (k : Nat) (L : List (List Int)) (H : AH) (V : Ids) (s : EcS) : Prop where
  le : s.c ≤ k
  old : St (Low H.n) H s.S s.A
  b : RowsB KI.ml s.S s.A V (ech p L s.c).1 s.cs
theorem ech_none {p : Int} {L : List (List Int)} {c : Nat} (h : nz (ech p L c).1 c (ech p L c).2.length = (ech p L c).1.length) : ech p L (c + 1) = ech p L c := by
  rw [ech]
  have : rnd p (ech p L c).1 c (ech p L c).2.length = none := by unfold rnd; rw [if_pos h]
  rw [this]
theorem ech_some {p : Int} {L : List (List Int)} {c : Nat} (h : nz (ech p L c).1 c (ech p L c).2.length ≠ (ech p L c).1.length) : ech p L (c + 1) = (tks p c (ech p L c).2.length (lead p (ech p L c).1 c (ech p L c).2.length) ((sw (ech p L c).1 (ech p L c).2.length (nz (ech p L c).1 c (ech p L c).2.length)).set (ech p L c).2.length (lead p (ech p L c).1 c (ech p L c).2.length)) (ech p L c).1.length, (ech p L c).2 ++ [c]) := by
  rw [ech]
  unfold rnd
  rw [if_neg h]
theorem built_Matrix (p c : Int) (a : Option Addr) (n m : Nat) : Try.prog.built 28 [(0, .int .i64 p), (1, .int .i64 c), (2, .slice a n m)] = some #[.int .i64 p, .int .i64 c, .slice a n m] := by kernel_rfl
theorem cell0 {l : List Value} {q : Nat} {v : Value} (h : l[q]? = some v) : l[0 + q * 1]? = some v := by rw [Nat.zero_add, Nat.mul_one]; exact h
section
variable {S : Ids} {H0 : AH}
theorem echelon {p : Int} {k : Nat} (hp : 2 ≤ p ∧ p ≤ 31) (hk : k ≤ 1000) {L : List (List Int)} (hB : B_Int64SS L) (hL : Rect p k L) {a c} (hs : KI.sl.Sl S H0 (.slice a L.length c) L) : SpecM Try.prog S H0 136 [.agg #[.int .i64 p, .int .i64 k, .slice a L.length c]] (MkE p k (ech p L k)) := by
  have hLl := hB.len
  have hok := ech_ok (p := p) (by omega) hL
  refine SpecM.of1 Try.func136 rfl (by kernel_rfl) rfl (fun H _ => ?_)
  refine KW.callN1 rfl rfl rfl rfl rfl (copyRows hB hs.up) (fun v HC SC mC _ _ hv => ?_)
  obtain ⟨o, cs0, V, rfl, ho, hom, hV, hb0⟩ := hv
  have oS := (inferInstance : On (New (H.n + 2) HC.n) HC SC HC).st
  refine KW.thaw o ⟨_, true, cs0⟩ (oS o ho).1 hom ?_
  haveI oH : On (Low H.n) H (fun id => SC id ∧ id ≠ o) HC := On.thaw (fun id hid => by have : id < H.n := hid; have := ho.1; omega)
  have hb1 : RowsB KI.ml (fun id => SC id ∧ id ≠ o) HC V L cs0 := hb0.on (fun id hid => ⟨⟨(oS id (hV id hid).1).1, (hV id hid).2⟩, rfl⟩)
  have hVl : ∀ id, V id → H.n ≤ id := fun id hid => by have := (hV id hid).1.1; omega
  refine KW.lit rfl rfl rfl rfl rfl rfl rfl rfl rfl rfl [] rfl rfl (fun v hv => by simp at hv) rfl ?_
  refine KW.lpM rfl rfl (fun s : EcS => [(1, .pointer (some ⟨H.n, 0, some 0⟩)), (2, .pointer (some ⟨H.n + 1, 0, some 1⟩)), (4, .slice (some ⟨o, 0, some 1⟩) L.length L.length), (5, .slice (some ⟨s.po, 0, some 1⟩) (ech p L s.c).2.length (ech p L s.c).2.length), (16, .int .i64 k), (17, .int .i64 s.c)]) (fun s => s.S) (fun s => s.A) (fun s => [(H.n, ⟨28, true, [.int .i64 p, .int .i64 k, .slice a L.length c]⟩), (H.n + 1, ⟨28, true, [.int .i64 0, .int .i64 0, .slice none 0 0]⟩), (o, ⟨32, true, s.cs⟩), (s.po, ⟨_, true, (ech p L s.c).2.map fun (i : Nat) => Value.int .i64 i⟩)]) (fun s => EcI p k L H V s) (fun s => k - s.c) (⟨0, _, HC, cs0, _⟩) (⟨Nat.zero_le _, oH.st, hb1⟩) ⟨rfl, rfl, rfl, rfl, rfl, rfl, trivial⟩ rfl rfl rfl (fun s hi bE n => ?_)
  obtain ⟨ci, S1, A1, cs, po⟩ := s
  obtain ⟨hle, hold, hb⟩ := hi
  simp only at hle hold hb
  have hoc := hok ci
  haveI oc : Stp (Low H.n) H S1 A1 := ⟨hold⟩
  obtain ⟨q, hn⟩ : ∃ q, (ech p L ci).2.length = q := ⟨_, rfl⟩
  obtain ⟨M, hM⟩ : ∃ M, (ech p L ci).1 = M := ⟨_, rfl⟩
  rw [hM] at hb
  have hcs := hb.len
  have hMl : M.length = L.length := by rw [← hM]; exact hoc.2.1
  have hMr : Rect p k M := by rw [← hM]; exact hoc.1
  have hnL : q ≤ L.length := by rw [← hn]; exact hoc.2.2.1
  have e5 : Value.slice (some ⟨po, 0, some 1⟩) (ech p L ci).2.length (ech p L ci).2.length = Value.slice (some ⟨po, 0, some 1⟩) q q := by rw [hn]
  have e7 : Value.int .i64 ((ech p L ci).2.length : Nat) = Value.int .i64 q := by rw [hn]
  refine KW.cnd rfl rfl (fun h => ?_) (fun h => ?_)
  · have h : (ci : Int) < k := h
    refine KW.lp rfl rfl (fun r : Nat => [(1, .pointer (some ⟨H.n, 0, some 0⟩)), (2, .pointer (some ⟨H.n + 1, 0, some 1⟩)), (4, .slice (some ⟨o, 0, some 1⟩) L.length L.length), (5, .slice (some ⟨po, 0, some 1⟩) q q), (6, .int .i64 ci), (7, .int .i64 q), (8, .int .i64 r), (16, .int .i64 k), (17, .int .i64 ci)]) (fun r => q ≤ r ∧ r ≤ L.length ∧ nz M ci r = nz M ci q) (fun r => L.length - r) (q) (⟨Nat.le_refl _, hnL, rfl⟩) ⟨rfl, rfl, rfl, e5, rfl, e7, e7, rfl, rfl, trivial⟩ (fun r hi bE n => ?_)
    obtain ⟨hr1, hr2, hr3⟩ := hi
    refine KW.tst rfl rfl (fun h1 => ?_) (fun h1 => ?_)
    · have h1 : (r : Int) < L.length := h1
      obtain ⟨w, hw⟩ : ∃ w, M[r]? = some w := ⟨M[r]'(by omega), List.getElem?_eq_getElem (by omega)⟩
      obtain ⟨v, W, hv, hm, hWV, _, _⟩ := hb.row1 hw
      obtain ⟨ra, rc, rfl⟩ := hm.form
      have hwk := hMr.at hw
      refine KW.idx0 rfl rfl rfl rfl rfl rfl rfl rfl rfl (by omega) (h1) ?_
      refine KW.ldT 2 rfl rfl rfl rfl rfl rfl (bload_at (cell0 hv) rfl rfl) ?_
      refine KW.getI ((hm.sl.more (fun id hid => hb.sub id (hWV id hid)))) rfl rfl rfl rfl rfl rfl rfl rfl rfl rfl rfl rfl rfl rfl rfl rfl (by omega) (by omega) (fun x hx => ?_)
      have hx : w[ci]? = some x := hx
      refine KW.cnd rfl rfl (fun k2 => ?_) (fun k2 => ?_)
      · have k2 : x = 0 := k2
        refine KW.nxt rfl rfl (fun H' g => ⟨r + 1, ⟨by omega, by omega, by rw [nz_step hw (by rw [List.getD_eq_getElem?_getD, hx]; exact k2)]; exact hr3⟩, by first | omega | (simp only; omega), ⟨rfl, rfl, rfl, rfl, rfl, rfl, congrArg (Value.int .i64) (inc64 (by omega)), rfl, rfl, trivial⟩, g⟩)
      · have k2 : ¬ x = 0 := k2
        refine KW.no rfl rfl (by omega) ?_
        have e1 : nz M ci q = r := by rw [← hr3]; exact nz_stop hw (by rw [List.getD_eq_getElem?_getD, hx]; exact k2)
        have hrn : q ≤ r := by omega
        have hrL : r < L.length := by omega
        obtain ⟨wn, hwn⟩ : ∃ w, M[q]? = some w := ⟨M[q]'(by omega), List.getElem?_eq_getElem (by omega)⟩
        obtain ⟨vn, Wn, hvn, hmn, _, _, _⟩ := hb.row1 hwn
        obtain ⟨na, nc, rfl⟩ := hmn.form
        refine KW.idx0 rfl rfl rfl rfl rfl rfl rfl rfl rfl (by omega) (by omega) ?_
        refine KW.ldT 2 rfl rfl rfl rfl rfl rfl (bload_at (cell0 hv) rfl rfl) ?_
        refine KW.idx0 rfl rfl rfl rfl rfl rfl rfl rfl rfl (by omega) (by omega) ?_
        refine KW.ldT 2 rfl rfl rfl rfl rfl rfl (bload_at (cell0 hvn) rfl rfl) ?_
        refine KW.idx0 rfl rfl rfl rfl rfl rfl rfl rfl rfl (by omega) (by omega) ?_
        refine KW.st1 2 rfl rfl rfl rfl rfl rfl rfl rfl rfl rfl rfl rfl (by simp only; omega) ?_
        refine KW.idx0 rfl rfl rfl rfl rfl rfl rfl rfl rfl (by omega) (by omega) ?_
        refine KW.st1 2 rfl rfl rfl rfl rfl rfl rfl rfl rfl rfl rfl rfl (by simp only [List.length_set]; omega) ?_
        have hb2 : RowsB KI.ml S1 A1 V (sw M q r) ((cs.set (0 + q * 1) (.slice ra w.length rc)).set (0 + r * 1) (.slice na wn.length nc)) := by
          rw [Nat.zero_add, Nat.zero_add, Nat.mul_one, Nat.mul_one]
          exact hb.swap (by omega) (by omega) hvn hv
        have hM1 : Rect p k (sw M q r) := hMr.sw (by omega) (by omega)
        obtain ⟨w1, hw1⟩ : ∃ w, (sw M q r)[q]? = some w := ⟨(sw M q r)[q]'(by rw [sw_len]; omega), List.getElem?_eq_getElem (by rw [sw_len]; omega)⟩
        have hw1d : (sw M q r).getD q [] = w1 := by rw [List.getD_eq_getElem?_getD, hw1]; rfl
        have hw1k := hM1.at hw1
        obtain ⟨v1, W1, hv1, hm1, hW1, _, hset⟩ := hb2.row1 hw1
        obtain ⟨a1, c1, rfl⟩ := hm1.form
        have hw1l : w1.length = k := hw1k.1
        refine KW.idx0 rfl rfl rfl rfl rfl rfl rfl rfl rfl (by omega) (by omega) ?_
        refine KW.ldT 2 rfl rfl rfl rfl rfl rfl (bload_at (cell0 hv1) rfl rfl) ?_
        refine KW.idx0 rfl rfl rfl rfl rfl rfl rfl rfl rfl (by omega) (by omega) ?_
        refine KW.ldT 2 rfl rfl rfl rfl rfl rfl (bload_at (cell0 hv1) rfl rfl) ?_
        refine KW.getI ((hm1.sl.more (fun id hid => hb2.sub id (hW1 id hid)))) rfl rfl rfl rfl rfl rfl rfl rfl rfl rfl rfl rfl rfl rfl rfl rfl (by omega) (by omega) (fun x1 hx1 => ?_)
        have hx1 : w1[ci]? = some x1 := hx1
        have hx1k := hw1k.2 x1 (List.mem_of_getElem? hx1)
        refine KW.callE rfl rfl rfl rfl rfl (inverse p x1 hp hx1k) (fun _ _ => ?_)
        have hpk := pw_ok (a := x1) hp.1 (p - 2).toNat
        have hsub1 : ∀ id, W1 id → S1 id := fun id hid => hb2.sub id (hW1 id hid)
        refine KW.callW hsub1 rfl rfl rfl rfl rfl (scaled hp hpk (by omega) hw1k.2 hsub1 hm1) (fun v2 H2 S2 hn2 st2 hw2 hv2 => ?_)
        obtain ⟨ld, hld⟩ : ∃ ld, sc p (pw p x1 (p - 2).toNat) w1 = ld := ⟨_, rfl⟩
        have hlead : lead p M ci q = ld := by
          unfold lead
          rw [e1, hw1d, ← hld, List.getD_eq_getElem?_getD, hx1]
          rfl
        have hldk : ld.length = k ∧ ∀ x ∈ ld, 0 ≤ x ∧ x < p := by rw [← hld]; exact sc_ok (by omega) hw1k
        have hb3 := hset S2 H2 _ st2 hv2
        rw [hld] at hb3
        have hold2 : St (Low H.n) H S2 H2 := fun id hid => ⟨(st2 id (hold id hid).1).1, by rw [(st2 id (hold id hid).1).2 (fun hw => by have := hVl id (hW1 id hw); have : id < H.n := hid; omega)]; exact (hold id hid).2⟩
        obtain ⟨M2, hM2⟩ : ∃ M2, (sw M q r).set q ld = M2 := ⟨_, rfl⟩
        rw [hM2] at hb3
        have hM2l : M2.length = L.length := by rw [← hM2, List.length_set, sw_len]; exact hMl
        have hM2r : Rect p k M2 := by rw [← hM2]; exact hM1.set hldk
        have hM2q : M2[q]? = some ld := by rw [← hM2, List.getElem?_set_self (by rw [sw_len]; omega)]
        obtain ⟨cs1, hcs1⟩ : ∃ cs1, (cs.set (0 + q * 1) (.slice ra w.length rc)).set (0 + r * 1) (.slice na wn.length nc) = cs1 := ⟨_, rfl⟩
        rw [hcs1] at hb3
        refine KW.lpM rfl rfl (fun s : (Nat × Ids × AH) => [(1, .pointer (some ⟨H.n, 0, some 0⟩)), (2, .pointer (some ⟨H.n + 1, 0, some 1⟩)), (4, .slice (some ⟨o, 0, some 1⟩) L.length L.length), (5, .slice (some ⟨po, 0, some 1⟩) q q), (6, .int .i64 ci), (7, .int .i64 q), (16, .int .i64 k), (17, .int .i64 ci), (74, .slice (some ⟨o, 0, some 1⟩) L.length L.length), (75, .int .i64 L.length), (76, .int .i64 s.1)]) (fun s => s.2.1) (fun s => s.2.2) (fun s => [(H.n, ⟨28, true, [.int .i64 p, .int .i64 k, .slice a L.length c]⟩), (H.n + 1, ⟨28, true, [.int .i64 0, .int .i64 0, .slice none 0 0]⟩), (o, ⟨32, true, (cs.set (0 + q * 1) (.slice ra w.length rc)).set (0 + r * 1) (.slice na wn.length nc)⟩), (po, ⟨_, true, (ech p L ci).2.map fun (i : Nat) => Value.int .i64 i⟩)]) (fun s => s.1 ≤ L.length ∧ St (Low H.n) H s.2.1 s.2.2 ∧ RowsB KI.ml s.2.1 s.2.2 V (tks p ci q ld M2 s.1) cs1) (fun s => L.length - s.1) ((0, S2, H2)) (⟨Nat.zero_le _, hold2, by simp only [tks_zero]; exact hb3⟩) ⟨rfl, rfl, rfl, rfl, rfl, rfl, rfl, rfl, rfl, rfl, rfl, trivial⟩ rfl rfl rfl (fun s hi bE n => ?_)
        obtain ⟨i, S3, A3⟩ := s
        obtain ⟨hi1, hold3, hb4⟩ := hi
        simp only at hi1 hold3 hb4
        haveI oc3 : Stp (Low H.n) H S3 A3 := ⟨hold3⟩
        rw [← hcs1] at hb4
        refine KW.cnd rfl rfl (fun h3 => ?_) (fun h3 => ?_)
        · have h3 : (i : Int) < L.length := h3
          obtain ⟨wi, hwi⟩ : ∃ w, M2[i]? = some w := ⟨M2[i]'(by omega), List.getElem?_eq_getElem (by omega)⟩
          have hwik := hM2r.at hwi
          obtain ⟨vi, Wi, hvi, hmi, hWi, hoth, hseti⟩ := hb4.row1 ((tks_old (.inl (Nat.le_refl i))).trans hwi)
          obtain ⟨ai, ic, rfl⟩ := hmi.form
          refine KW.idx0 rfl rfl rfl rfl rfl rfl rfl rfl rfl (by omega) (h3) ?_
          refine KW.ldT 2 rfl rfl rfl rfl rfl rfl (bload_at (cell0 hvi) rfl rfl) ?_
          refine KW.cndB rfl rfl (fun h4 => ?_) (fun h4 => ?_)
          · have h4 : i ≠ q := by simp at h4; omega
            obtain ⟨vq, Xq, hvq, hmq, hXq⟩ := hoth q ld (Ne.symm h4) ((tks_old (.inr rfl)).trans hM2q)
            obtain ⟨aq, qc, rfl⟩ := hmq.form
            refine KW.idx0 rfl rfl rfl rfl rfl rfl rfl rfl rfl (by omega) (by omega) ?_
            refine KW.ldT 2 rfl rfl rfl rfl rfl rfl (bload_at (cell0 hvq) rfl rfl) ?_
            refine KW.getI ((hmi.sl.more (fun id hid => hb4.sub id (hWi id hid)))) rfl rfl rfl rfl rfl rfl rfl rfl rfl rfl rfl rfl rfl rfl rfl rfl (by omega) (by omega) (fun xi hxi => ?_)
            have hxi : wi[ci]? = some xi := hxi
            have hxik := hwik.2 xi (List.mem_of_getElem? hxi)
            have hsubi : ∀ id, Wi id → S3 id := fun id hid => hb4.sub id (hWi id hid)
            refine KW.callW hsubi rfl rfl rfl rfl rfl (takeOff hp hxik (by omega) hldk.2 (fun id hid => ⟨hb4.sub id (hXq id hid).1, (hXq id hid).2⟩) hmq.sl (by omega) hwik.2 hsubi hmi) (fun v5 H5 S5 hn5 st5 hw5 hv5 => ?_)
            have hb5 := hseti S5 H5 _ st5 hv5
            have hold5 : St (Low H.n) H S5 H5 := fun id hid => ⟨(st5 id (hold3 id hid).1).1, by rw [(st5 id (hold3 id hid).1).2 (fun hw => by have := hVl id (hWi id hw); have : id < H.n := hid; omega)]; exact (hold3 id hid).2⟩
            have et : tks p ci q ld M2 (i + 1) = (tks p ci q ld M2 i).set i (tk p xi wi ld) := by
              rw [tks_next h4 hwi, List.getD_eq_getElem?_getD, hxi]
              rfl
            rw [← et, hcs1] at hb5
            refine KW.nxt rfl rfl (fun H' g => ⟨(i + 1, S5, H5), ⟨by simp only; omega, hold5, hb5⟩, by first | omega | (simp only; omega), ⟨rfl, rfl, rfl, rfl, rfl, rfl, rfl, rfl, rfl, rfl, congrArg (Value.int .i64) (inc64 (by omega)), trivial⟩, g⟩)
          · have h4 : i = q := by simp at h4; omega
            subst h4
            rw [← tks_skip, hcs1] at hb4
            refine KW.nxt rfl rfl (fun H' g => ⟨(i + 1, S3, A3), ⟨by simp only; omega, hold3, hb4⟩, by first | omega | (simp only; omega), ⟨rfl, rfl, rfl, rfl, rfl, rfl, rfl, rfl, rfl, rfl, congrArg (Value.int .i64) (inc64 (by omega)), trivial⟩, g⟩)
        · have h3 : ¬ (i : Int) < L.length := h3
          have hiL : i = L.length := by omega
          have eE : ech p L (ci + 1) = (tks p ci q ld M2 L.length, (ech p L ci).2 ++ [ci]) := by
            rw [ech_some (by rw [hM, hn, e1]; omega), hM, hn, hlead, e1, hM2, hMl]
          have e8 : ∀ x : Nat, Value.slice (some ⟨x, 0, some 1⟩) (q + 1) (q + 1) = Value.slice (some ⟨x, 0, some 1⟩) (ech p L (ci + 1)).2.length (ech p L (ci + 1)).2.length := fun x => by rw [eE]; simp [hn]
          refine KW.app1 (xs := (ech p L ci).2.map fun (i : Nat) => Value.int .i64 i) (v := .int .i64 ci) 3 4 rfl rfl rfl rfl rfl rfl rfl rfl rfl rfl rfl rfl rfl rfl rfl rfl rfl rfl rfl rfl rfl rfl rfl (by simp [hn]) (by show (_ + 1) * 8 ≤ _; omega) (by first | omega | (simp only; omega)) ?_
          refine KW.nxt rfl rfl (fun H' g => ⟨⟨ci + 1, S3, A3, _, _⟩, ⟨by simp only; omega, hold3, by simp only; rw [eE, ← hiL]; exact hb4⟩, by first | omega | (simp only; omega), ⟨rfl, rfl, rfl, e8 _, rfl, congrArg (Value.int .i64) (inc64 (by omega)), trivial⟩, g.eqT (by simp only [eE, List.map_append]; rfl)⟩)
    · have h1 : ¬ (r : Int) < L.length := h1
      refine KW.cF rfl rfl (by first | (simp; done) | decide) ?_
      refine KW.yes rfl rfl (by omega) ?_
      have e1 : nz (ech p L ci).1 ci (ech p L ci).2.length = (ech p L ci).1.length := by rw [hM, hn, ← hr3, nz_end (by omega)]; omega
      have e2 := ech_none e1
      have e3 : Value.slice (some ⟨po, 0, some 1⟩) q q = Value.slice (some ⟨po, 0, some 1⟩) (ech p L (ci + 1)).2.length (ech p L (ci + 1)).2.length   := by rw [e2, hn]
      refine KW.nxt rfl rfl (fun H' g => ⟨⟨ci + 1, S1, A1, cs, po⟩, ⟨by simp only; omega, hold, by simp only; rw [e2, hM]; exact hb⟩, by first | omega | (simp only; omega), ⟨rfl, rfl, rfl, e3, rfl, congrArg (Value.int .i64) (inc64 (by omega)), trivial⟩, g.eqT (by simp only [e2])⟩)
  · have hck : ci = k := by have h : ¬ (ci : Int) < k := h; omega
    refine KW.slTo (m := (ech p L ci).2.length) rfl rfl rfl rfl rfl rfl rfl rfl rfl (by omega) ?_
    refine KW.build rfl rfl rfl rfl rfl (built_Matrix _ _ _ _ _) ?_
    subst hck
    refine KW.retM1 rfl rfl rfl rfl (fun H1 g => ?_)
    have hno := g.n_
    have hbo := g.blk (j := 2) rfl
    have hbp := g.blk (j := 3) rfl
    have hpo := g.ge (H1 := H) (j := 3) rfl
    refine ⟨_, _, _, _, rfl, ?_, ?_⟩
    · rw [hM]
      exact hb.mlTo g (j := 2) rfl ⟨by have := ho.1; omega, hbo.2⟩ (fun id hid => ⟨hVl id hid, by have := (g.froz id (hb.sub id hid)).1; omega⟩) (by omega) (by omega)
    · have el : ((ech p L ci).2.map fun (i : Nat) => (i : Int)).length = (ech p L ci).2.length := by simp
      have := mlI_of (ik := .i64) (X := New H.n H1.n) (c := (ech p L ci).2.length) (ys := (ech p L ci).2.map fun (i : Nat) => (i : Int)) ⟨hpo, hbp.2⟩ hbp.1 rfl (by rw [el]; exact Nat.le_refl _) (by simp) (fun j x hx => by
        rw [List.getElem?_map] at hx ⊢
        cases hj : (ech p L ci).2[j]? with
        | none => rw [hj] at hx; cases hx
        | some z => rw [hj] at hx; cases hx; rfl)
      rw [el] at this
      exact this
end
end Go.Proofs.Ytmkpfllbmdahkaa.Am
/- Contracts: the rank of the program. Each holds under its own conditions. -/
set_option linter.unusedVariables false
set_option linter.unusedSimpArgs false
set_option maxRecDepth 20000
namespace Go.Proofs.Ytmkpfllbmdahkaa.Am
open Go Go.RowKit Go.Proofs Go.Proofs.Ytmkpfllbmdahkaa.Pl
theorem OkMat.rect {p c : Int} {L : List (List Int)} (h : OkMat p c L) {k : Nat} (hk : c = k) : Rect p k L := fun r hr => by
  have h1 := h.row r hr
  exact ⟨by have := h1.1; omega, fun x hx => by have := h1.2 x hx; omega⟩
def rkM (p c : Int) (L : List (List Int)) : Int := ((ech p L c.toNat).2.length : Nat)
section
variable {S : Ids} {H0 : AH}
theorem rankM {p : Int} {k : Nat} (hp : 2 ≤ p ∧ p ≤ 31) (hk : k ≤ 1000) {L : List (List Int)} (hB : B_Int64SS L) (hL : Rect p k L) {a c} (hs : KI.sl.Sl S H0 (.slice a L.length c) L) : SpecM Try.prog S H0 104 [.agg #[.int .i64 p, .int .i64 k, .slice a L.length c]] (fun _ v _ => v = .int .i64 (rkM p k L)) := by
  refine SpecM.of1 Try.func104 rfl (by kernel_rfl) rfl (fun H _ => ?_)
  refine KW.callN1 rfl rfl rfl rfl rfl (echelon hp hk hB hL hs.up) (fun v HC SC mC _ _ hv => ?_)
  obtain ⟨a1, c1, a2, c2, rfl, _, _⟩ := hv
  refine KW.retM1 rfl rfl rfl rfl (fun H1 g => rfl)
theorem impl_RankOf' {p c : Int} (hp : I64 p) {L : List (List Int)} (hB : B_Int64SS L) {a m} (hs : KI.sl.Sl S H0 (.slice a L.length m) L) : SpecM Try.prog S H0 18 [.agg #[.int .i64 p, .int .i64 c, .slice a L.length m]] (fun _ v _ => v = .tuple #[.int .i64 (if tv (OkMat p c L) then rkM p c L else 0), .int .i64 (if tv (OkMat p c L) then 0 else 1)]) := by
  refine SpecM.of1 Try.func18 rfl (by kernel_rfl) rfl (fun H _ => ?_)
  refine KW.callE rfl rfl rfl rfl rfl (validMatrix p c hp hB hs.up) (fun _ _ => ?_)
  by_cases hM : OkMat p c L
  · rw [tv_true hM]
    obtain ⟨k, hk⟩ : ∃ k : Nat, c = k := ⟨c.toNat, by have := hM.c0; omega⟩
    subst hk
    have h2 := hM.pr
    refine KW.cF rfl rfl (by first | (simp; done) | decide) ?_
    refine KW.callN1 rfl rfl rfl rfl rfl (rankM ⟨h2.1, h2.2.1⟩ (by have := hM.c1; omega) hB (hM.rect rfl) hs.up) (fun v HC SC mC _ _ hv => ?_)
    obtain rfl := hv
    refine KW.retM1 rfl rfl rfl rfl (fun H1 g => rfl)
  · rw [tv_false hM]
    refine KW.cT rfl rfl (by first | (simp; done) | decide) ?_
    refine KW.retM1 rfl rfl rfl rfl (fun H1 g => rfl)
end
end Go.Proofs.Ytmkpfllbmdahkaa.Am
/- Contract: a matrix copied by the reference. It holds under its own conditions. -/
set_option linter.unusedVariables false
set_option linter.unusedSimpArgs false
set_option maxRecDepth 20000
namespace Go.Proofs.Ytmkpfllbmdahkaa.Am
open Go Go.RowKit Go.Proofs Go.Proofs.Ytmkpfllbmdahkaa.Pl
/-- What the copy of a matrix yields. -/
def MkC (p c : Int) (xs : List (List Int)) (ty : TypeId) (n : Nat) (v : Value) (H1 : AH) : Prop :=
  (xs = [] ∧ v = .agg #[.int .i64 p, .int .i64 c, .slice none 0 0]) ∨ (xs ≠ [] ∧ ∃ w, v = .agg #[.int .i64 p, .int .i64 c, w] ∧ MkG xs ty n w H1)
theorem built_Matrix2 (p c : Int) : Try.prog.built 28 [(0, .int .i64 p), (1, .int .i64 c)] = some #[.int .i64 p, .int .i64 c, .slice none 0 0] := by kernel_rfl
structure CpS where
  i : Nat
  S : Ids
  A : AH
  V : Ids
  cs : List Value
  l : Value
  tail : List Var
structure CpI (xs : List (List Int)) (H HB : AH) (SB : Ids) (s : CpS) : Prop where
  rw : RwI (fun x => x) xs H SB HB ⟨s.i, s.S, s.A, s.V, s.cs, 0⟩
  form : (s.i = 0 ∧ s.l = .slice none 0 0 ∧ s.tail = [] ∧ s.cs = []) ∨ (0 < s.i ∧ ∃ o, s.l = .slice (some ⟨o, 0, some 1⟩) s.i s.i ∧ s.tail = [(o, ⟨32, true, s.cs⟩)])
section
variable {S : Ids} {H0 : AH}
theorem l03Copy {p c : Int} {id k : Nat} {xs : List (List Int)} {a m} (hB : B_Int64SS xs) (hv : Has3 S H0 id k [.int .i64 p, .int .i64 c, .slice a xs.length m]) (hs : KI.sl.Sl S H0 (.slice a xs.length m) xs) : SpecM Try.prog S H0 235 [.pointer (some ⟨id, k, none⟩)] (MkC p c xs 32) := by
  have hxl := hB.len
  refine SpecM.of1 Try.func235 rfl (by kernel_rfl) rfl (fun H _ => ?_)
  have hv := hv.up (S' := Low H.n) (H' := H)
  have hs := hs.up (S' := Low H.n) (H' := H)
  refine KW.ldF 0 hv rfl rfl rfl rfl rfl rfl rfl rfl rfl ?_
  refine KW.ldF 1 hv rfl rfl rfl rfl rfl rfl rfl rfl rfl ?_
  refine KW.build rfl rfl rfl rfl rfl (built_Matrix2 _ _) ?_
  refine KW.lpM rfl rfl (fun s : CpS => [(0, .pointer (some ⟨id, k, none⟩)), (2, .pointer (some ⟨H.n, 0, some 0⟩)), (3, .pointer (some ⟨H.n + 1, 0, some 1⟩)), (4, .int .i64 s.i)]) (fun s => s.S) (fun s => s.A) (fun s => [(H.n, ⟨28, true, [.int .i64 0, .int .i64 0, .slice none 0 0]⟩), (H.n + 1, ⟨28, true, [.int .i64 p, .int .i64 c, s.l]⟩)] ++ s.tail) (fun s => CpI xs H H (Low H.n) s) (fun s => xs.length - s.i) (⟨0, Low H.n, H, fun _ => False, [], .slice none 0 0, []⟩) (⟨RwI.start, .inl ⟨rfl, rfl, rfl, rfl⟩⟩) ⟨rfl, rfl, rfl, rfl, trivial⟩ rfl rfl rfl (fun s hi bE n => ?_)
  obtain ⟨i, S1, A1, V, cs, l, tail⟩ := s
  obtain ⟨hr, hform⟩ := hi
  simp only at hr hform
  haveI : Stp (Low H.n) H S1 A1 := ⟨hr.old⟩
  have hle := hr.le
  have hcl := hr.b.len
  rw [List.length_map, List.length_take] at hcl
  simp only at hle hcl
  have hv1 := hv.up (S' := S1) (H' := A1)
  have hs1 := hs.up (S' := S1) (H' := A1)
  rcases hform with ⟨hi0, e1, e2, e3⟩ | ⟨hi0, o, e1, e2⟩
  case' inl => subst e1 e2 e3
  case' inr => subst e1 e2
  all_goals
    refine KW.ldF 2 hv1 rfl rfl rfl rfl rfl rfl rfl rfl rfl ?_
    refine KW.cnd rfl rfl (fun j1 => ?gin) (fun j1 => ?gout)
    case gin =>
      have j1 : (i : Int) < xs.length := j1
      refine KW.ldF 2 hv1 rfl rfl rfl rfl rfl rfl rfl rfl rfl ?_
      refine KW.getL hs1 rfl rfl rfl rfl rfl rfl rfl rfl rfl rfl rfl rfl rfl rfl rfl rfl (by omega) (j1) (fun y ay cy hy hsy => ?_)
      have hy : xs[i]? = some y := hy
      have hyl := hB.each y (List.mem_of_getElem? hy)
      refine KW.ids (fun hlow hvar => ?_)
      have hnA := (hvar 1 (H.n + 1) _ rfl).1
      refine KW.callN1 rfl rfl rfl rfl rfl (l00Own hyl hsy) (fun v HC SC mC _ _ hv => ?_)
      obtain ⟨a5, c5, rfl, hC⟩ := hv
      first
        | (refine KW.app0 (v := .slice a5 y.length c5) 2 rfl rfl rfl rfl rfl rfl rfl rfl rfl rfl rfl rfl rfl rfl rfl rfl rfl rfl rfl rfl rfl rfl (by decide) ?_
           subst hi0
           exact KW.nxt rfl rfl (fun H' g => ⟨⟨1, SC, HC, _, _, _, _⟩, ⟨hr.next (o' := 0) (inferInstance : Stp S1 A1 SC HC).st inferInstance hlow (by omega) hy hC, .inr ⟨by simp only; omega, _, rfl, rfl⟩⟩, by simp only; omega, ⟨rfl, rfl, rfl, rfl, trivial⟩, g⟩))
        | (refine KW.app1 (xs := cs) (v := .slice a5 y.length c5) 2 3 rfl rfl rfl rfl rfl rfl rfl rfl rfl rfl rfl rfl rfl rfl rfl rfl rfl rfl rfl rfl rfl rfl rfl (by omega) (by show (_ + 1) * 24 ≤ _; omega) (by omega) ?_
           exact KW.nxt rfl rfl (fun H' g => ⟨⟨i + 1, SC, HC, _, _, _, _⟩, ⟨hr.next (o' := 0) (inferInstance : Stp S1 A1 SC HC).st inferInstance hlow (by omega) hy hC, .inr ⟨by simp only; omega, _, rfl, rfl⟩⟩, by simp only; omega, ⟨rfl, rfl, rfl, congrArg (Value.int .i64) (inc64 (by omega)), trivial⟩, g⟩))
    case gout =>
      have j1 : ¬ (i : Int) < xs.length := j1
      have he : i = xs.length := by omega
      refine KW.retM1 rfl rfl rfl rfl (fun H1 g => ?_)
      first
        | exact .inl ⟨List.eq_nil_of_length_eq_zero (by omega), rfl⟩
        | (refine .inr ⟨fun hx => by rw [hx] at he; simp at he; omega, _, rfl, ?_⟩
           rw [he]
           exact (⟨hr.le, hr.old, hr.b, hr.v⟩ : RwI (fun x => x) xs H (Low H.n) H ⟨i, S1, A1, V, cs, o⟩).mkG he g (j := 2) rfl (g.ge (H1 := H) (j := 2) rfl))
end
end Go.Proofs.Ytmkpfllbmdahkaa.Am
/- Contract: the echelon of the reference. It holds under its own conditions. -/
set_option linter.unusedVariables false
set_option linter.unusedSimpArgs false
set_option maxRecDepth 20000
namespace Go.Proofs.Ytmkpfllbmdahkaa.Am
open Go Go.RowKit Go.Proofs Go.Proofs.Ytmkpfllbmdahkaa.Pl
theorem sets_comm {cs : List Value} {q r : Nat} {u v : Value} (hq : cs[q]? = some u) (hr : cs[r]? = some v) : (cs.set r u).set q v = (cs.set q v).set r u := by
  by_cases h : q = r
  · subst h
    rw [hq] at hr
    cases hr
    rfl
  · exact List.set_comm _ _ (Ne.symm h)
theorem sw_at {L : List (List Int)} {q r : Nat} {w : List Int} (hq : q < L.length) (hw : L[r]? = some w) : (sw L q r)[q]? = some w := by
  unfold sw
  have hr := (List.getElem?_eq_some_iff.1 hw).1
  have e : L.getD r [] = w := by rw [List.getD_eq_getElem?_getD, hw]; rfl
  rw [List.getElem?_set]
  by_cases h : r = q
  · subst h
    rw [if_pos rfl, if_pos (by simpa using hr), e]
  · rw [if_neg h, List.getElem?_set_self hq, e]
theorem tks_same {p : Int} {c n : Nat} {r : List Int} {L : List (List Int)} {i : Nat} {w : List Int} (hi : i ≠ n) (hw : L[i]? = some w) (h0 : w.getD c 0 = 0) (hl : w.length = r.length) (hx : ∀ x ∈ w, 0 ≤ x ∧ x < p) : tks p c n r L (i + 1) = tks p c n r L i := by
  rw [tks_next hi hw, h0, tk_zero hl hx]
  apply List.ext_getElem?
  intro j
  rw [List.getElem?_set]
  split
  · rename_i e
    subst e
    rw [tks_len, if_pos (List.getElem?_eq_some_iff.1 hw).1, tks_old (.inl (Nat.le_refl _)), hw]
  · rfl
theorem ech_nil {p : Int} : ∀ k, ech p [] k = ([], [])
  | 0 => rfl
  | k + 1 => by
    rw [ech, ech_nil k]
    have : rnd p [] k ([] : List Nat).length = none := by unfold rnd; exact if_pos (nz_end (L := []) (c := k) (a := 0) (Nat.le_refl _))
    simp only [this]
section
variable {S : Ids} {H0 : AH}
theorem l03Echelon {p : Int} {k : Nat} (hp : 2 ≤ p ∧ p ≤ 31) (hk : k ≤ 1000) {L : List (List Int)} (hB : B_Int64SS L) (hL : Rect p k L) {id kk : Nat} {a c} (hv0 : Has3 S H0 id kk [.int .i64 p, .int .i64 k, .slice a L.length c]) (hs : KI.sl.Sl S H0 (.slice a L.length c) L) : SpecM Try.prog S H0 193 [.pointer (some ⟨id, kk, none⟩)] (MkE p k (ech p L k)) := by
  have hLl := hB.len
  have hok := ech_ok (p := p) (by omega) hL
  refine SpecM.of1 Try.func193 rfl (by kernel_rfl) rfl (fun H _ => ?_)
  have hv0 := hv0.up (S' := Low H.n) (H' := H)
  have hs := hs.up (S' := Low H.n) (H' := H)
  refine KW.callN1 rfl rfl rfl rfl rfl (l03Copy hB hv0 hs) (fun v HC SC mC _ _ hC => ?_)
  have hvC := hv0.up (S' := SC) (H' := HC)
  rcases hC with ⟨hL0, rfl⟩ | ⟨hL0, wC, rfl, o, cs0, V, rfl, ho, hom, hV, hb0⟩
  · subst hL0
    refine KW.ldF 0 hvC rfl rfl rfl rfl rfl rfl rfl rfl rfl ?_
    refine KW.lit rfl rfl rfl rfl rfl rfl rfl rfl rfl rfl [] rfl rfl (fun v hv => by simp at hv) rfl ?_
    refine KW.lp rfl rfl (fun _ : Unit => [(0, .pointer (some ⟨id, kk, none⟩)), (2, .pointer (some ⟨H.n, 0, some 0⟩)), (4, .pointer (some ⟨HC.n, 0, some 1⟩)), (5, .int .i64 p), (6, .slice (some ⟨HC.n + 1, 0, some 1⟩) 0 0), (7, .int .i64 0), (8, .int .i64 0)]) (fun _ => True) (fun _ => 0) (()) (trivial) ⟨rfl, rfl, rfl, rfl, rfl, rfl, rfl, trivial⟩ (fun _ hi bE n => ?_)
    refine KW.ldF 1 (hv0.up (S' := SC) (H' := HC)) rfl rfl rfl rfl rfl rfl rfl rfl rfl ?_
    refine KW.tst rfl rfl (fun h => ?_) (fun h => ?_)
    all_goals
      refine KW.cF rfl rfl (by first | (simp; done) | decide) ?_
      refine KW.pure rfl rfl rfl rfl rfl (.slice none 0 0) rfl ?_
      refine KW.retM1 rfl rfl rfl rfl (fun H1 g => ?_)
      rw [ech_nil]
      exact ⟨_, _, _, _, rfl, .inl ⟨rfl, _, _, rfl, fun _ => rfl⟩, .inl ⟨rfl, _, _, rfl, fun h => by cases h⟩⟩
  have oS := (inferInstance : On (New (H.n + 1) HC.n) HC SC HC).st
  refine KW.thaw o ⟨_, true, cs0⟩ (oS o ho).1 hom ?_
  haveI oH : On (Low H.n) H (fun id => SC id ∧ id ≠ o) HC := On.thaw (fun id hid => by have : id < H.n := hid; have := ho.1; omega)
  have hb1 : RowsB KI.ml (fun id => SC id ∧ id ≠ o) HC V L cs0 := hb0.on (fun id hid => ⟨⟨(oS id (hV id hid).1).1, (hV id hid).2⟩, rfl⟩)
  have hVl : ∀ id, V id → H.n ≤ id := fun id hid => by have := (hV id hid).1.1; omega
  refine KW.ldF 0 (hv0.up (S' := fun id => SC id ∧ id ≠ o) (H' := HC)) rfl rfl rfl rfl rfl rfl rfl rfl rfl ?_
  refine KW.lit rfl rfl rfl rfl rfl rfl rfl rfl rfl rfl [] rfl rfl (fun v hv => by simp at hv) rfl ?_
  refine KW.lpM rfl rfl (fun s : EcS => [(0, .pointer (some ⟨id, kk, none⟩)), (2, .pointer (some ⟨H.n, 0, some 0⟩)), (4, .pointer (some ⟨HC.n, 0, some 2⟩)), (5, .int .i64 p), (6, .slice (some ⟨s.po, 0, some 1⟩) (ech p L s.c).2.length (ech p L s.c).2.length), (7, .int .i64 (ech p L s.c).2.length), (8, .int .i64 s.c)]) (fun s => s.S) (fun s => s.A) (fun s => [(H.n, ⟨28, true, [.int .i64 0, .int .i64 0, .slice none 0 0]⟩), (o, ⟨32, true, s.cs⟩), (HC.n, ⟨28, true, [.int .i64 p, .int .i64 k, .slice (some ⟨o, 0, some 1⟩) L.length L.length]⟩), (s.po, ⟨_, true, (ech p L s.c).2.map fun (i : Nat) => Value.int .i64 i⟩)]) (fun s => EcI p k L H V s) (fun s => k - s.c) (⟨0, _, HC, cs0, _⟩) (⟨Nat.zero_le _, oH.st, hb1⟩) ⟨rfl, rfl, rfl, rfl, rfl, rfl, rfl, trivial⟩ rfl rfl rfl (fun s hi bE n => ?_)
  obtain ⟨ci, S1, A1, cs, po⟩ := s
  obtain ⟨hle, hold, hb⟩ := hi
  simp only at hle hold hb
  have hoc := hok ci
  haveI oc : Stp (Low H.n) H S1 A1 := ⟨hold⟩
  obtain ⟨q, hn⟩ : ∃ q, (ech p L ci).2.length = q := ⟨_, rfl⟩
  obtain ⟨M, hM⟩ : ∃ M, (ech p L ci).1 = M := ⟨_, rfl⟩
  rw [hM] at hb
  have hcs := hb.len
  have hMl : M.length = L.length := by rw [← hM]; exact hoc.2.1
  have hMr : Rect p k M := by rw [← hM]; exact hoc.1
  have hnL : q ≤ L.length := by rw [← hn]; exact hoc.2.2.1
  have hv1 := hv0.up (S' := S1) (H' := A1)
  refine KW.ldF 1 hv1 rfl rfl rfl rfl rfl rfl rfl rfl rfl ?_
  refine KW.tst rfl rfl (fun h => ?_) (fun h => ?_)
  · have h : (ci : Int) < k := h
    refine KW.cnd rfl rfl (fun h2 => ?_) (fun h2 => ?_)
    · have h2 : ((ech p L ci).2.length : Int) < L.length := h2
      have e5 : Value.slice (some ⟨po, 0, some 1⟩) (ech p L ci).2.length (ech p L ci).2.length = Value.slice (some ⟨po, 0, some 1⟩) q q := by rw [hn]
      have e7 : Value.int .i64 ((ech p L ci).2.length : Nat) = Value.int .i64 q := by rw [hn]
      have hqL : q < L.length := by omega
      refine KW.lp rfl rfl (fun r : Nat => [(0, .pointer (some ⟨id, kk, none⟩)), (2, .pointer (some ⟨H.n, 0, some 0⟩)), (4, .pointer (some ⟨HC.n, 0, some 2⟩)), (5, .int .i64 p), (6, .slice (some ⟨po, 0, some 1⟩) q q), (7, .int .i64 q), (8, .int .i64 ci), (9, .int .i64 r)]) (fun r => q ≤ r ∧ r ≤ L.length ∧ nz M ci r = nz M ci q) (fun r => L.length - r) (q) (⟨Nat.le_refl _, hnL, rfl⟩) ⟨rfl, rfl, rfl, rfl, e5, e7, rfl, e7, trivial⟩ (fun r hi bE n => ?_)
      obtain ⟨hr1, hr2, hr3⟩ := hi
      refine KW.tst rfl rfl (fun h1 => ?_) (fun h1 => ?_)
      · have h1 : (r : Int) < L.length := h1
        obtain ⟨w, hw⟩ : ∃ w, M[r]? = some w := ⟨M[r]'(by omega), List.getElem?_eq_getElem (by omega)⟩
        obtain ⟨v, W, hv, hm, hWV, _, _⟩ := hb.row1 hw
        obtain ⟨ra, rc, rfl⟩ := hm.form
        have hwk := hMr.at hw
        refine KW.idx0 rfl rfl rfl rfl rfl rfl rfl rfl rfl (by omega) (h1) ?_
        refine KW.ldT 1 rfl rfl rfl rfl rfl rfl (bload_at (cell0 hv) rfl rfl) ?_
        refine KW.getI ((hm.sl.more (fun id hid => hb.sub id (hWV id hid)))) rfl rfl rfl rfl rfl rfl rfl rfl rfl rfl rfl rfl rfl rfl rfl rfl (by omega) (by omega) (fun x hx => ?_)
        have hx : w[ci]? = some x := hx
        refine KW.cnd rfl rfl (fun k2 => ?_) (fun k2 => ?_)
        · have k2 : x = 0 := k2
          refine KW.nxt rfl rfl (fun H' g => ⟨r + 1, ⟨by omega, by omega, by rw [nz_step hw (by rw [List.getD_eq_getElem?_getD, hx]; exact k2)]; exact hr3⟩, by first | omega | (simp only; omega), ⟨rfl, rfl, rfl, rfl, rfl, rfl, rfl, congrArg (Value.int .i64) (inc64 (by omega)), trivial⟩, g⟩)
        · have k2 : ¬ x = 0 := k2
          refine KW.no rfl rfl (by omega) ?_
          have e1 : nz M ci q = r := by rw [← hr3]; exact nz_stop hw (by rw [List.getD_eq_getElem?_getD, hx]; exact k2)
          have hrL : r < L.length := by omega
          obtain ⟨wn, hwn⟩ : ∃ w, M[q]? = some w := ⟨M[q]'(by omega), List.getElem?_eq_getElem (by omega)⟩
          obtain ⟨vn, Wn, hvn, hmn, _, _, _⟩ := hb.row1 hwn
          obtain ⟨na, nc, rfl⟩ := hmn.form
          refine KW.idx0 rfl rfl rfl rfl rfl rfl rfl rfl rfl (by omega) (by omega) ?_
          refine KW.ldT 1 rfl rfl rfl rfl rfl rfl (bload_at (cell0 hv) rfl rfl) ?_
          refine KW.idx0 rfl rfl rfl rfl rfl rfl rfl rfl rfl (by omega) (by omega) ?_
          refine KW.ldT 1 rfl rfl rfl rfl rfl rfl (bload_at (cell0 hvn) rfl rfl) ?_
          refine KW.idx0 rfl rfl rfl rfl rfl rfl rfl rfl rfl (by omega) (by omega) ?_
          refine KW.st1 1 rfl rfl rfl rfl rfl rfl rfl rfl rfl rfl rfl rfl (by simp only; omega) ?_
          refine KW.idx0 rfl rfl rfl rfl rfl rfl rfl rfl rfl (by omega) (by omega) ?_
          refine KW.st1 1 rfl rfl rfl rfl rfl rfl rfl rfl rfl rfl rfl rfl (by simp only [List.length_set]; omega) ?_
          obtain ⟨cs1, hcs1⟩ : ∃ cs1, (cs.set (0 + r * 1) (.slice na wn.length nc)).set (0 + q * 1) (.slice ra w.length rc) = cs1 := ⟨_, rfl⟩
          have hcsq : cs1[q]? = some (.slice ra w.length rc) := by
            rw [← hcs1, Nat.zero_add, Nat.zero_add, Nat.mul_one, Nat.mul_one, List.getElem?_set_self (by rw [List.length_set]; omega)]
          have hb2 : RowsB KI.ml S1 A1 V (sw M q r) cs1 := by
            rw [← hcs1, Nat.zero_add, Nat.zero_add, Nat.mul_one, Nat.mul_one, sets_comm hvn hv]
            exact hb.swap (by omega) (by omega) hvn hv
          have hM1 : Rect p k (sw M q r) := hMr.sw (by omega) (by omega)
          have hw1 : (sw M q r)[q]? = some w := sw_at (by omega) hw
          have hw1d : (sw M q r).getD q [] = w := by rw [List.getD_eq_getElem?_getD, hw1]; rfl
          obtain ⟨v1, W1, hv1q, hm1, hW1, _, hset⟩ := hb2.row1 hw1
          rw [hcsq] at hv1q
          cases hv1q
          have hsub1 : ∀ id, W1 id → S1 id := fun id hid => hb2.sub id (hW1 id hid)
          refine KW.getI ((hm1.sl.more hsub1)) rfl rfl rfl rfl rfl rfl rfl rfl rfl rfl rfl rfl rfl rfl rfl rfl (by omega) (by omega) (fun x1 hx1 => ?_)
          have hx1 : w[ci]? = some x1 := hx1
          have hx1k := hwk.2 x1 (List.mem_of_getElem? hx1)
          refine KW.callE rfl rfl rfl rfl rfl (l03Inverse p x1 hp hx1k) (fun _ _ => ?_)
          have hpk := pw_ok (a := x1) hp.1 (p - 2).toNat
          refine KW.callW hsub1 rfl rfl rfl rfl rfl (l03Times hp hpk (by omega) hwk.2 hsub1 hm1) (fun v2 H2 S2 hn2 st2 hw2 hv2 => ?_)
          obtain ⟨ld, hld⟩ : ∃ ld, sc p (pw p x1 (p - 2).toNat) w = ld := ⟨_, rfl⟩
          have hlead : lead p M ci q = ld := by
            unfold lead
            rw [e1, hw1d, ← hld, List.getD_eq_getElem?_getD, hx1]
            rfl
          have hldk : ld.length = k ∧ ∀ x ∈ ld, 0 ≤ x ∧ x < p := by rw [← hld]; exact sc_ok (by omega) hwk
          have hb3 := hset S2 H2 _ st2 hv2
          rw [hld] at hb3
          have hold2 : St (Low H.n) H S2 H2 := fun id hid => ⟨(st2 id (hold id hid).1).1, by rw [(st2 id (hold id hid).1).2 (fun hw => by have := hVl id (hW1 id hw); have : id < H.n := hid; omega)]; exact (hold id hid).2⟩
          obtain ⟨M2, hM2⟩ : ∃ M2, (sw M q r).set q ld = M2 := ⟨_, rfl⟩
          rw [hM2] at hb3
          have hM2l : M2.length = L.length := by rw [← hM2, List.length_set, sw_len]; exact hMl
          have hM2r : Rect p k M2 := by rw [← hM2]; exact hM1.set hldk
          have hM2q : M2[q]? = some ld := by rw [← hM2, List.getElem?_set_self (by rw [sw_len]; omega)]
          refine KW.lpM rfl rfl (fun s : (Nat × Ids × AH) => [(0, .pointer (some ⟨id, kk, none⟩)), (2, .pointer (some ⟨H.n, 0, some 0⟩)), (4, .pointer (some ⟨HC.n, 0, some 2⟩)), (5, .int .i64 p), (6, .slice (some ⟨po, 0, some 1⟩) q q), (7, .int .i64 q), (8, .int .i64 ci), (10, .slice ra w.length rc), (11, .int .i64 s.1)]) (fun s => s.2.1) (fun s => s.2.2) (fun s => [(H.n, ⟨28, true, [.int .i64 0, .int .i64 0, .slice none 0 0]⟩), (o, ⟨32, true, (cs.set (0 + r * 1) (.slice na wn.length nc)).set (0 + q * 1) (.slice ra w.length rc)⟩), (HC.n, ⟨28, true, [.int .i64 p, .int .i64 k, .slice (some ⟨o, 0, some 1⟩) L.length L.length]⟩), (po, ⟨_, true, (ech p L ci).2.map fun (i : Nat) => Value.int .i64 i⟩)]) (fun s => s.1 ≤ L.length ∧ St (Low H.n) H s.2.1 s.2.2 ∧ RowsB KI.ml s.2.1 s.2.2 V (tks p ci q ld M2 s.1) cs1) (fun s => L.length - s.1) ((0, S2, H2)) (⟨Nat.zero_le _, hold2, by simp only [tks_zero]; exact hb3⟩) ⟨rfl, rfl, rfl, rfl, rfl, rfl, rfl, rfl, rfl, trivial⟩ rfl rfl rfl (fun s hi bE n => ?_)
          obtain ⟨i, S3, A3⟩ := s
          obtain ⟨hi1, hold3, hb4⟩ := hi
          simp only at hi1 hold3 hb4
          haveI oc3 : Stp (Low H.n) H S3 A3 := ⟨hold3⟩
          refine KW.cnd rfl rfl (fun h3 => ?_) (fun h3 => ?_)
          · have h3 : (i : Int) < L.length := h3
            obtain ⟨wi, hwi⟩ : ∃ w, M2[i]? = some w := ⟨M2[i]'(by omega), List.getElem?_eq_getElem (by omega)⟩
            have hwik := hM2r.at hwi
            obtain ⟨vi, Wi, hvi, hmi, hWi, hoth, hseti⟩ := hb4.row1 ((tks_old (.inl (Nat.le_refl i))).trans hwi)
            obtain ⟨ai, ic, rfl⟩ := hmi.form
            rw [← hcs1] at hvi
            have hsubi : ∀ id, Wi id → S3 id := fun id hid => hb4.sub id (hWi id hid)
            refine KW.tstB rfl rfl (fun h4 => ?_) (fun h4 => ?_)
            · have h4 : i ≠ q := by simp at h4; omega
              refine KW.idx0 rfl rfl rfl rfl rfl rfl rfl rfl rfl (by omega) (h3) ?_
              refine KW.ldT 1 rfl rfl rfl rfl rfl rfl (bload_at (cell0 hvi) rfl rfl) ?_
              refine KW.getI ((hmi.sl.more hsubi)) rfl rfl rfl rfl rfl rfl rfl rfl rfl rfl rfl rfl rfl rfl rfl rfl (by omega) (by omega) (fun xi hxi => ?_)
              have hxi : wi[ci]? = some xi := hxi
              have hxik := hwik.2 xi (List.mem_of_getElem? hxi)
              have hgx : wi.getD ci 0 = xi := by rw [List.getD_eq_getElem?_getD, hxi]; rfl
              refine KW.cndB rfl rfl (fun h5 => ?_) (fun h5 => ?_)
              · obtain ⟨vq, Xq, hvq, hmq, hXq⟩ := hoth q ld (Ne.symm h4) ((tks_old (.inr rfl)).trans hM2q)
                rw [hcsq] at hvq
                cases hvq
                have hwl : w.length = ld.length := by omega
                rw [hwl] at hmq
                have ez : IntKind.i64.wrap (p - xi) = p - xi := wr (by omega) (by omega)
                have hadd := l03Add (S := S3) (H0 := A3) (W := Wi) (X := Xq) (p := p) (t := xi) (z := IntKind.i64.wrap (p - xi)) (xs := wi) hp hxik ez (by omega) hldk.2 (fun id hid => ⟨hb4.sub id (hXq id hid).1, (hXq id hid).2⟩) hmq.sl (by omega) hwik.2 hsubi hmi
                rw [← hwl] at hadd
                refine KW.idx0 rfl rfl rfl rfl rfl rfl rfl rfl rfl (by omega) (h3) ?_
                refine KW.ldT 1 rfl rfl rfl rfl rfl rfl (bload_at (cell0 hvi) rfl rfl) ?_
                refine KW.idx0 rfl rfl rfl rfl rfl rfl rfl rfl rfl (by omega) (h3) ?_
                refine KW.ldT 1 rfl rfl rfl rfl rfl rfl (bload_at (cell0 hvi) rfl rfl) ?_
                refine KW.getI ((hmi.sl.more hsubi)) rfl rfl rfl rfl rfl rfl rfl rfl rfl rfl rfl rfl rfl rfl rfl rfl (by omega) (by omega) (fun xj hxj => ?_)
                obtain rfl : xj = xi := by have hxj : wi[ci]? = some xj := hxj; rw [hxi] at hxj; cases hxj; rfl
                refine KW.callW hsubi rfl rfl rfl rfl rfl hadd (fun v5 H5 S5 hn5 st5 hw5 hv5 => ?_)
                have hb5 := hseti S5 H5 _ st5 hv5
                have hold5 : St (Low H.n) H S5 H5 := fun id hid => ⟨(st5 id (hold3 id hid).1).1, by rw [(st5 id (hold3 id hid).1).2 (fun hw => by have := hVl id (hWi id hw); have : id < H.n := hid; omega)]; exact (hold3 id hid).2⟩
                have et := tks_next (p := p) (c := ci) (r := ld) h4 hwi
                rw [hgx] at et
                rw [← et] at hb5
                refine KW.nxt rfl rfl (fun H' g => ⟨(i + 1, S5, H5), ⟨by simp only; omega, hold5, hb5⟩, by first | omega | (simp only; omega), ⟨rfl, rfl, rfl, rfl, rfl, rfl, rfl, rfl, congrArg (Value.int .i64) (inc64 (by omega)), trivial⟩, g⟩)
              · have h5 : xi = 0 := by simpa using h5
                have et := tks_same (p := p) (c := ci) (r := ld) h4 hwi (by rw [hgx]; exact h5) (by omega) hwik.2
                rw [← et] at hb4
                refine KW.nxt rfl rfl (fun H' g => ⟨(i + 1, S3, A3), ⟨by simp only; omega, hold3, hb4⟩, by first | omega | (simp only; omega), ⟨rfl, rfl, rfl, rfl, rfl, rfl, rfl, rfl, congrArg (Value.int .i64) (inc64 (by omega)), trivial⟩, g⟩)
            · have h4 : i = q := by simp at h4; omega
              subst h4
              rw [← tks_skip] at hb4
              refine KW.cF rfl rfl (by first | (simp; done) | decide) ?_
              refine KW.nxt rfl rfl (fun H' g => ⟨(i + 1, S3, A3), ⟨by simp only; omega, hold3, hb4⟩, by first | omega | (simp only; omega), ⟨rfl, rfl, rfl, rfl, rfl, rfl, rfl, rfl, congrArg (Value.int .i64) (inc64 (by omega)), trivial⟩, g⟩)
          · have h3 : ¬ (i : Int) < L.length := h3
            have hiL : i = L.length := by omega
            have eE : ech p L (ci + 1) = (tks p ci q ld M2 L.length, (ech p L ci).2 ++ [ci]) := by
              rw [ech_some (by rw [hM, hn, e1]; omega), hM, hn, hlead, e1, hM2, hMl]
            have e8 : ∀ x : Nat, Value.slice (some ⟨x, 0, some 1⟩) (q + 1) (q + 1) = Value.slice (some ⟨x, 0, some 1⟩) (ech p L (ci + 1)).2.length (ech p L (ci + 1)).2.length := fun x => by rw [eE]; simp [hn]
            have e9 : Value.int .i64 (IntKind.i64.wrap ((q : Int) + 1)) = Value.int .i64 ((ech p L (ci + 1)).2.length : Nat) := by rw [eE]; simp [hn]; rw [wr (by omega) (by omega)]
            rw [← hcs1] at hb4
            refine KW.app1 (xs := (ech p L ci).2.map fun (i : Nat) => Value.int .i64 i) (v := .int .i64 ci) 3 4 rfl rfl rfl rfl rfl rfl rfl rfl rfl rfl rfl rfl rfl rfl rfl rfl rfl rfl rfl rfl rfl rfl rfl (by simp [hn]) (by show (_ + 1) * 8 ≤ _; omega) (by first | omega | (simp only; omega)) ?_
            refine KW.nxt rfl rfl (fun H' g => ⟨⟨ci + 1, S3, A3, _, _⟩, ⟨by simp only; omega, hold3, by simp only; rw [eE, ← hiL]; exact hb4⟩, by first | omega | (simp only; omega), ⟨rfl, rfl, rfl, rfl, e8 _, e9, congrArg (Value.int .i64) (inc64 (by omega)), trivial⟩, g.eqT (by simp only [eE, List.map_append]; rfl)⟩)
      · have h1 : ¬ (r : Int) < L.length := h1
        refine KW.cF rfl rfl (by first | (simp; done) | decide) ?_
        refine KW.yes rfl rfl (by omega) ?_
        have e1 : nz (ech p L ci).1 ci (ech p L ci).2.length = (ech p L ci).1.length := by rw [hM, hn, ← hr3, nz_end (by omega)]; omega
        have e2 := ech_none e1
        have e3 : Value.slice (some ⟨po, 0, some 1⟩) q q = Value.slice (some ⟨po, 0, some 1⟩) (ech p L (ci + 1)).2.length (ech p L (ci + 1)).2.length := by rw [e2, hn]
        have e4 : Value.int .i64 q = Value.int .i64 ((ech p L (ci + 1)).2.length : Nat) := by rw [e2, hn]
        refine KW.nxt rfl rfl (fun H' g => ⟨⟨ci + 1, S1, A1, cs, po⟩, ⟨by simp only; omega, hold, by simp only; rw [e2, hM]; exact hb⟩, by first | omega | (simp only; omega), ⟨rfl, rfl, rfl, rfl, e3, e4, congrArg (Value.int .i64) (inc64 (by omega)), trivial⟩, g.eqT (by simp only [e2])⟩)
    · have hqe : (ech p L ci).2.length = L.length := by have h2 : ¬ ((ech p L ci).2.length : Int) < L.length := h2; omega
      have fin : ech p L k = ech p L ci := by
        have := ech_full (p := p) (L := L) (c := ci) hqe hoc.2.1 (k - ci)
        rw [show ci + (k - ci) = k by omega] at this
        exact this
      refine KW.slTo (m := (ech p L ci).2.length) rfl rfl rfl rfl rfl rfl rfl rfl rfl (by omega) ?_
      refine KW.retM1 rfl rfl rfl rfl (fun H1 g => ?_)
      rw [fin]
      have hno := g.n_
      have hbo := g.blk (j := 1) rfl
      have hbp := g.blk (j := 3) rfl
      have hpo := g.ge (H1 := H) (j := 3) rfl
      refine ⟨_, _, _, _, rfl, ?_, ?_⟩
      · rw [hM]
        exact hb.mlTo g (j := 1) rfl ⟨by have := ho.1; omega, hbo.2⟩ (fun id hid => ⟨hVl id hid, by have := (g.froz id (hb.sub id hid)).1; omega⟩) (by omega) (by omega)
      · have el : ((ech p L ci).2.map fun (i : Nat) => (i : Int)).length = (ech p L ci).2.length := by simp
        have := mlI_of (ik := .i64) (X := New H.n H1.n) (c := (ech p L ci).2.length) (ys := (ech p L ci).2.map fun (i : Nat) => (i : Int)) ⟨hpo, hbp.2⟩ hbp.1 rfl (by rw [el]; exact Nat.le_refl _) (by simp) (fun j x hx => by
          rw [List.getElem?_map] at hx ⊢
          cases hj : (ech p L ci).2[j]? with
          | none => rw [hj] at hx; cases hx
          | some z => rw [hj] at hx; cases hx; rfl)
        rw [el] at this
        exact this
  · have hck : ci = k := by have h : ¬ (ci : Int) < k := h; omega
    have fin : ech p L k = ech p L ci := by rw [hck]
    refine KW.cF rfl rfl (by first | (simp; done) | decide) ?_
    refine KW.slTo (m := (ech p L ci).2.length) rfl rfl rfl rfl rfl rfl rfl rfl rfl (by omega) ?_
    refine KW.retM1 rfl rfl rfl rfl (fun H1 g => ?_)
    rw [fin]
    have hno := g.n_
    have hbo := g.blk (j := 1) rfl
    have hbp := g.blk (j := 3) rfl
    have hpo := g.ge (H1 := H) (j := 3) rfl
    refine ⟨_, _, _, _, rfl, ?_, ?_⟩
    · rw [hM]
      exact hb.mlTo g (j := 1) rfl ⟨by have := ho.1; omega, hbo.2⟩ (fun id hid => ⟨hVl id hid, by have := (g.froz id (hb.sub id hid)).1; omega⟩) (by omega) (by omega)
    · have el : ((ech p L ci).2.map fun (i : Nat) => (i : Int)).length = (ech p L ci).2.length := by simp
      have := mlI_of (ik := .i64) (X := New H.n H1.n) (c := (ech p L ci).2.length) (ys := (ech p L ci).2.map fun (i : Nat) => (i : Int)) ⟨hpo, hbp.2⟩ hbp.1 rfl (by rw [el]; exact Nat.le_refl _) (by simp) (fun j x hx => by
        rw [List.getElem?_map] at hx ⊢
        cases hj : (ech p L ci).2[j]? with
        | none => rw [hj] at hx; cases hx
        | some z => rw [hj] at hx; cases hx; rfl)
      rw [el] at this
      exact this
end
end Go.Proofs.Ytmkpfllbmdahkaa.Am
/- Contracts: the rank of the reference; what both answer. Each holds under its own conditions. -/
set_option linter.unusedVariables false
set_option linter.unusedSimpArgs false
set_option maxRecDepth 20000
namespace Go.Proofs.Ytmkpfllbmdahkaa.Am
open Go Go.RowKit Go.Proofs Go.Proofs.Ytmkpfllbmdahkaa.Pl
noncomputable def r0_RankOf (y : T_Matrix) : Int := if tv (OkMat y.1 y.2.1 y.2.2) then rkM y.1 y.2.1 y.2.2 else 0
noncomputable def r1_RankOf (y : T_Matrix) : Int := if tv (OkMat y.1 y.2.1 y.2.2) then 0 else 1
theorem Good.has3 {S0 : Ids} {H0 H1 : AH} {T : List Var} {n j id : Nat} {ty : TypeId} {rw : Bool} {vs : List Value} (g : Good S0 H0 T n H1) (hj : T[j]? = some (id, ⟨ty, rw, vs⟩)) : Has3 (Low H1.n) H1 id 0 vs := ⟨(g.blk hj).2, _, (g.blk hj).1, fun i v h => by simpa using h⟩
section
variable {S : Ids} {H0 : AH}
theorem l03Rank {p : Int} {k : Nat} (hp : 2 ≤ p ∧ p ≤ 31) (hk : k ≤ 1000) {L : List (List Int)} (hB : B_Int64SS L) (hL : Rect p k L) {id kk : Nat} {a c} (hv0 : Has3 S H0 id kk [.int .i64 p, .int .i64 k, .slice a L.length c]) (hs : KI.sl.Sl S H0 (.slice a L.length c) L) : SpecM Try.prog S H0 101 [.pointer (some ⟨id, kk, none⟩)] (fun _ v _ => v = .int .i64 (rkM p k L)) := by
  refine SpecM.of1 Try.func101 rfl (by kernel_rfl) rfl (fun H _ => ?_)
  refine KW.callN1 rfl rfl rfl rfl rfl (l03Echelon hp hk hB hL (hv0.up (S' := Low H.n) (H' := H)) hs.up) (fun v HC SC mC _ _ hv => ?_)
  obtain ⟨a1, c1, a2, c2, rfl, _, _⟩ := hv
  refine KW.retM1 rfl rfl rfl rfl (fun H1 g => rfl)
theorem spec_RankOf' {p c : Int} (hp : I64 p) {L : List (List Int)} (hB : B_Int64SS L) {a m} (hs : KI.sl.Sl S H0 (.slice a L.length m) L) : SpecM Try.prog S H0 16 [.agg #[.int .i64 p, .int .i64 c, .slice a L.length m]] (fun _ v _ => v = .tuple #[.int .i64 (if tv (OkMat p c L) then rkM p c L else 0), .int .i64 (if tv (OkMat p c L) then 0 else 1)]) := by
  refine SpecM.of1 Try.func16 rfl (by kernel_rfl) rfl (fun H _ => ?_)
  refine KW.callV1 rfl rfl rfl rfl rfl (fun H1 g _ => l03Ok (S := Low H1.n) (H0 := H1) p c hp hB (g.has3 (j := 0) rfl) hs.up) (fun _ _ => ?_)
  by_cases hM : OkMat p c L
  · rw [tv_true hM]
    obtain ⟨k, hk⟩ : ∃ k : Nat, c = k := ⟨c.toNat, by have := hM.c0; omega⟩
    subst hk
    have h2 := hM.pr
    refine KW.cF rfl rfl (by first | (simp; done) | decide) ?_
    refine KW.callNV1 rfl rfl rfl rfl rfl (fun H1 g _ => l03Rank (S := Low H1.n) (H0 := H1) ⟨h2.1, h2.2.1⟩ (by have := hM.c1; omega) hB (hM.rect rfl) (g.has3 (j := 0) rfl) hs.up) (fun v HC SC mC _ _ hv => ?_)
    obtain rfl := hv
    refine KW.retM1 rfl rfl rfl rfl (fun H1 g => rfl)
  · rw [tv_false hM]
    refine KW.cT rfl rfl (by first | (simp; done) | decide) ?_
    refine KW.retM1 rfl rfl rfl rfl (fun H1 g => rfl)
end
end Go.Proofs.Ytmkpfllbmdahkaa.Am
/- Contracts: rows chosen by indices; the matrix of what a group holds. Each holds under its own conditions. -/
set_option linter.unusedVariables false
set_option linter.unusedSimpArgs false
set_option maxRecDepth 20000
namespace Go.Proofs.Ytmkpfllbmdahkaa.Am
open Go Go.RowKit Go.Proofs Go.Proofs.Ytmkpfllbmdahkaa.Pl
/-- The rows with some indices. -/
def selR (L : List (List Int)) (R : List Int) : List (List Int) := R.map fun i => L.getD i.toNat []
theorem selR_len {L : List (List Int)} {R : List Int} : (selR L R).length = R.length := by simp [selR]
theorem selR_mem {L : List (List Int)} {R : List Int} (hR : ∀ x ∈ R, 0 ≤ x ∧ x < L.length) {r : List Int} (h : r ∈ selR L R) : r ∈ L := by
  obtain ⟨i, hi, rfl⟩ := List.mem_map.1 h
  have := hR i hi
  rw [List.getD_eq_getElem?_getD, List.getElem?_eq_getElem (by omega)]
  exact List.getElem_mem _
/-- A matrix that has been made, to be read. -/
def MkMx (p c : Int) (xs : List (List Int)) (n : Nat) (v : Value) (H1 : AH) : Prop := ∃ a m, v = .agg #[.int .i64 p, .int .i64 c, .slice a xs.length m] ∧ KI.sl.Sl (New n H1.n) H1 (.slice a xs.length m) xs
structure CqI {α : Type} (f : α → List Int) (xs : List α) (H HB : AH) (SB : Ids) (s : CpS) : Prop where
  rw : RwI f xs H SB HB ⟨s.i, s.S, s.A, s.V, s.cs, 0⟩
  form : (s.i = 0 ∧ s.l = .slice none 0 0 ∧ s.tail = [] ∧ s.cs = []) ∨ (0 < s.i ∧ ∃ o, s.l = .slice (some ⟨o, 0, some 1⟩) s.i s.i ∧ s.tail = [(o, ⟨32, true, s.cs⟩)])
section
variable {S : Ids} {H0 : AH}
theorem rowsAt {p c : Int} {a1 c1 a2 c2} {L : List (List Int)} {R : List Int} (hB : B_Int64SS L) (hR : ∀ x ∈ R, 0 ≤ x ∧ x < L.length) (hRl : R.length ≤ 1048576) (hs : KI.sl.Sl S H0 (.slice a1 L.length c1) L) (hr : KI.Sl S H0 (.slice a2 R.length c2) R) : SpecM Try.prog S H0 200 [.agg #[.int .i64 p, .int .i64 c, .slice a1 L.length c1], .slice a2 R.length c2] (MkMx p c (selR L R)) := by
  refine SpecM.of1 Try.func200 rfl (by kernel_rfl) rfl (fun H _ => ?_)
  have hs := hs.up (S' := Low H.n) (H' := H)
  have hr := hr.up (S' := Low H.n) (H' := H)
  refine KW.build rfl rfl rfl rfl rfl (built_Matrix2 _ _) ?_
  refine KW.lpM rfl rfl (fun s : CpS => [(2, .pointer (some ⟨H.n, 0, some 0⟩)), (4, .pointer (some ⟨H.n + 1, 0, some 1⟩)), (5, .pointer (some ⟨H.n + 2, 0, some 2⟩)), (13, .slice a2 R.length c2), (14, .int .i64 R.length), (15, .int .i64 s.i)]) (fun s => s.S) (fun s => s.A) (fun s => [(H.n, ⟨28, true, [.int .i64 p, .int .i64 c, .slice a1 L.length c1]⟩), (H.n + 1, ⟨28, true, [.int .i64 0, .int .i64 0, .slice none 0 0]⟩), (H.n + 2, ⟨28, true, [.int .i64 p, .int .i64 c, s.l]⟩)] ++ s.tail) (fun s => CqI (fun (i : Int) => L.getD i.toNat []) R H H (Low H.n) s) (fun s => R.length - s.i) (⟨0, Low H.n, H, fun _ => False, [], .slice none 0 0, []⟩) (⟨RwI.start, .inl ⟨rfl, rfl, rfl, rfl⟩⟩) ⟨rfl, rfl, rfl, rfl, rfl, rfl, trivial⟩ rfl rfl rfl (fun s hi bE n => ?_)
  obtain ⟨i, S1, A1, V, cs, l, tail⟩ := s
  obtain ⟨hq, hform⟩ := hi
  simp only at hq hform
  haveI : Stp (Low H.n) H S1 A1 := ⟨hq.old⟩
  have hle := hq.le
  have hcl := hq.b.len
  rw [List.length_map, List.length_take] at hcl
  simp only at hle hcl
  have hs1 := hs.up (S' := S1) (H' := A1)
  have hr1 := hr.up (S' := S1) (H' := A1)
  rcases hform with ⟨hi0, e1, e2, e3⟩ | ⟨hi0, o, e1, e2⟩
  case' inl => subst e1 e2 e3
  case' inr => subst e1 e2
  all_goals
    refine KW.cnd rfl rfl (fun j1 => ?gin) (fun j1 => ?gout)
    case gin =>
      have j1 : (i : Int) < R.length := j1
      refine KW.getI hr1 rfl rfl rfl rfl rfl rfl rfl rfl rfl rfl rfl rfl rfl rfl rfl rfl (by omega) (j1) (fun x hx => ?_)
      have hx : R[i]? = some x := hx
      have hxb := hR x (List.mem_of_getElem? hx)
      refine KW.getL hs1 rfl rfl rfl rfl rfl rfl rfl rfl rfl rfl rfl rfl rfl rfl rfl rfl (hxb.1) (hxb.2) (fun y ay cy hy hsy => ?_)
      have hyl := hB.each y (List.mem_of_getElem? hy)
      have hyd : L.getD x.toNat [] = y := by rw [List.getD_eq_getElem?_getD, hy]; rfl
      refine KW.ids (fun hlow hvar => ?_)
      have hnA := (hvar 2 (H.n + 2) _ rfl).1
      refine KW.callN1 rfl rfl rfl rfl rfl (cloneI hyl hsy) (fun v HC SC mC _ _ hv => ?_)
      obtain ⟨a5, c5, rfl, hC⟩ := hv
      rw [← hyd] at hC ⊢
      first
        | (refine KW.app0 (v := .slice a5 (L.getD x.toNat []).length c5) 3 rfl rfl rfl rfl rfl rfl rfl rfl rfl rfl rfl rfl rfl rfl rfl rfl rfl rfl rfl rfl rfl rfl (by decide) ?_
           subst hi0
           exact KW.nxt rfl rfl (fun H' g => ⟨⟨1, SC, HC, _, _, _, _⟩, ⟨hq.next (o' := 0) (inferInstance : Stp S1 A1 SC HC).st inferInstance hlow (by omega) hx hC, .inr ⟨by simp only; omega, _, rfl, rfl⟩⟩, by simp only; omega, ⟨rfl, rfl, rfl, rfl, rfl, rfl, trivial⟩, g⟩))
        | (refine KW.app1 (xs := cs) (v := .slice a5 (L.getD x.toNat []).length c5) 3 4 rfl rfl rfl rfl rfl rfl rfl rfl rfl rfl rfl rfl rfl rfl rfl rfl rfl rfl rfl rfl rfl rfl rfl (by omega) (by show (_ + 1) * 24 ≤ _; omega) (by omega) ?_
           exact KW.nxt rfl rfl (fun H' g => ⟨⟨i + 1, SC, HC, _, _, _, _⟩, ⟨hq.next (o' := 0) (inferInstance : Stp S1 A1 SC HC).st inferInstance hlow (by omega) hx hC, .inr ⟨by simp only; omega, _, rfl, rfl⟩⟩, by simp only; omega, ⟨rfl, rfl, rfl, rfl, rfl, congrArg (Value.int .i64) (inc64 (by omega)), trivial⟩, g⟩))
    case gout =>
      have j1 : ¬ (i : Int) < R.length := j1
      have he : i = R.length := by omega
      have el : (selR L R).length = R.length := selR_len
      refine KW.retM1 rfl rfl rfl rfl (fun H1 g => ?_)
      first
        | (have h0 : R = [] := List.eq_nil_of_length_eq_zero (by omega)
           subst h0
           exact ⟨none, 0, rfl, .inl ⟨rfl, _, _, rfl, fun _ => rfl⟩⟩)
        | (refine ⟨_, _, by rw [el, he]; rfl, ?_⟩
           have hm := ((⟨hq.le, hq.old, hq.b, hq.v⟩ : RwI (fun (i : Int) => L.getD i.toNat []) R H (Low H.n) H ⟨i, S1, A1, V, cs, o⟩).ml he g (j := 3) rfl (g.ge (H1 := H) (j := 3) rfl)).to (KLe.row (KLe.refl KI))
           rw [el]
           exact hm)
end
end Go.Proofs.Ytmkpfllbmdahkaa.Am
/- Contracts: the matrix of what a group holds, of the program and of the reference. Each holds under its own conditions. -/
set_option linter.unusedVariables false
set_option linter.unusedSimpArgs false
set_option maxRecDepth 20000
namespace Go.Proofs.Ytmkpfllbmdahkaa.Am
open Go Go.RowKit Go.Proofs Go.Proofs.Ytmkpfllbmdahkaa.Pl
theorem rect_sml {p : Int} {k : Nat} {L : List (List Int)} (hL : Rect p k L) (hk : k ≤ 1000) (hl : L.length ≤ 1000) : B_Int64SS L := by
  have h : ∀ M : List (List Int), (∀ r ∈ M, r.length = k) → sum (lens M) = M.length * k := by
    intro M
    induction M with
    | nil => intro _; simp [lens, sum]
    | cons x M ih =>
      intro hM
      have h1 := ih (fun r hr => hM r (List.mem_cons_of_mem _ hr))
      have h2 := hM x List.mem_cons_self
      simp only [lens, List.map_cons, sum] at h1 ⊢
      rw [h1, h2, List.length_cons, Nat.add_mul]
      omega
  have h1 := h L (fun r hr => (hL r hr).1)
  have h2 : L.length * k ≤ 1000 * 1000 := Nat.mul_le_mul hl hk
  exact ⟨by omega, by rw [h1]; omega⟩
/-- The rows of a group, by its number. -/
def heldR (ow : List Int) (rows : List (List Int)) (x : Nat) : List (List Int) := selR rows (rowsP (fun i => x.testBit (ow.getD i 0).toNat) ow.length)
theorem held_in {h p c : Int} {ow : List Int} {rows : List (List Int)} (hk : OkSch h ow p c rows) {q : Nat → Bool} : ∀ x ∈ rowsP q ow.length, 0 ≤ x ∧ x < rows.length := fun x hx => by
  have := rowsP_mem hx
  have := hk.len
  omega
theorem held_rect {h p c : Int} {k : Nat} {ow : List Int} {rows : List (List Int)} (hk : OkSch h ow p c rows) (hc : c = k) {q : Nat → Bool} : Rect p k (selR rows (rowsP q ow.length)) := fun r hr => hk.mat.rect hc r (selR_mem (held_in hk) hr)
theorem held_len {h p c : Int} {ow : List Int} {rows : List (List Int)} (hk : OkSch h ow p c rows) {q : Nat → Bool} : (selR rows (rowsP q ow.length)).length ≤ 20 := by
  rw [selR_len]
  have := rowsP_len q ow.length
  have := hk.len
  have := hk.mat.len
  omega
section
variable {S : Ids} {H0 : AH}
theorem held (h p c : Int) (x : Nat) (hx : x < 4611686018427387904) {a1 c1 a2 c2} {ow : List Int} {rows : List (List Int)} (hO : B_Int64S ow) (hB : B_Int64SS rows) (hk : OkSch h ow p c rows) (ho : KI.Sl S H0 (.slice a1 ow.length c1) ow) (hs : KI.sl.Sl S H0 (.slice a2 rows.length c2) rows) :
    SpecM Try.prog S H0 112 [.agg #[.int .i64 h, .slice a1 ow.length c1, .int .i64 p, .int .i64 c, .slice a2 rows.length c2], .int .u64 (x : Int)] (MkMx p c (heldR ow rows x)) := by
  refine SpecM.of1 Try.func112 rfl (by kernel_rfl) rfl (fun H _ => ?_)
  refine KW.callN1 rfl rfl rfl rfl rfl (rowsHeld h p c x hx hO hk.own hk.h7 ho.up) (fun v HR SR mR _ _ hv => ?_)
  obtain ⟨a5, c5, rfl, hR⟩ := hv
  refine KW.callN1 rfl rfl rfl rfl rfl (rowsAt hB (held_in hk) (by have := rowsP_len (fun i => x.testBit (ow.getD i 0).toNat) ow.length; have : ow.length ≤ 1048576 := hO; omega) hs.up hR.ups) (fun v HM SM mM _ _ hv => ?_)
  obtain ⟨a6, c6, rfl, hM⟩ := hv
  refine KW.retM1 rfl rfl rfl rfl (fun H1 g => ?_)
  haveI := g.out (X := New HR.n HM.n) (H := HM) (lo := H.n) (fun id p => by have := p.1; omega)
  exact ⟨a6, c6, rfl, hM.up⟩
theorem l04Part (h p c : Int) {id kk : Nat} {a1 c1 a2 c2 a c3} {ow g0 : List Int} {rows : List (List Int)} (hO : B_Int64S ow) (hB : B_Int64SS rows) (hk : OkSch h ow p c rows) (hG : g0.length ≤ 1048576) (hv0 : Has3 S H0 id kk [.int .i64 h, .slice a1 ow.length c1, .int .i64 p, .int .i64 c, .slice a2 rows.length c2]) (ho : KI.Sl S H0 (.slice a1 ow.length c1) ow) (hs : KI.sl.Sl S H0 (.slice a2 rows.length c2) rows) (hg : KI.Sl S H0 (.slice a g0.length c3) g0) :
    SpecM Try.prog S H0 108 [.pointer (some ⟨id, kk, none⟩), .slice a g0.length c3] (MkMx p c (selR rows (rowsP (fun i => decide (ow.getD i 0 ∈ g0)) ow.length))) := by
  refine SpecM.of1 Try.func108 rfl (by kernel_rfl) rfl (fun H _ => ?_)
  have hO' : ow.length ≤ 1048576 := hO
  have hv := hv0.up (S' := Low H.n) (H' := H)
  refine KW.ldF 2 hv rfl rfl rfl rfl rfl rfl rfl rfl rfl ?_
  refine KW.ldF 3 hv rfl rfl rfl rfl rfl rfl rfl rfl rfl ?_
  refine KW.build rfl rfl rfl rfl rfl (built_Matrix2 _ _) ?_
  refine KW.callN1 rfl rfl rfl rfl rfl (l04Held h p c hO hG hv.up ho.up hg.up) (fun v HR SR mR _ _ hv => ?_)
  obtain ⟨a5, c5, rfl, hR⟩ := hv
  have hrl := rowsP_len (fun i => decide (ow.getD i 0 ∈ g0)) ow.length
  have hRm := held_in hk (q := fun i => decide (ow.getD i 0 ∈ g0))
  generalize rowsP (fun i => decide (ow.getD i 0 ∈ g0)) ow.length = R at *
  have hs := hs.up (S' := SR) (H' := HR)
  refine KW.lpM rfl rfl (fun s : CpS => [(0, .pointer (some ⟨id, kk, none⟩)), (4, .pointer (some ⟨H.n, 0, some 0⟩)), (5, .pointer (some ⟨H.n + 1, 0, some 1⟩)), (6, .slice a5 R.length c5), (7, .int .i64 s.i)]) (fun s => s.S) (fun s => s.A) (fun s => [(H.n, ⟨28, true, [.int .i64 0, .int .i64 0, .slice none 0 0]⟩), (H.n + 1, ⟨28, true, [.int .i64 p, .int .i64 c, s.l]⟩)] ++ s.tail) (fun s => CqI (fun (i : Int) => rows.getD i.toNat []) R H HR SR s) (fun s => R.length - s.i) (⟨0, SR, HR, fun _ => False, [], .slice none 0 0, []⟩) (⟨RwI.start, .inl ⟨rfl, rfl, rfl, rfl⟩⟩) ⟨rfl, rfl, rfl, rfl, rfl, trivial⟩ rfl rfl rfl (fun s hi bE n => ?_)
  obtain ⟨i, S1, A1, V, cs, l, tail⟩ := s
  obtain ⟨hq, hform⟩ := hi
  simp only at hq hform
  haveI : Stp SR HR S1 A1 := ⟨hq.old⟩
  have hle := hq.le
  have hcl := hq.b.len
  rw [List.length_map, List.length_take] at hcl
  simp only at hle hcl
  have hs1 := hs.up (S' := S1) (H' := A1)
  have hr1 := hR.ups (S' := S1) (H' := A1)
  have hv1 := hv.up (S' := S1) (H' := A1)
  rcases hform with ⟨hi0, e1, e2, e3⟩ | ⟨hi0, o, e1, e2⟩
  case' inl => subst e1 e2 e3
  case' inr => subst e1 e2
  all_goals
    refine KW.cnd rfl rfl (fun j1 => ?gin) (fun j1 => ?gout)
    case gin =>
      have j1 : (i : Int) < R.length := j1
      refine KW.ldF 4 hv1 rfl rfl rfl rfl rfl rfl rfl rfl rfl ?_
      refine KW.getI hr1 rfl rfl rfl rfl rfl rfl rfl rfl rfl rfl rfl rfl rfl rfl rfl rfl (by omega) (j1) (fun x hx => ?_)
      have hx : R[i]? = some x := hx
      have hxb := hRm x (List.mem_of_getElem? hx)
      refine KW.getL hs1 rfl rfl rfl rfl rfl rfl rfl rfl rfl rfl rfl rfl rfl rfl rfl rfl (hxb.1) (hxb.2) (fun y ay cy hy hsy => ?_)
      have hyl := hB.each y (List.mem_of_getElem? hy)
      have hyd : rows.getD x.toNat [] = y := by rw [List.getD_eq_getElem?_getD, hy]; rfl
      refine KW.ids (fun hlow hvar => ?_)
      have hnA := (hvar 1 (H.n + 1) _ rfl).1
      refine KW.callN1 rfl rfl rfl rfl rfl (l00Own hyl hsy) (fun v HC SC mC _ _ hv => ?_)
      obtain ⟨a6, c6, rfl, hC⟩ := hv
      rw [← hyd] at hC ⊢
      first
        | (refine KW.app0 (v := .slice a6 (rows.getD x.toNat []).length c6) 2 rfl rfl rfl rfl rfl rfl rfl rfl rfl rfl rfl rfl rfl rfl rfl rfl rfl rfl rfl rfl rfl rfl (by decide) ?_
           subst hi0
           exact KW.nxt rfl rfl (fun H' g => ⟨⟨1, SC, HC, _, _, _, _⟩, ⟨hq.next (o' := 0) (inferInstance : Stp S1 A1 SC HC).st inferInstance hlow (by omega) hx hC, .inr ⟨by simp only; omega, _, rfl, rfl⟩⟩, by simp only; omega, ⟨rfl, rfl, rfl, rfl, rfl, trivial⟩, g⟩))
        | (refine KW.app1 (xs := cs) (v := .slice a6 (rows.getD x.toNat []).length c6) 2 3 rfl rfl rfl rfl rfl rfl rfl rfl rfl rfl rfl rfl rfl rfl rfl rfl rfl rfl rfl rfl rfl rfl rfl (by omega) (by show (_ + 1) * 24 ≤ _; omega) (by omega) ?_
           exact KW.nxt rfl rfl (fun H' g => ⟨⟨i + 1, SC, HC, _, _, _, _⟩, ⟨hq.next (o' := 0) (inferInstance : Stp S1 A1 SC HC).st inferInstance hlow (by omega) hx hC, .inr ⟨by simp only; omega, _, rfl, rfl⟩⟩, by simp only; omega, ⟨rfl, rfl, rfl, rfl, congrArg (Value.int .i64) (inc64 (by omega)), trivial⟩, g⟩))
    case gout =>
      have j1 : ¬ (i : Int) < R.length := j1
      have he : i = R.length := by omega
      have el : (selR rows R).length = R.length := selR_len
      refine KW.retM1 rfl rfl rfl rfl (fun H1 g => ?_)
      first
        | (have h0 : R = [] := List.eq_nil_of_length_eq_zero (by omega)
           subst h0
           exact ⟨none, 0, rfl, .inl ⟨rfl, _, _, rfl, fun _ => rfl⟩⟩)
        | (refine ⟨_, _, by rw [el, he]; rfl, ?_⟩
           have hm := ((⟨hq.le, hq.old, hq.b, hq.v⟩ : RwI (fun (i : Int) => rows.getD i.toNat []) R H SR HR ⟨i, S1, A1, V, cs, o⟩).ml he g (j := 2) rfl (g.ge (H1 := H) (j := 2) rfl)).to (KLe.row (KLe.refl KI))
           rw [el]
           exact hm)
end
end Go.Proofs.Ytmkpfllbmdahkaa.Am
/- Contracts: the columns of a matrix, of the program and of the reference. Each holds under its own conditions. -/
set_option linter.unusedVariables false
set_option linter.unusedSimpArgs false
set_option maxRecDepth 20000
namespace Go.Proofs.Ytmkpfllbmdahkaa.Am
open Go Go.RowKit Go.Proofs Go.Proofs.Ytmkpfllbmdahkaa.Pl
def colL (L : List (List Int)) (c : Nat) : List Int := L.map fun r => r.getD c 0
/-- The columns of rows. -/
def trL (L : List (List Int)) (k : Nat) : List (List Int) := (List.range k).map (colL L)
theorem trL_len {L : List (List Int)} {k : Nat} : (trL L k).length = k := by simp [trL]
theorem colL_len {L : List (List Int)} {c : Nat} : (colL L c).length = L.length := by simp [colL]
theorem colL_next {L : List (List Int)} {c i : Nat} {r : List Int} (h : L[i]? = some r) : colL (L.take (i + 1)) c = colL (L.take i) c ++ [r.getD c 0] := map_take_succ _ h
theorem colL_rect {p : Int} {k : Nat} {L : List (List Int)} (h : Rect p k L) {c : Nat} (hc : c < k) : ∀ x ∈ colL L c, 0 ≤ x ∧ x < p := fun x hx => by
  obtain ⟨r, hr, rfl⟩ := List.mem_map.1 hx
  have h1 := h r hr
  rw [List.getD_eq_getElem?_getD, List.getElem?_eq_getElem (by omega)]
  exact h1.2 _ (List.getElem_mem _)
theorem trL_rect {p : Int} {k : Nat} {L : List (List Int)} (h : Rect p k L) : Rect p L.length (trL L k) := fun r hr => by
  obtain ⟨c, hc, rfl⟩ := List.mem_map.1 hr
  exact ⟨colL_len, colL_rect h (List.mem_range.1 hc)⟩
theorem range_at {k i : Nat} (h : i < k) : (List.range k)[i]? = some i := by rw [List.getElem?_range h]
section
variable {S : Ids} {H0 : AH}
theorem transposed {p : Int} {k : Nat} (hk : k ≤ 1000) {L : List (List Int)} (hLl : L.length ≤ 1000) (hL : Rect p k L) {a1 c1} (hs0 : KI.sl.Sl S H0 (.slice a1 L.length c1) L) : SpecM Try.prog S H0 141 [.agg #[.int .i64 p, .int .i64 k, .slice a1 L.length c1]] (MkMx p (L.length : Nat) (trL L k)) := by
  refine SpecM.of1 Try.func141 rfl (by kernel_rfl) rfl (fun H _ => ?_)
  have hs := hs0.up (S' := Low H.n) (H' := H)
  refine KW.build rfl rfl rfl rfl rfl (built_Matrix2 _ _) ?_
  refine KW.lpM rfl rfl (fun s : CpS => [(1, .pointer (some ⟨H.n, 0, some 0⟩)), (2, .pointer (some ⟨H.n + 1, 0, some 1⟩)), (3, .pointer (some ⟨H.n + 2, 0, some 2⟩)), (15, .int .i64 k), (16, .int .i64 s.i)]) (fun s => s.S) (fun s => s.A) (fun s => [(H.n, ⟨28, true, [.int .i64 p, .int .i64 k, .slice a1 L.length c1]⟩), (H.n + 1, ⟨28, true, [.int .i64 0, .int .i64 0, .slice none 0 0]⟩), (H.n + 2, ⟨28, true, [.int .i64 p, .int .i64 L.length, s.l]⟩)] ++ s.tail) (fun s => CqI (colL L) (List.range k) H H (Low H.n) s) (fun s => k - s.i) (⟨0, Low H.n, H, fun _ => False, [], .slice none 0 0, []⟩) (⟨RwI.start, .inl ⟨rfl, rfl, rfl, rfl⟩⟩) ⟨rfl, rfl, rfl, rfl, rfl, trivial⟩ rfl rfl rfl (fun s hi bE n => ?_)
  obtain ⟨i, S1, A1, V, cs, l, tail⟩ := s
  obtain ⟨hq, hform⟩ := hi
  simp only at hq hform
  haveI : Stp (Low H.n) H S1 A1 := ⟨hq.old⟩
  have hle := hq.le
  have hcl := hq.b.len
  rw [List.length_map, List.length_take] at hcl
  simp only [List.length_range] at hle hcl
  have hs1 := hs.up (S' := S1) (H' := A1)
  rcases hform with ⟨hi0, e1, e2, e3⟩ | ⟨hi0, o, e1, e2⟩
  case' inl => subst e1 e2 e3
  case' inr => subst e1 e2
  all_goals
    refine KW.cnd rfl rfl (fun j1 => ?gin) (fun j1 => ?gout)
    case gin =>
      have j1 : (i : Int) < (k : Int) := j1
      refine KW.lit rfl rfl rfl rfl rfl rfl rfl rfl rfl rfl [] rfl rfl (fun v hv => by simp at hv) rfl ?_
      first
        | (refine KW.lpM rfl rfl (fun q : Nat × Nat => [(1, .pointer (some ⟨H.n, 0, some 0⟩)), (2, .pointer (some ⟨H.n + 1, 0, some 1⟩)), (3, .pointer (some ⟨H.n + 2, 0, some 2⟩)), (4, .int .i64 i), (5, .slice (some ⟨q.2, 0, some 1⟩) (colL (L.take q.1) i).length (colL (L.take q.1) i).length), (15, .int .i64 k), (16, .int .i64 i), (21, .slice a1 L.length c1), (22, .int .i64 L.length), (23, .int .i64 q.1)]) (fun _ => S1) (fun _ => A1) (fun q => [(H.n, ⟨28, true, [.int .i64 p, .int .i64 k, .slice a1 L.length c1]⟩), (H.n + 1, ⟨28, true, [.int .i64 0, .int .i64 0, .slice none 0 0]⟩), (H.n + 2, ⟨28, true, [.int .i64 p, .int .i64 L.length, .slice none 0 0]⟩), (q.2, ⟨_, true, (colL (L.take q.1) i).map (Value.int .i64)⟩)]) (fun q => q.1 ≤ L.length) (fun q => L.length - q.1) (0, _) (by simp) ⟨rfl, rfl, rfl, rfl, rfl, rfl, rfl, rfl, rfl, rfl, trivial⟩ rfl rfl rfl (fun q hj bE n => ?_))
        | (refine KW.lpM rfl rfl (fun q : Nat × Nat => [(1, .pointer (some ⟨H.n, 0, some 0⟩)), (2, .pointer (some ⟨H.n + 1, 0, some 1⟩)), (3, .pointer (some ⟨H.n + 2, 0, some 2⟩)), (4, .int .i64 i), (5, .slice (some ⟨q.2, 0, some 1⟩) (colL (L.take q.1) i).length (colL (L.take q.1) i).length), (15, .int .i64 k), (16, .int .i64 i), (21, .slice a1 L.length c1), (22, .int .i64 L.length), (23, .int .i64 q.1)]) (fun _ => S1) (fun _ => A1) (fun q => [(H.n, ⟨28, true, [.int .i64 p, .int .i64 k, .slice a1 L.length c1]⟩), (H.n + 1, ⟨28, true, [.int .i64 0, .int .i64 0, .slice none 0 0]⟩), (H.n + 2, ⟨28, true, [.int .i64 p, .int .i64 L.length, .slice (some ⟨o, 0, some 1⟩) i i]⟩), (o, ⟨32, true, cs⟩), (q.2, ⟨_, true, (colL (L.take q.1) i).map (Value.int .i64)⟩)]) (fun q => q.1 ≤ L.length) (fun q => L.length - q.1) (0, _) (by simp) ⟨rfl, rfl, rfl, rfl, rfl, rfl, rfl, rfl, rfl, rfl, trivial⟩ rfl rfl rfl (fun q hj bE n => ?_))
      obtain ⟨j, o2⟩ := q
      simp only at hj
      have hjl : (colL (L.take j) i).length = j := by rw [colL_len, List.length_take]; omega
      refine KW.cnd rfl rfl (fun j2 => ?gin2) (fun j2 => ?gout2)
      case gin2 =>
        have j2 : (j : Int) < (L.length : Int) := j2
        refine KW.getL hs1 rfl rfl rfl rfl rfl rfl rfl rfl rfl rfl rfl rfl rfl rfl rfl rfl (by omega) (j2) (fun y ay cy hy hsy => ?_)
        have hy : L[j]? = some y := hy
        have hym := hL y (List.mem_of_getElem? hy)
        refine KW.getI hsy rfl rfl rfl rfl rfl rfl rfl rfl rfl rfl rfl rfl rfl rfl rfl rfl (by omega) (by omega) (fun z hz => ?_)
        have hz : y[i]? = some z := hz
        have hzd : y.getD i 0 = z := getD_of hz
        have enx := colL_next (c := i) hy
        rw [hzd] at enx
        first
          | (refine KW.app1 (xs := (colL (L.take j) i).map (Value.int .i64)) (v := .int .i64 z) 3 4 rfl rfl rfl rfl rfl rfl rfl rfl rfl rfl rfl rfl rfl rfl rfl rfl rfl rfl rfl rfl rfl rfl rfl (by simp) (by show (_ + 1) * 8 ≤ _; simp only; omega) (by simp only; omega) ?_
             exact KW.nxt rfl rfl (fun H' g => ⟨(j + 1, _), by simp only; omega, by simp only; omega, ⟨rfl, rfl, rfl, rfl, by simp only [enx, List.length_append, List.length_singleton]; rfl, rfl, rfl, rfl, rfl, congrArg (Value.int .i64) (inc64 (by omega)), trivial⟩, g.eqT (by simp only [enx, List.map_append]; rfl)⟩))
          | (refine KW.app1 (xs := (colL (L.take j) i).map (Value.int .i64)) (v := .int .i64 z) 4 5 rfl rfl rfl rfl rfl rfl rfl rfl rfl rfl rfl rfl rfl rfl rfl rfl rfl rfl rfl rfl rfl rfl rfl (by simp) (by show (_ + 1) * 8 ≤ _; simp only; omega) (by simp only; omega) ?_
             exact KW.nxt rfl rfl (fun H' g => ⟨(j + 1, _), by simp only; omega, by simp only; omega, ⟨rfl, rfl, rfl, rfl, by simp only [enx, List.length_append, List.length_singleton]; rfl, rfl, rfl, rfl, rfl, congrArg (Value.int .i64) (inc64 (by omega)), trivial⟩, g.eqT (by simp only [enx, List.map_append]; rfl)⟩))
      case gout2 =>
        obtain rfl : j = L.length := by have j2 : ¬ (j : Int) < (L.length : Int) := j2; omega
        rw [List.take_of_length_le (Nat.le_refl _)]
        refine KW.fact (fun _ g => g.nle (H1 := H)) (fun hn0 => ?_)
        first
          | (refine KW.freeze 4 rfl (fun A' S' hnA hSA stA hmA hoA hnS hlow => ?_)
             have hoH : H.n ≤ o2 := by
               rcases Nat.lt_or_ge o2 H.n with h | h
               · exact absurd (hq.old o2 h).1 hnS
               · exact h
             refine KW.app1 (xs := cs) (v := .slice (some ⟨o2, 0, some 1⟩) (colL L i).length (colL L i).length) 3 4 rfl rfl rfl rfl rfl rfl rfl rfl rfl rfl rfl rfl rfl rfl rfl rfl rfl rfl rfl rfl rfl rfl rfl (by omega) (by show (_ + 1) * 24 ≤ _; omega) (by omega) ?_
             exact KW.nxt rfl rfl (fun H' g => ⟨⟨i + 1, S', A', _, _, _, _⟩, ⟨hq.nextX (o' := 0) stA.st (X := fun id => id = o2) (fun id e => by subst e; exact ⟨(hSA _).2 (.inr rfl), hoH, hnS⟩) (show (List.range k)[i]? = some i from range_at (by omega)) (row_ml hmA), .inr ⟨by simp only; omega, _, rfl, rfl⟩⟩, by simp only; omega, ⟨rfl, rfl, rfl, rfl, congrArg (Value.int .i64) (inc64 (by omega)), trivial⟩, g⟩))
          | (refine KW.freeze 3 rfl (fun A' S' hnA hSA stA hmA hoA hnS hlow => ?_)
             have hoH : H.n ≤ o2 := by
               rcases Nat.lt_or_ge o2 H.n with h | h
               · exact absurd (hq.old o2 h).1 hnS
               · exact h
             refine KW.app0 (v := .slice (some ⟨o2, 0, some 1⟩) (colL L i).length (colL L i).length) 3 rfl rfl rfl rfl rfl rfl rfl rfl rfl rfl rfl rfl rfl rfl rfl rfl rfl rfl rfl rfl rfl rfl (by decide) ?_
             subst hi0
             exact KW.nxt rfl rfl (fun H' g => ⟨⟨1, S', A', _, _, _, _⟩, ⟨hq.nextX (o' := 0) stA.st (X := fun id => id = o2) (fun id e => by subst e; exact ⟨(hSA _).2 (.inr rfl), hoH, hnS⟩) (show (List.range k)[0]? = some 0 from range_at (by omega)) (row_ml hmA), .inr ⟨by simp only; omega, _, rfl, rfl⟩⟩, by simp only; omega, ⟨rfl, rfl, rfl, rfl, rfl, trivial⟩, g⟩))
    case gout =>
      have j1 : ¬ (i : Int) < (k : Int) := j1
      have he : i = k := by omega
      have el : (trL L k).length = k := trL_len
      refine KW.retM1 rfl rfl rfl rfl (fun H1 g => ?_)
      first
        | (have h0 : k = 0 := by omega
           subst h0
           exact ⟨none, 0, rfl, .inl ⟨rfl, _, _, rfl, fun _ => rfl⟩⟩)
        | (refine ⟨_, _, by rw [el, he]; rfl, ?_⟩
           have hm := ((⟨hq.le, hq.old, hq.b, hq.v⟩ : RwI (colL L) (List.range k) H (Low H.n) H ⟨i, S1, A1, V, cs, o⟩).ml (by rw [List.length_range]; exact he) g (j := 3) rfl (g.ge (H1 := H) (j := 3) rfl)).to (KLe.row (KLe.refl KI))
           rw [List.length_range] at hm
           rw [el]
           exact hm)
end
end Go.Proofs.Ytmkpfllbmdahkaa.Am
/- Contracts: the columns of a matrix of the reference; products of matrices. Each holds under its own conditions. -/
set_option linter.unusedVariables false
set_option linter.unusedSimpArgs false
set_option maxRecDepth 20000
namespace Go.Proofs.Ytmkpfllbmdahkaa.Am
open Go Go.RowKit Go.Proofs Go.Proofs.Ytmkpfllbmdahkaa.Pl
section
variable {S : Ids} {H0 : AH}
theorem l03Turned {p : Int} {k : Nat} (hk : k ≤ 1000) {L : List (List Int)} (hLl : L.length ≤ 1000) (hL : Rect p k L) {id kk : Nat} {a1 c1} (hv0 : Has3 S H0 id kk [.int .i64 p, .int .i64 k, .slice a1 L.length c1]) (hs0 : KI.sl.Sl S H0 (.slice a1 L.length c1) L) : SpecM Try.prog S H0 202 [.pointer (some ⟨id, kk, none⟩)] (MkMx p (L.length : Nat) (trL L k)) := by
  refine SpecM.of1 Try.func202 rfl (by kernel_rfl) rfl (fun H _ => ?_)
  have hs := hs0.up (S' := Low H.n) (H' := H)
  have hv := hv0.up (S' := Low H.n) (H' := H)
  refine KW.ldF 0 hv rfl rfl rfl rfl rfl rfl rfl rfl rfl ?_
  refine KW.ldF 2 hv rfl rfl rfl rfl rfl rfl rfl rfl rfl ?_
  refine KW.build rfl rfl rfl rfl rfl (built_Matrix2 _ _) ?_
  refine KW.lpM rfl rfl (fun s : CpS => [(0, .pointer (some ⟨id, kk, none⟩)), (2, .pointer (some ⟨H.n, 0, some 0⟩)), (3, .pointer (some ⟨H.n + 1, 0, some 1⟩)), (4, .int .i64 s.i)]) (fun s => s.S) (fun s => s.A) (fun s => [(H.n, ⟨28, true, [.int .i64 0, .int .i64 0, .slice none 0 0]⟩), (H.n + 1, ⟨28, true, [.int .i64 p, .int .i64 L.length, s.l]⟩)] ++ s.tail) (fun s => CqI (colL L) (List.range k) H H (Low H.n) s) (fun s => k - s.i) (⟨0, Low H.n, H, fun _ => False, [], .slice none 0 0, []⟩) (⟨RwI.start, .inl ⟨rfl, rfl, rfl, rfl⟩⟩) ⟨rfl, rfl, rfl, rfl, trivial⟩ rfl rfl rfl (fun s hi bE n => ?_)
  obtain ⟨i, S1, A1, V, cs, l, tail⟩ := s
  obtain ⟨hq, hform⟩ := hi
  simp only at hq hform
  haveI : Stp (Low H.n) H S1 A1 := ⟨hq.old⟩
  have hle := hq.le
  have hcl := hq.b.len
  rw [List.length_map, List.length_take] at hcl
  simp only [List.length_range] at hle hcl
  have hs1 := hs.up (S' := S1) (H' := A1)
  have hv1 := hv.up (S' := S1) (H' := A1)
  rcases hform with ⟨hi0, e1, e2, e3⟩ | ⟨hi0, o, e1, e2⟩
  case' inl => subst e1 e2 e3
  case' inr => subst e1 e2
  all_goals
    refine KW.ldF 1 hv1 rfl rfl rfl rfl rfl rfl rfl rfl rfl ?_
    refine KW.cnd rfl rfl (fun j1 => ?gin) (fun j1 => ?gout)
    case gin =>
      have j1 : (i : Int) < (k : Int) := j1
      refine KW.lit rfl rfl rfl rfl rfl rfl rfl rfl rfl rfl [] rfl rfl (fun v hv => by simp at hv) rfl ?_
      first
        | (refine KW.lpM rfl rfl (fun q : Nat × Nat => [(0, .pointer (some ⟨id, kk, none⟩)), (2, .pointer (some ⟨H.n, 0, some 0⟩)), (3, .pointer (some ⟨H.n + 1, 0, some 1⟩)), (4, .int .i64 i), (5, .slice (some ⟨q.2, 0, some 1⟩) (colL (L.take q.1) i).length (colL (L.take q.1) i).length), (6, .int .i64 q.1)]) (fun _ => S1) (fun _ => A1) (fun q => [(H.n, ⟨28, true, [.int .i64 0, .int .i64 0, .slice none 0 0]⟩), (H.n + 1, ⟨28, true, [.int .i64 p, .int .i64 L.length, .slice none 0 0]⟩), (q.2, ⟨_, true, (colL (L.take q.1) i).map (Value.int .i64)⟩)]) (fun q => q.1 ≤ L.length) (fun q => L.length - q.1) (0, _) (by simp) ⟨rfl, rfl, rfl, rfl, rfl, rfl, trivial⟩ rfl rfl rfl (fun q hj bE n => ?_))
        | (refine KW.lpM rfl rfl (fun q : Nat × Nat => [(0, .pointer (some ⟨id, kk, none⟩)), (2, .pointer (some ⟨H.n, 0, some 0⟩)), (3, .pointer (some ⟨H.n + 1, 0, some 1⟩)), (4, .int .i64 i), (5, .slice (some ⟨q.2, 0, some 1⟩) (colL (L.take q.1) i).length (colL (L.take q.1) i).length), (6, .int .i64 q.1)]) (fun _ => S1) (fun _ => A1) (fun q => [(H.n, ⟨28, true, [.int .i64 0, .int .i64 0, .slice none 0 0]⟩), (H.n + 1, ⟨28, true, [.int .i64 p, .int .i64 L.length, .slice (some ⟨o, 0, some 1⟩) i i]⟩), (o, ⟨32, true, cs⟩), (q.2, ⟨_, true, (colL (L.take q.1) i).map (Value.int .i64)⟩)]) (fun q => q.1 ≤ L.length) (fun q => L.length - q.1) (0, _) (by simp) ⟨rfl, rfl, rfl, rfl, rfl, rfl, trivial⟩ rfl rfl rfl (fun q hj bE n => ?_))
      obtain ⟨j, o2⟩ := q
      simp only at hj
      have hjl : (colL (L.take j) i).length = j := by rw [colL_len, List.length_take]; omega
      refine KW.ldF 2 hv1 rfl rfl rfl rfl rfl rfl rfl rfl rfl ?_
      refine KW.cnd rfl rfl (fun j2 => ?gin2) (fun j2 => ?gout2)
      case gin2 =>
        have j2 : (j : Int) < (L.length : Int) := j2
        refine KW.ldF 2 hv1 rfl rfl rfl rfl rfl rfl rfl rfl rfl ?_
        refine KW.getL hs1 rfl rfl rfl rfl rfl rfl rfl rfl rfl rfl rfl rfl rfl rfl rfl rfl (by omega) (j2) (fun y ay cy hy hsy => ?_)
        have hy : L[j]? = some y := hy
        have hym := hL y (List.mem_of_getElem? hy)
        refine KW.getI hsy rfl rfl rfl rfl rfl rfl rfl rfl rfl rfl rfl rfl rfl rfl rfl rfl (by omega) (by omega) (fun z hz => ?_)
        have hz : y[i]? = some z := hz
        have hzd : y.getD i 0 = z := getD_of hz
        have enx := colL_next (c := i) hy
        rw [hzd] at enx
        first
          | (refine KW.app1 (xs := (colL (L.take j) i).map (Value.int .i64)) (v := .int .i64 z) 2 3 rfl rfl rfl rfl rfl rfl rfl rfl rfl rfl rfl rfl rfl rfl rfl rfl rfl rfl rfl rfl rfl rfl rfl (by simp) (by show (_ + 1) * 8 ≤ _; simp only; omega) (by simp only; omega) ?_
             exact KW.nxt rfl rfl (fun H' g => ⟨(j + 1, _), by simp only; omega, by simp only; omega, ⟨rfl, rfl, rfl, rfl, by simp only [enx, List.length_append, List.length_singleton]; rfl, congrArg (Value.int .i64) (inc64 (by omega)), trivial⟩, g.eqT (by simp only [enx, List.map_append]; rfl)⟩))
          | (refine KW.app1 (xs := (colL (L.take j) i).map (Value.int .i64)) (v := .int .i64 z) 3 4 rfl rfl rfl rfl rfl rfl rfl rfl rfl rfl rfl rfl rfl rfl rfl rfl rfl rfl rfl rfl rfl rfl rfl (by simp) (by show (_ + 1) * 8 ≤ _; simp only; omega) (by simp only; omega) ?_
             exact KW.nxt rfl rfl (fun H' g => ⟨(j + 1, _), by simp only; omega, by simp only; omega, ⟨rfl, rfl, rfl, rfl, by simp only [enx, List.length_append, List.length_singleton]; rfl, congrArg (Value.int .i64) (inc64 (by omega)), trivial⟩, g.eqT (by simp only [enx, List.map_append]; rfl)⟩))
      case gout2 =>
        obtain rfl : j = L.length := by have j2 : ¬ (j : Int) < (L.length : Int) := j2; omega
        rw [List.take_of_length_le (Nat.le_refl _)]
        first
          | (refine KW.freeze 3 rfl (fun A' S' hnA hSA stA hmA hoA hnS hlow => ?_)
             have hoH : H.n ≤ o2 := by
               rcases Nat.lt_or_ge o2 H.n with h | h
               · exact absurd (hq.old o2 h).1 hnS
               · exact h
             refine KW.app1 (xs := cs) (v := .slice (some ⟨o2, 0, some 1⟩) (colL L i).length (colL L i).length) 2 3 rfl rfl rfl rfl rfl rfl rfl rfl rfl rfl rfl rfl rfl rfl rfl rfl rfl rfl rfl rfl rfl rfl rfl (by omega) (by show (_ + 1) * 24 ≤ _; omega) (by omega) ?_
             exact KW.nxt rfl rfl (fun H' g => ⟨⟨i + 1, S', A', _, _, _, _⟩, ⟨hq.nextX (o' := 0) stA.st (X := fun id => id = o2) (fun id e => by subst e; exact ⟨(hSA _).2 (.inr rfl), hoH, hnS⟩) (show (List.range k)[i]? = some i from range_at (by omega)) (row_ml hmA), .inr ⟨by simp only; omega, _, rfl, rfl⟩⟩, by simp only; omega, ⟨rfl, rfl, rfl, congrArg (Value.int .i64) (inc64 (by omega)), trivial⟩, g⟩))
          | (refine KW.freeze 2 rfl (fun A' S' hnA hSA stA hmA hoA hnS hlow => ?_)
             have hoH : H.n ≤ o2 := by
               rcases Nat.lt_or_ge o2 H.n with h | h
               · exact absurd (hq.old o2 h).1 hnS
               · exact h
             refine KW.app0 (v := .slice (some ⟨o2, 0, some 1⟩) (colL L i).length (colL L i).length) 2 rfl rfl rfl rfl rfl rfl rfl rfl rfl rfl rfl rfl rfl rfl rfl rfl rfl rfl rfl rfl rfl rfl (by decide) ?_
             subst hi0
             exact KW.nxt rfl rfl (fun H' g => ⟨⟨1, S', A', _, _, _, _⟩, ⟨hq.nextX (o' := 0) stA.st (X := fun id => id = o2) (fun id e => by subst e; exact ⟨(hSA _).2 (.inr rfl), hoH, hnS⟩) (show (List.range k)[0]? = some 0 from range_at (by omega)) (row_ml hmA), .inr ⟨by simp only; omega, _, rfl, rfl⟩⟩, by simp only; omega, ⟨rfl, rfl, rfl, rfl, trivial⟩, g⟩))
    case gout =>
      have j1 : ¬ (i : Int) < (k : Int) := j1
      have he : i = k := by omega
      have el : (trL L k).length = k := trL_len
      refine KW.retM1 rfl rfl rfl rfl (fun H1 g => ?_)
      first
        | (have h0 : k = 0 := by omega
           subst h0
           exact ⟨none, 0, rfl, .inl ⟨rfl, _, _, rfl, fun _ => rfl⟩⟩)
        | (refine ⟨_, _, by rw [el, he]; rfl, ?_⟩
           have hm := ((⟨hq.le, hq.old, hq.b, hq.v⟩ : RwI (colL L) (List.range k) H (Low H.n) H ⟨i, S1, A1, V, cs, o⟩).ml (by rw [List.length_range]; exact he) g (j := 2) rfl (g.ge (H1 := H) (j := 2) rfl)).to (KLe.row (KLe.refl KI))
           rw [List.length_range] at hm
           rw [el]
           exact hm)
end
/-- The product of rows and the columns C. -/
def prodL (p : Int) (L C : List (List Int)) : List (List Int) := L.map fun r => C.map (dotS p r)
/-- A matrix that has been made and is one's own. -/
def MkMo (p c : Int) (xs : List (List Int)) (n : Nat) (v : Value) (H1 : AH) : Prop := ∃ a m, v = .agg #[.int .i64 p, .int .i64 c, .slice a xs.length m] ∧ KI.ml.Ml (New n H1.n) H1 (.slice a xs.length m) xs
section
variable {S : Ids} {H0 : AH}
theorem productOf {p : Int} {k k2 : Nat} {L M : List (List Int)} (hm : OkMat p k L) (hn : OkMat p k2 M) (hkM : M.length = k) (hBL : B_Int64SS L) (hBM : B_Int64SS M) {a1 c1 a2 c2} (hs0 : KI.sl.Sl S H0 (.slice a1 L.length c1) L) (hs2 : KI.sl.Sl S H0 (.slice a2 M.length c2) M) : SpecM Try.prog S H0 48 [.agg #[.int .i64 p, .int .i64 k, .slice a1 L.length c1], .agg #[.int .i64 p, .int .i64 k2, .slice a2 M.length c2]] (fun n v H1 => ∃ v', v = .tuple #[v', .int .i64 0] ∧ MkMo p k2 (prodL p L (trL M k2)) n v' H1) := by
  have hp := hm.pr
  have hpI : I64 p := by have := hp.1; have := hp.2.1; unfold I64; omega
  have hk12 := hm.c1
  have hk212 := hn.c1
  have hLl := hm.len
  have hMl := hn.len
  have hRL : Rect p k L := hm.rect rfl
  have hRM : Rect p k2 M := hn.rect rfl
  refine SpecM.of1 Try.func48 rfl (by kernel_rfl) rfl (fun H _ => ?_)
  refine KW.callE rfl rfl rfl rfl rfl (validMatrix p k hpI hBL hs0.up) (fun _ _ => ?_)
  rw [tv_true hm]
  refine KW.tF rfl rfl (by first | (simp; done) | decide) ?_
  refine KW.callE rfl rfl rfl rfl rfl (validMatrix p k2 hpI hBM hs2.up) (fun _ _ => ?_)
  rw [tv_true hn]
  refine KW.cF rfl rfl (by first | (simp; done) | decide) ?_
  refine KW.tF rfl rfl (by first | (simp; done) | decide) ?_
  refine KW.cF rfl rfl (by rw [hkM]; simp) ?_
  refine KW.build rfl rfl rfl rfl rfl (built_Matrix2 _ _) ?_
  refine KW.callN1 rfl rfl rfl rfl rfl (transposed (p := p) (k := k2) (by omega) (by omega) hRM hs2.up) (fun v HT ST mT _ _ hv => ?_)
  obtain ⟨a3, c3, rfl, hT⟩ := hv
  have hCl : (trL M k2).length = k2 := trL_len
  have hRC : Rect p M.length (trL M k2) := trL_rect hRM
  generalize trL M k2 = C at *
  have hsT := hs0.up (S' := ST) (H' := HT)
  refine KW.lpM rfl rfl (fun s : CpS => [(2, .pointer (some ⟨H.n, 0, some 0⟩)), (3, .pointer (some ⟨H.n + 1, 0, some 1⟩)), (4, .pointer (some ⟨H.n + 2, 0, some 2⟩)), (5, .int .i64 0), (6, .pointer (some ⟨HT.n, 0, some 3⟩)), (7, .slice a3 C.length c3), (45, .slice a1 L.length c1), (46, .int .i64 L.length), (47, .int .i64 s.i)]) (fun s => s.S) (fun s => s.A) (fun s => [(H.n, ⟨28, true, [.int .i64 p, .int .i64 k, .slice a1 L.length c1]⟩), (H.n + 1, ⟨28, true, [.int .i64 p, .int .i64 k2, .slice a2 M.length c2]⟩), (H.n + 2, ⟨28, true, [.int .i64 0, .int .i64 0, .slice none 0 0]⟩), (HT.n, ⟨28, true, [.int .i64 p, .int .i64 k2, s.l]⟩)] ++ s.tail) (fun s => CqI (fun r => C.map (dotS p r)) L H HT ST s) (fun s => L.length - s.i) (⟨0, ST, HT, fun _ => False, [], .slice none 0 0, []⟩) (⟨RwI.start, .inl ⟨rfl, rfl, rfl, rfl⟩⟩) ⟨rfl, rfl, rfl, rfl, rfl, rfl, rfl, rfl, rfl, trivial⟩ rfl rfl rfl (fun s hi bE n => ?_)
  obtain ⟨i, S1, A1, V, cs, l, tail⟩ := s
  obtain ⟨hq, hform⟩ := hi
  simp only at hq hform
  haveI : Stp ST HT S1 A1 := ⟨hq.old⟩
  have hle := hq.le
  have hcl := hq.b.len
  rw [List.length_map, List.length_take] at hcl
  simp only at hle hcl
  have hs1 := hsT.up (S' := S1) (H' := A1)
  have hC1 := hT.up (S' := S1) (H' := A1)
  rcases hform with ⟨hi0, e1, e2, e3⟩ | ⟨hi0, o, e1, e2⟩
  case' inl => subst e1 e2 e3
  case' inr => subst e1 e2
  all_goals
    refine KW.cnd rfl rfl (fun j1 => ?gin) (fun j1 => ?gout)
    case gin =>
      have j1 : (i : Int) < (L.length : Int) := j1
      refine KW.getL hs1 rfl rfl rfl rfl rfl rfl rfl rfl rfl rfl rfl rfl rfl rfl rfl rfl (by omega) (j1) (fun y ay cy hy hsy => ?_)
      have hy : L[i]? = some y := hy
      have hym := hRL y (List.mem_of_getElem? hy)
      have hye : Elems p y := fun x hx => by have := hym.2 x hx; omega
      refine KW.lit rfl rfl rfl rfl rfl rfl rfl rfl rfl rfl [] rfl rfl (fun v hv => by simp at hv) rfl ?_
      first
        | (refine KW.lpM rfl rfl (fun q : Nat × Nat => [(2, .pointer (some ⟨H.n, 0, some 0⟩)), (3, .pointer (some ⟨H.n + 1, 0, some 1⟩)), (4, .pointer (some ⟨H.n + 2, 0, some 2⟩)), (5, .int .i64 0), (6, .pointer (some ⟨HT.n, 0, some 3⟩)), (7, .slice a3 C.length c3), (9, .slice ay y.length cy), (10, .slice (some ⟨q.2, 0, some 1⟩) ((C.take q.1).map (dotS p y)).length ((C.take q.1).map (dotS p y)).length), (45, .slice a1 L.length c1), (46, .int .i64 L.length), (47, .int .i64 i), (52, .slice a3 C.length c3), (53, .int .i64 C.length), (54, .int .i64 q.1)]) (fun _ => S1) (fun _ => A1) (fun q => [(H.n, ⟨28, true, [.int .i64 p, .int .i64 k, .slice a1 L.length c1]⟩), (H.n + 1, ⟨28, true, [.int .i64 p, .int .i64 k2, .slice a2 M.length c2]⟩), (H.n + 2, ⟨28, true, [.int .i64 0, .int .i64 0, .slice none 0 0]⟩), (HT.n, ⟨28, true, [.int .i64 p, .int .i64 k2, .slice (some ⟨o, 0, some 1⟩) i i]⟩), (o, ⟨32, true, cs⟩), (q.2, ⟨_, true, ((C.take q.1).map (dotS p y)).map (Value.int .i64)⟩)]) (fun q => q.1 ≤ C.length) (fun q => C.length - q.1) (0, _) (by simp) ⟨rfl, rfl, rfl, rfl, rfl, rfl, rfl, rfl, rfl, rfl, rfl, rfl, rfl, rfl, trivial⟩ rfl rfl rfl (fun q hj bE n => ?_))
        | (refine KW.lpM rfl rfl (fun q : Nat × Nat => [(2, .pointer (some ⟨H.n, 0, some 0⟩)), (3, .pointer (some ⟨H.n + 1, 0, some 1⟩)), (4, .pointer (some ⟨H.n + 2, 0, some 2⟩)), (5, .int .i64 0), (6, .pointer (some ⟨HT.n, 0, some 3⟩)), (7, .slice a3 C.length c3), (9, .slice ay y.length cy), (10, .slice (some ⟨q.2, 0, some 1⟩) ((C.take q.1).map (dotS p y)).length ((C.take q.1).map (dotS p y)).length), (45, .slice a1 L.length c1), (46, .int .i64 L.length), (47, .int .i64 i), (52, .slice a3 C.length c3), (53, .int .i64 C.length), (54, .int .i64 q.1)]) (fun _ => S1) (fun _ => A1) (fun q => [(H.n, ⟨28, true, [.int .i64 p, .int .i64 k, .slice a1 L.length c1]⟩), (H.n + 1, ⟨28, true, [.int .i64 p, .int .i64 k2, .slice a2 M.length c2]⟩), (H.n + 2, ⟨28, true, [.int .i64 0, .int .i64 0, .slice none 0 0]⟩), (HT.n, ⟨28, true, [.int .i64 p, .int .i64 k2, .slice none 0 0]⟩), (q.2, ⟨_, true, ((C.take q.1).map (dotS p y)).map (Value.int .i64)⟩)]) (fun q => q.1 ≤ C.length) (fun q => C.length - q.1) (0, _) (by simp) ⟨rfl, rfl, rfl, rfl, rfl, rfl, rfl, rfl, rfl, rfl, rfl, rfl, rfl, rfl, trivial⟩ rfl rfl rfl (fun q hj bE n => ?_))
      obtain ⟨j, o2⟩ := q
      simp only at hj
      have hjl : ((C.take j).map (dotS p y)).length = j := by rw [List.length_map, List.length_take]; omega
      refine KW.cnd rfl rfl (fun j2 => ?gin2) (fun j2 => ?gout2)
      case gin2 =>
        have j2 : (j : Int) < (C.length : Int) := j2
        refine KW.getL hC1 rfl rfl rfl rfl rfl rfl rfl rfl rfl rfl rfl rfl rfl rfl rfl rfl (by omega) (j2) (fun z az cz hz hsz => ?_)
        have hz : C[j]? = some z := hz
        have hzm := hRC z (List.mem_of_getElem? hz)
        refine KW.callE rfl rfl rfl rfl rfl (dot p hp (by omega) (by omega) hye (fun x hx => by have := hzm.2 x hx; omega) hsy hsz) (fun _ _ => ?_)
        have enx : (C.take (j + 1)).map (dotS p y) = (C.take j).map (dotS p y) ++ [dotS p y z] := map_take_succ _ hz
        first
          | (refine KW.app1 (xs := ((C.take j).map (dotS p y)).map (Value.int .i64)) (v := .int .i64 (dotS p y z)) 5 6 rfl rfl rfl rfl rfl rfl rfl rfl rfl rfl rfl rfl rfl rfl rfl rfl rfl rfl rfl rfl rfl rfl rfl (by simp) (by show (_ + 1) * 8 ≤ _; simp only; omega) (by simp only; omega) ?_
             exact KW.nxt rfl rfl (fun H' g => ⟨(j + 1, _), by simp only; omega, by simp only; omega, ⟨rfl, rfl, rfl, rfl, rfl, rfl, rfl, by simp only [enx, List.length_append, List.length_singleton]; rfl, rfl, rfl, rfl, rfl, rfl, congrArg (Value.int .i64) (inc64 (by omega)), trivial⟩, g.eqT (by simp only [enx, List.map_append]; rfl)⟩))
          | (refine KW.app1 (xs := ((C.take j).map (dotS p y)).map (Value.int .i64)) (v := .int .i64 (dotS p y z)) 4 5 rfl rfl rfl rfl rfl rfl rfl rfl rfl rfl rfl rfl rfl rfl rfl rfl rfl rfl rfl rfl rfl rfl rfl (by simp) (by show (_ + 1) * 8 ≤ _; simp only; omega) (by simp only; omega) ?_
             exact KW.nxt rfl rfl (fun H' g => ⟨(j + 1, _), by simp only; omega, by simp only; omega, ⟨rfl, rfl, rfl, rfl, rfl, rfl, rfl, by simp only [enx, List.length_append, List.length_singleton]; rfl, rfl, rfl, rfl, rfl, rfl, congrArg (Value.int .i64) (inc64 (by omega)), trivial⟩, g.eqT (by simp only [enx, List.map_append]; rfl)⟩))
      case gout2 =>
        obtain rfl : j = C.length := by have j2 : ¬ (j : Int) < (C.length : Int) := j2; omega
        rw [List.take_of_length_le (Nat.le_refl _)]
        first
          | (refine KW.freeze 5 rfl (fun A' S' hnA hSA stA hmA hoA hnS hlow => ?_)
             have hoH : H.n ≤ o2 := by
               rcases Nat.lt_or_ge o2 H.n with h | h
               · exact absurd (hq.old o2 ((inferInstance : On (Low H.n) H ST HT).st o2 h).1).1 hnS
               · exact h
             refine KW.app1 (xs := cs) (v := .slice (some ⟨o2, 0, some 1⟩) (C.map (dotS p y)).length (C.map (dotS p y)).length) 4 5 rfl rfl rfl rfl rfl rfl rfl rfl rfl rfl rfl rfl rfl rfl rfl rfl rfl rfl rfl rfl rfl rfl rfl (by omega) (by show (_ + 1) * 24 ≤ _; omega) (by omega) ?_
             exact KW.nxt rfl rfl (fun H' g => ⟨⟨i + 1, S', A', _, _, _, _⟩, ⟨hq.nextX (o' := 0) stA.st (X := fun id => id = o2) (fun id e => by subst e; exact ⟨(hSA _).2 (.inr rfl), hoH, hnS⟩) hy (row_ml hmA), .inr ⟨by simp only; omega, _, rfl, rfl⟩⟩, by simp only; omega, ⟨rfl, rfl, rfl, rfl, rfl, rfl, rfl, rfl, congrArg (Value.int .i64) (inc64 (by omega)), trivial⟩, g⟩))
          | (refine KW.freeze 4 rfl (fun A' S' hnA hSA stA hmA hoA hnS hlow => ?_)
             have hoH : H.n ≤ o2 := by
               rcases Nat.lt_or_ge o2 H.n with h | h
               · exact absurd (hq.old o2 ((inferInstance : On (Low H.n) H ST HT).st o2 h).1).1 hnS
               · exact h
             refine KW.app0 (v := .slice (some ⟨o2, 0, some 1⟩) (C.map (dotS p y)).length (C.map (dotS p y)).length) 4 rfl rfl rfl rfl rfl rfl rfl rfl rfl rfl rfl rfl rfl rfl rfl rfl rfl rfl rfl rfl rfl rfl (by decide) ?_
             subst hi0
             exact KW.nxt rfl rfl (fun H' g => ⟨⟨1, S', A', _, _, _, _⟩, ⟨hq.nextX (o' := 0) stA.st (X := fun id => id = o2) (fun id e => by subst e; exact ⟨(hSA _).2 (.inr rfl), hoH, hnS⟩) hy (row_ml hmA), .inr ⟨by simp only; omega, _, rfl, rfl⟩⟩, by simp only; omega, ⟨rfl, rfl, rfl, rfl, rfl, rfl, rfl, rfl, rfl, trivial⟩, g⟩))
    case gout =>
      have j1 : ¬ (i : Int) < (L.length : Int) := j1
      have he : i = L.length := by omega
      have el : (prodL p L C).length = L.length := by simp [prodL]
      refine KW.retM1 rfl rfl rfl rfl (fun H1 g => ?_)
      first
        | (have h0 : L = [] := List.eq_nil_of_length_eq_zero (by omega)
           subst h0
           exact ⟨_, rfl, none, 0, rfl, .inl ⟨rfl, _, _, rfl, fun _ => rfl⟩⟩)
        | (refine ⟨_, rfl, _, _, by rw [el, he]; rfl, ?_⟩
           have hm := (⟨hq.le, hq.old, hq.b, hq.v⟩ : RwI (fun r => C.map (dotS p r)) L H ST HT ⟨i, S1, A1, V, cs, o⟩).ml he g (j := 4) rfl (g.ge (H1 := H) (j := 4) rfl)
           rw [el]
           exact hm)
theorem specProductOf {p : Int} {k k2 : Nat} {L M : List (List Int)} (hm : OkMat p k L) (hn : OkMat p k2 M) (hkM : M.length = k) (hBL : B_Int64SS L) (hBM : B_Int64SS M) {a1 c1 a2 c2} (hs0 : KI.sl.Sl S H0 (.slice a1 L.length c1) L) (hs2 : KI.sl.Sl S H0 (.slice a2 M.length c2) M) : SpecM Try.prog S H0 124 [.agg #[.int .i64 p, .int .i64 k, .slice a1 L.length c1], .agg #[.int .i64 p, .int .i64 k2, .slice a2 M.length c2]] (fun n v H1 => ∃ v', v = .tuple #[v', .int .i64 0] ∧ MkMo p k2 (prodL p L (trL M k2)) n v' H1) := by
  have hp := hm.pr
  have hpI : I64 p := by have := hp.1; have := hp.2.1; unfold I64; omega
  have hk12 := hm.c1
  have hk212 := hn.c1
  have hLl := hm.len
  have hMl := hn.len
  have hRL : Rect p k L := hm.rect rfl
  have hRM : Rect p k2 M := hn.rect rfl
  refine SpecM.of1 Try.func124 rfl (by kernel_rfl) rfl (fun H _ => ?_)
  refine KW.callV1 rfl rfl rfl rfl rfl (fun H1 g _ => l03Ok (S := Low H1.n) (H0 := H1) p k hpI hBL (g.has3 (j := 0) rfl) hs0.up) (fun n8 m8 => ?_)
  rw [tv_true hm]
  refine KW.tF rfl rfl (by first | (simp; done) | decide) ?_
  refine KW.callV1 rfl rfl rfl rfl rfl (fun H1 g _ => l03Ok (S := Low H1.n) (H0 := H1) p k2 hpI hBM (g.has3 (j := 1) rfl) hs2.up) (fun n9 m9 => ?_)
  rw [tv_true hn]
  refine KW.cF rfl rfl (by first | (simp; done) | decide) ?_
  refine KW.tF rfl rfl (by first | (simp; done) | decide) ?_
  refine KW.cF rfl rfl (by rw [hkM]; simp) ?_
  refine KW.build rfl rfl rfl rfl rfl (built_Matrix2 _ _) ?_
  refine KW.callNV1 rfl rfl rfl rfl rfl (fun H1 g _ => l03Turned (S := Low H1.n) (H0 := H1) (p := p) (k := k2) (by omega) (by omega) hRM (g.has3 (j := 1) rfl) hs2.up) (fun v HT ST mT _ _ hv => ?_)
  obtain ⟨a3, c3, rfl, hT⟩ := hv
  have hCl : (trL M k2).length = k2 := trL_len
  have hRC : Rect p M.length (trL M k2) := trL_rect hRM
  have hMl' := hMl
  generalize hC0 : trL M k2 = C at *
  have hsT := hs0.up (S' := ST) (H' := HT)
  refine KW.lpM rfl rfl (fun s : CpS => [(2, .pointer (some ⟨H.n, 0, some 0⟩)), (3, .pointer (some ⟨H.n + 1, 0, some 1⟩)), (4, .pointer (some ⟨H.n + 2, 0, some 2⟩)), (5, .int .i64 0), (6, .pointer (some ⟨n9, 0, some 3⟩)), (7, .pointer (some ⟨HT.n, 0, some 4⟩)), (8, .int .i64 s.i)]) (fun s => s.S) (fun s => s.A) (fun s => [(H.n, ⟨28, true, [.int .i64 p, .int .i64 k, .slice a1 L.length c1]⟩), (H.n + 1, ⟨28, true, [.int .i64 p, .int .i64 k2, .slice a2 M.length c2]⟩), (H.n + 2, ⟨28, true, [.int .i64 0, .int .i64 0, .slice none 0 0]⟩), (n9, ⟨28, true, [.int .i64 p, .int .i64 k2, s.l]⟩), (HT.n, ⟨28, true, [.int .i64 p, .int .i64 M.length, .slice a3 C.length c3]⟩)] ++ s.tail) (fun s => CqI (fun r => C.map (dotS p r)) L H HT ST s) (fun s => L.length - s.i) (⟨0, ST, HT, fun _ => False, [], .slice none 0 0, []⟩) (⟨RwI.start, .inl ⟨rfl, rfl, rfl, rfl⟩⟩) ⟨rfl, rfl, rfl, rfl, rfl, rfl, rfl, trivial⟩ rfl rfl rfl (fun s hi bE n => ?_)
  obtain ⟨i, S1, A1, V, cs, l, tail⟩ := s
  obtain ⟨hq, hform⟩ := hi
  simp only at hq hform
  haveI : Stp ST HT S1 A1 := ⟨hq.old⟩
  have hle := hq.le
  have hcl := hq.b.len
  rw [List.length_map, List.length_take] at hcl
  simp only at hle hcl
  have hs1 := hsT.up (S' := S1) (H' := A1)
  have hC1 := hT.up (S' := S1) (H' := A1)
  rcases hform with ⟨hi0, e1, e2, e3⟩ | ⟨hi0, o, e1, e2⟩
  case' inl => subst e1 e2 e3
  case' inr => subst e1 e2
  all_goals
    refine KW.cnd rfl rfl (fun j1 => ?gin) (fun j1 => ?gout)
    case gin =>
      have j1 : (i : Int) < (L.length : Int) := j1
      obtain ⟨y, hy⟩ : ∃ y, L[i]? = some y := ⟨L[i]'(by omega), List.getElem?_eq_getElem (by omega)⟩
      have hym := hRL y (List.mem_of_getElem? hy)
      have hye : Elems p y := fun x hx => by have := hym.2 x hx; omega
      refine KW.lit rfl rfl rfl rfl rfl rfl rfl rfl rfl rfl [] rfl rfl (fun v hv => by simp at hv) rfl ?_
      first
        | (refine KW.lpM rfl rfl (fun q : Nat × Nat => [(2, .pointer (some ⟨H.n, 0, some 0⟩)), (3, .pointer (some ⟨H.n + 1, 0, some 1⟩)), (4, .pointer (some ⟨H.n + 2, 0, some 2⟩)), (5, .int .i64 0), (6, .pointer (some ⟨n9, 0, some 3⟩)), (7, .pointer (some ⟨HT.n, 0, some 4⟩)), (8, .int .i64 i), (9, .slice (some ⟨q.2, 0, some 1⟩) ((C.take q.1).map (dotS p y)).length ((C.take q.1).map (dotS p y)).length), (10, .int .i64 q.1)]) (fun _ => S1) (fun _ => A1) (fun q => [(H.n, ⟨28, true, [.int .i64 p, .int .i64 k, .slice a1 L.length c1]⟩), (H.n + 1, ⟨28, true, [.int .i64 p, .int .i64 k2, .slice a2 M.length c2]⟩), (H.n + 2, ⟨28, true, [.int .i64 0, .int .i64 0, .slice none 0 0]⟩), (n9, ⟨28, true, [.int .i64 p, .int .i64 k2, .slice (some ⟨o, 0, some 1⟩) i i]⟩), (HT.n, ⟨28, true, [.int .i64 p, .int .i64 M.length, .slice a3 C.length c3]⟩), (o, ⟨32, true, cs⟩), (q.2, ⟨_, true, ((C.take q.1).map (dotS p y)).map (Value.int .i64)⟩)]) (fun q => q.1 ≤ C.length) (fun q => C.length - q.1) (0, _) (by simp) ⟨rfl, rfl, rfl, rfl, rfl, rfl, rfl, rfl, rfl, trivial⟩ rfl rfl rfl (fun q hj bE n => ?_))
        | (refine KW.lpM rfl rfl (fun q : Nat × Nat => [(2, .pointer (some ⟨H.n, 0, some 0⟩)), (3, .pointer (some ⟨H.n + 1, 0, some 1⟩)), (4, .pointer (some ⟨H.n + 2, 0, some 2⟩)), (5, .int .i64 0), (6, .pointer (some ⟨n9, 0, some 3⟩)), (7, .pointer (some ⟨HT.n, 0, some 4⟩)), (8, .int .i64 i), (9, .slice (some ⟨q.2, 0, some 1⟩) ((C.take q.1).map (dotS p y)).length ((C.take q.1).map (dotS p y)).length), (10, .int .i64 q.1)]) (fun _ => S1) (fun _ => A1) (fun q => [(H.n, ⟨28, true, [.int .i64 p, .int .i64 k, .slice a1 L.length c1]⟩), (H.n + 1, ⟨28, true, [.int .i64 p, .int .i64 k2, .slice a2 M.length c2]⟩), (H.n + 2, ⟨28, true, [.int .i64 0, .int .i64 0, .slice none 0 0]⟩), (n9, ⟨28, true, [.int .i64 p, .int .i64 k2, .slice none 0 0]⟩), (HT.n, ⟨28, true, [.int .i64 p, .int .i64 M.length, .slice a3 C.length c3]⟩), (q.2, ⟨_, true, ((C.take q.1).map (dotS p y)).map (Value.int .i64)⟩)]) (fun q => q.1 ≤ C.length) (fun q => C.length - q.1) (0, _) (by simp) ⟨rfl, rfl, rfl, rfl, rfl, rfl, rfl, rfl, rfl, trivial⟩ rfl rfl rfl (fun q hj bE n => ?_))
      obtain ⟨j, o2⟩ := q
      simp only at hj
      have hjl : ((C.take j).map (dotS p y)).length = j := by rw [List.length_map, List.length_take]; omega
      refine KW.cnd rfl rfl (fun j2 => ?gin2) (fun j2 => ?gout2)
      case gin2 =>
        have j2 : (j : Int) < (C.length : Int) := j2
        refine KW.getL hs1 rfl rfl rfl rfl rfl rfl rfl rfl rfl rfl rfl rfl rfl rfl rfl rfl (by omega) (j1) (fun y2 ay cy hy2 hsy => ?_)
        have hy2 : L[i]? = some y2 := hy2
        rw [hy] at hy2
        cases hy2
        refine KW.getL hC1 rfl rfl rfl rfl rfl rfl rfl rfl rfl rfl rfl rfl rfl rfl rfl rfl (by omega) (j2) (fun z az cz hz hsz => ?_)
        have hz : C[j]? = some z := hz
        have hzm := hRC z (List.mem_of_getElem? hz)
        refine KW.callE rfl rfl rfl rfl rfl (l03Dot p hp (by omega) (by omega) hye (fun x hx => by have := hzm.2 x hx; omega) hsy hsz) (fun _ _ => ?_)
        have enx : (C.take (j + 1)).map (dotS p y) = (C.take j).map (dotS p y) ++ [dotS p y z] := map_take_succ _ hz
        first
          | (refine KW.app1 (xs := ((C.take j).map (dotS p y)).map (Value.int .i64)) (v := .int .i64 (dotS p y z)) 6 7 rfl rfl rfl rfl rfl rfl rfl rfl rfl rfl rfl rfl rfl rfl rfl rfl rfl rfl rfl rfl rfl rfl rfl (by simp) (by show (_ + 1) * 8 ≤ _; simp only; omega) (by simp only; omega) ?_
             exact KW.nxt rfl rfl (fun H' g => ⟨(j + 1, _), by simp only; omega, by simp only; omega, ⟨rfl, rfl, rfl, rfl, rfl, rfl, rfl, by simp only [enx, List.length_append, List.length_singleton]; rfl, congrArg (Value.int .i64) (inc64 (by omega)), trivial⟩, g.eqT (by simp only [enx, List.map_append]; rfl)⟩))
          | (refine KW.app1 (xs := ((C.take j).map (dotS p y)).map (Value.int .i64)) (v := .int .i64 (dotS p y z)) 5 6 rfl rfl rfl rfl rfl rfl rfl rfl rfl rfl rfl rfl rfl rfl rfl rfl rfl rfl rfl rfl rfl rfl rfl (by simp) (by show (_ + 1) * 8 ≤ _; simp only; omega) (by simp only; omega) ?_
             exact KW.nxt rfl rfl (fun H' g => ⟨(j + 1, _), by simp only; omega, by simp only; omega, ⟨rfl, rfl, rfl, rfl, rfl, rfl, rfl, by simp only [enx, List.length_append, List.length_singleton]; rfl, congrArg (Value.int .i64) (inc64 (by omega)), trivial⟩, g.eqT (by simp only [enx, List.map_append]; rfl)⟩))
      case gout2 =>
        obtain rfl : j = C.length := by have j2 : ¬ (j : Int) < (C.length : Int) := j2; omega
        rw [List.take_of_length_le (Nat.le_refl _)]
        first
          | (refine KW.freeze 6 rfl (fun A' S' hnA hSA stA hmA hoA hnS hlow => ?_)
             have hoH : H.n ≤ o2 := by
               rcases Nat.lt_or_ge o2 H.n with h | h
               · exact absurd (hq.old o2 ((inferInstance : On (Low H.n) H ST HT).st o2 h).1).1 hnS
               · exact h
             refine KW.app1 (xs := cs) (v := .slice (some ⟨o2, 0, some 1⟩) (C.map (dotS p y)).length (C.map (dotS p y)).length) 5 6 rfl rfl rfl rfl rfl rfl rfl rfl rfl rfl rfl rfl rfl rfl rfl rfl rfl rfl rfl rfl rfl rfl rfl (by omega) (by show (_ + 1) * 24 ≤ _; omega) (by omega) ?_
             exact KW.nxt rfl rfl (fun H' g => ⟨⟨i + 1, S', A', _, _, _, _⟩, ⟨hq.nextX (o' := 0) stA.st (X := fun id => id = o2) (fun id e => by subst e; exact ⟨(hSA _).2 (.inr rfl), hoH, hnS⟩) hy (row_ml hmA), .inr ⟨by simp only; omega, _, rfl, rfl⟩⟩, by simp only; omega, ⟨rfl, rfl, rfl, rfl, rfl, rfl, congrArg (Value.int .i64) (inc64 (by omega)), trivial⟩, g⟩))
          | (refine KW.freeze 5 rfl (fun A' S' hnA hSA stA hmA hoA hnS hlow => ?_)
             have hoH : H.n ≤ o2 := by
               rcases Nat.lt_or_ge o2 H.n with h | h
               · exact absurd (hq.old o2 ((inferInstance : On (Low H.n) H ST HT).st o2 h).1).1 hnS
               · exact h
             refine KW.app0 (v := .slice (some ⟨o2, 0, some 1⟩) (C.map (dotS p y)).length (C.map (dotS p y)).length) 5 rfl rfl rfl rfl rfl rfl rfl rfl rfl rfl rfl rfl rfl rfl rfl rfl rfl rfl rfl rfl rfl rfl (by decide) ?_
             subst hi0
             exact KW.nxt rfl rfl (fun H' g => ⟨⟨1, S', A', _, _, _, _⟩, ⟨hq.nextX (o' := 0) stA.st (X := fun id => id = o2) (fun id e => by subst e; exact ⟨(hSA _).2 (.inr rfl), hoH, hnS⟩) hy (row_ml hmA), .inr ⟨by simp only; omega, _, rfl, rfl⟩⟩, by simp only; omega, ⟨rfl, rfl, rfl, rfl, rfl, rfl, rfl, trivial⟩, g⟩))
    case gout =>
      have j1 : ¬ (i : Int) < (L.length : Int) := j1
      have he : i = L.length := by omega
      have el : (prodL p L C).length = L.length := by simp [prodL]
      refine KW.retM1 rfl rfl rfl rfl (fun H1 g => ?_)
      first
        | (have h0 : L = [] := List.eq_nil_of_length_eq_zero (by omega)
           subst h0
           exact ⟨_, rfl, none, 0, rfl, .inl ⟨rfl, _, _, rfl, fun _ => rfl⟩⟩)
        | (refine ⟨_, rfl, _, _, by rw [el, he]; rfl, ?_⟩
           have hm := (⟨hq.le, hq.old, hq.b, hq.v⟩ : RwI (fun r => C.map (dotS p r)) L H ST HT ⟨i, S1, A1, V, cs, o⟩).ml he g (j := 5) rfl (g.ge (H1 := H) (j := 5) rfl)
           rw [el]
           exact hm)
end
end Go.Proofs.Ytmkpfllbmdahkaa.Am
/- Contract: the matrix that the reference draws. It holds under its own conditions. -/
set_option linter.unusedVariables false
set_option linter.unusedSimpArgs false
set_option maxRecDepth 20000
set_option maxHeartbeats 4000000
namespace Go.Proofs.Ytmkpfllbmdahkaa.Am
open Go Go.RowKit Go.Proofs Go.Proofs.Ytmkpfllbmdahkaa.Pl
structure FlS where
  i : Nat
  S : Ids
  A : AH
  at_ : Nat
  V : Ids
  G : List (List Int)
  cs : List Value
  l : Value
  tail : List Var
structure FlI (p : Int) (k a0 : Nat) (H : AH) (id : Nat) (ac : Option Addr) (n cc : Nat) (s : FlS) : Prop where
  env : DwE H id s.S s.A
  src : Src ac n cc s.A id s.at_
  at1 : s.at_ ≤ a0 + 20 * s.i
  len : s.G.length = s.i
  b : RowsB KI.ml s.S s.A s.V s.G s.cs
  v : ∀ i, s.V i → H.n ≤ i
  ok : Rect p k s.G
  form : (s.i = 0 ∧ s.l = .slice none 0 0 ∧ s.tail = [] ∧ s.cs = []) ∨ (0 < s.i ∧ ∃ o, s.l = .slice (some ⟨o, 0, some 1⟩) s.i s.i ∧ s.tail = [(o, ⟨32, true, s.cs⟩)])
structure FiI (p : Int) (a0 : Nat) (H : AH) (id : Nat) (ac : Option Addr) (n cc : Nat) (V : Ids) (G : List (List Int)) (cs : List Value) (s : DiS) : Prop where
  env : DwE H id s.S s.A
  src : Src ac n cc s.A id s.at_
  at1 : s.at_ ≤ a0 + 2 * s.h
  b : RowsB KI.ml s.S s.A V G cs
  ok : ∀ x ∈ s.xs, 0 ≤ x ∧ x < p
  len : s.xs.length = s.h
section
variable {S : Ids} {H0 : AH}
theorem l03Filled {bs : List Int} (hb : ∀ x ∈ bs, 0 ≤ x ∧ x < 256) (hl : bs.length ≤ 1048576) {ac : Option Addr} {cc id at_ : Nat} {Y : Ids} {p : Int} (hp : 2 ≤ p ∧ p ≤ 31) {rs k : Nat} (hrs : rs ≤ 6) (hk : k ≤ 6) (hat : at_ ≤ 700000) (hS : S id) (hY : ∀ i, Y i → S i ∧ i ≠ id) (hsrc : Src ac bs.length cc H0 id at_) (hs : KB.Sl Y H0 (.slice ac bs.length cc) bs) :
    SpecW Try.prog S H0 (fun i => i = id) 134 [.pointer (some ⟨id, 0, none⟩), .int .i64 p, .int .i64 rs, .int .i64 k] (fun n v H1 => ∃ (L : List (List Int)) (at' : Nat), L.length = rs ∧ Rect p k L ∧ at' ≤ at_ + 200 ∧ MkMo p k L n v H1 ∧ Src ac bs.length cc H1 id at') := by
  refine SpecW.of0 Try.func134 rfl (by kernel_rfl) rfl (fun H hfin hfz => ?_)
  have fx : ∀ i, S i → Low H.n i ∧ H.m i = H0.m i := fun i hi => hfz i hi
  have hid : id < H.n := (fx id hS).1
  have hsH := hs.stX (S' := fun i => Low H.n i ∧ i ≠ id) (H' := H) (fun i hi => ⟨⟨(fx i (hY i hi).1).1, (hY i hi).2⟩, (fx i (hY i hi).1).2⟩)
  have E0 : DwE H id (Low H.n) H := ⟨hid, fun i hi => ⟨hi.1, rfl⟩⟩
  refine KW.build rfl rfl rfl rfl rfl (built_Matrix2 _ _) ?_
  refine KW.lpM rfl rfl (fun s : FlS => [(0, .pointer (some ⟨id, 0, none⟩)), (1, .int .i64 p), (2, .int .i64 rs), (3, .int .i64 k), (8, .pointer (some ⟨H.n, 0, some 0⟩)), (9, .pointer (some ⟨H.n + 1, 0, some 1⟩)), (10, .int .i64 s.i)]) (fun s => s.S) (fun s => s.A) (fun s => [(H.n, ⟨28, true, [.int .i64 0, .int .i64 0, .slice none 0 0]⟩), (H.n + 1, ⟨28, true, [.int .i64 p, .int .i64 k, s.l]⟩)] ++ s.tail) (fun s => s.i ≤ rs ∧ FlI p k at_ H id ac bs.length cc s) (fun s => rs - s.i) (⟨0, Low H.n, H, at_, fun _ => False, [], [], .slice none 0 0, []⟩) (⟨Nat.zero_le _, E0, hsrc.mv (fx id hS).2, Nat.le_refl _, rfl, RowsB.nil _ _, fun _ h => h.elim, fun r hr => by simp at hr, .inl ⟨rfl, rfl, rfl, rfl⟩⟩) ⟨rfl, rfl, rfl, rfl, rfl, rfl, rfl, trivial⟩ rfl rfl rfl (fun s hi bE n => ?_)
  obtain ⟨i, S1, A1, a1, V, G, cs, l, tail⟩ := s
  obtain ⟨hil, E1, src1, at1, lenG, b1, v1, okG, hform⟩ := hi
  simp only at hil E1 src1 at1 lenG b1 v1 okG hform
  have hcl := b1.len
  have vne : ∀ i, V i → i ≠ id := fun i hi e => by have := v1 i hi; omega
  rcases hform with ⟨hi0, e1, e2, e3⟩ | ⟨hi0, o, e1, e2⟩
  case inl =>
    subst e1 e2 e3
    refine KW.cnd rfl rfl (fun k1 => ?gin) (fun k1 => ?gout)
    case gin =>
      have k1 : (i : Int) < (rs : Int) := k1
      refine KW.ids (fun hlow hvar => ?_)
      have hnn := E1.nle hlow
      refine KW.lit rfl rfl rfl rfl rfl rfl rfl rfl rfl rfl [] rfl rfl (fun v hv => by simp at hv) rfl ?_
      refine KW.lpM rfl rfl (fun s : DiS => [(0, .pointer (some ⟨id, 0, none⟩)), (1, .int .i64 p), (2, .int .i64 rs), (3, .int .i64 k), (8, .pointer (some ⟨H.n, 0, some 0⟩)), (9, .pointer (some ⟨H.n + 1, 0, some 1⟩)), (10, .int .i64 i), (11, .slice (some ⟨s.o, 0, some 1⟩) s.xs.length s.xs.length), (12, .int .i64 s.h)]) (fun s => s.S) (fun s => s.A) (fun s => [(H.n, ⟨28, true, [.int .i64 0, .int .i64 0, .slice none 0 0]⟩), (H.n + 1, ⟨28, true, [.int .i64 p, .int .i64 k, .slice none 0 0]⟩)] ++ [(s.o, (⟨2, true, s.xs.map (Value.int .i64)⟩ : Blk))]) (fun s => s.h ≤ k ∧ FiI p a1 H id ac bs.length cc V G [] s) (fun s => k - s.h) ⟨0, S1, A1, a1, [], _⟩ ⟨Nat.zero_le _, E1, src1, Nat.le_refl _, b1, fun x hx => by simp at hx, rfl⟩ ⟨rfl, rfl, rfl, rfl, rfl, rfl, rfl, rfl, rfl, trivial⟩ rfl rfl rfl (fun s hi bE n => ?_)
      obtain ⟨h, S4, A4, a4, xs, o4⟩ := s
      obtain ⟨hq4, E4, src4, at4, b4, ok4, len4⟩ := hi
      simp only at hq4 E4 src4 at4 b4 ok4 len4
      refine KW.cnd rfl rfl (fun k2 => ?hin) (fun k2 => ?hout)
      case hin =>
        have k2 : (h : Int) < (k : Int) := k2
        refine KW.callW (W := fun i => i = id) (fun i hi => by subst hi; exact E4.sid) rfl rfl rfl rfl rfl (srcPick (S := S4) (H0 := A4) hb hl (n := p) (by omega) (by omega) E4.sid (fun i hi => hi) src4 (E4.kb hsH)) (fun v H5 S5 hn5 st5 hw5 hp => ?_)
        obtain ⟨z5, a5, hz5, l5, u5, rfl, src5⟩ := hp
        have hz5 := hz5 (by omega)
        have b5 := b4.mv (S' := S5) (A' := H5) (fun i hi => ⟨(st5 i (b4.sub i hi)).1, (st5 i (b4.sub i hi)).2 (vne i hi)⟩)
        refine KW.app1 (xs := xs.map (Value.int .i64)) (v := .int .i64 z5) 2 3 rfl rfl rfl rfl rfl rfl rfl rfl rfl rfl rfl rfl rfl rfl rfl rfl rfl rfl rfl rfl rfl rfl rfl (by simp) (by show (xs.length + 1) * 8 ≤ _; omega) (by show xs.length + 1 ≤ _; omega) ?_
        exact KW.nxt rfl rfl (fun H' g => ⟨⟨h + 1, S5, H5, a5, xs ++ [(z5 : Int)], _⟩, ⟨by simp only; omega, E4.w st5, src5, by simp only; omega, b5, fun x hx => (List.mem_append.1 hx).elim (ok4 x) (fun hx => by rw [List.mem_singleton.1 hx]; omega), by simp only [List.length_append, List.length_singleton]; omega⟩, by simp only; omega, ⟨rfl, rfl, rfl, rfl, rfl, rfl, rfl, by simp only [List.length_append, List.length_singleton]; rfl, congrArg (Value.int .i64) (inc64 (by omega)), trivial⟩, g.eqT (by simp only [List.map_append]; rfl)⟩)
      case hout =>
        have k2 : ¬ (h : Int) < (k : Int) := k2
        have ehk : h = k := by omega
        refine KW.freeze 2 rfl (fun A6 S6 hn6 hS6 st6 hm6 ho6 hnS6 hlow6 => ?_)
        have o6ge : ∀ i, S6 i ∧ ¬ S4 i → H.n ≤ i := fun i hi => by
          rcases Nat.lt_or_ge i H.n with hh | hh
          · by_cases e : i = id
            · exact (hi.2 (e ▸ E4.sid)).elim
            · exact (hi.2 (E4.old i ⟨hh, e⟩).1).elim
          · exact hh
        have fI := (b4.mv (S' := S6) (A' := A6) (fun i hi => st6.st i (b4.sub i hi))).snoc (ml1' (row_ml (xs := xs) hm6)) (fun i hi => (hS6 i).2 (.inr hi)) (fun i p r => hnS6 (r ▸ b4.sub i p))
        have fok : Rect p k (G ++ [xs]) := fun r hr => (List.mem_append.1 hr).elim (okG r) (fun hr => by rw [List.mem_singleton.1 hr]; exact ⟨len4.trans ehk, ok4⟩)
        have fV : ∀ j, V j ∨ j = o4 → H.n ≤ j := fun j hj => hj.elim (v1 j) (fun e => o6ge j ⟨(hS6 j).2 (.inr e), fun hx => hnS6 (e ▸ hx)⟩)
        subst hi0
        refine KW.app0 (v := .slice (some ⟨o4, 0, some 1⟩) xs.length xs.length) 2 rfl rfl rfl rfl rfl rfl rfl rfl rfl rfl rfl rfl rfl rfl rfl rfl rfl rfl rfl rfl rfl rfl (by decide) ?_
        exact KW.nxt rfl rfl (fun H' g => ⟨⟨1, S6, A6, a4, _, G ++ [xs], _, _, _⟩, ⟨by simp only; omega, E4.s st6.st, src4.mv (st6.st id E4.sid).2, by simp only; omega, by simp only [List.length_append, List.length_singleton]; omega, fI, fV, fok, .inr ⟨by simp only; omega, _, rfl, rfl⟩⟩, by simp only; omega, ⟨rfl, rfl, rfl, rfl, rfl, rfl, rfl, trivial⟩, g⟩)
    case gout =>
      have k1 : ¬ (i : Int) < (rs : Int) := k1
      have er : rs = 0 := by omega
      subst er
      refine KW.ids (fun hlow hvar => ?_)
      have hnn := E1.nle hlow
      refine KW.tno rfl rfl (by omega) ?_
      refine KW.cF rfl rfl (by first | (simp; done) | decide) ?_
      refine KW.retW rfl rfl rfl rfl (fun H9 g => by have := g.n_; omega) (fun i hi hw => E1.old i ⟨hi, hw⟩) (fun H9 g => ⟨[], a1, rfl, fun r hr => by simp at hr, by omega, ⟨none, 0, rfl, .inl ⟨rfl, _, _, rfl, fun _ => rfl⟩⟩, src1.mv (g.froz id E1.sid).2⟩)
  case inr =>
    subst e1 e2
    refine KW.cnd rfl rfl (fun k1 => ?gin) (fun k1 => ?gout)
    case gin =>
      have k1 : (i : Int) < (rs : Int) := k1
      refine KW.ids (fun hlow hvar => ?_)
      have hnn := E1.nle hlow
      refine KW.lit rfl rfl rfl rfl rfl rfl rfl rfl rfl rfl [] rfl rfl (fun v hv => by simp at hv) rfl ?_
      refine KW.lpM rfl rfl (fun s : DiS => [(0, .pointer (some ⟨id, 0, none⟩)), (1, .int .i64 p), (2, .int .i64 rs), (3, .int .i64 k), (8, .pointer (some ⟨H.n, 0, some 0⟩)), (9, .pointer (some ⟨H.n + 1, 0, some 1⟩)), (10, .int .i64 i), (11, .slice (some ⟨s.o, 0, some 1⟩) s.xs.length s.xs.length), (12, .int .i64 s.h)]) (fun s => s.S) (fun s => s.A) (fun s => [(H.n, ⟨28, true, [.int .i64 0, .int .i64 0, .slice none 0 0]⟩), (H.n + 1, ⟨28, true, [.int .i64 p, .int .i64 k, .slice (some ⟨o, 0, some 1⟩) i i]⟩), (o, ⟨32, true, cs⟩)] ++ [(s.o, (⟨2, true, s.xs.map (Value.int .i64)⟩ : Blk))]) (fun s => s.h ≤ k ∧ FiI p a1 H id ac bs.length cc V G cs s) (fun s => k - s.h) ⟨0, S1, A1, a1, [], _⟩ ⟨Nat.zero_le _, E1, src1, Nat.le_refl _, b1, fun x hx => by simp at hx, rfl⟩ ⟨rfl, rfl, rfl, rfl, rfl, rfl, rfl, rfl, rfl, trivial⟩ rfl rfl rfl (fun s hi bE n => ?_)
      obtain ⟨h, S4, A4, a4, xs, o4⟩ := s
      obtain ⟨hq4, E4, src4, at4, b4, ok4, len4⟩ := hi
      simp only at hq4 E4 src4 at4 b4 ok4 len4
      refine KW.cnd rfl rfl (fun k2 => ?hin) (fun k2 => ?hout)
      case hin =>
        have k2 : (h : Int) < (k : Int) := k2
        refine KW.callW (W := fun i => i = id) (fun i hi => by subst hi; exact E4.sid) rfl rfl rfl rfl rfl (srcPick (S := S4) (H0 := A4) hb hl (n := p) (by omega) (by omega) E4.sid (fun i hi => hi) src4 (E4.kb hsH)) (fun v H5 S5 hn5 st5 hw5 hp => ?_)
        obtain ⟨z5, a5, hz5, l5, u5, rfl, src5⟩ := hp
        have hz5 := hz5 (by omega)
        have b5 := b4.mv (S' := S5) (A' := H5) (fun i hi => ⟨(st5 i (b4.sub i hi)).1, (st5 i (b4.sub i hi)).2 (vne i hi)⟩)
        refine KW.app1 (xs := xs.map (Value.int .i64)) (v := .int .i64 z5) 3 4 rfl rfl rfl rfl rfl rfl rfl rfl rfl rfl rfl rfl rfl rfl rfl rfl rfl rfl rfl rfl rfl rfl rfl (by simp) (by show (xs.length + 1) * 8 ≤ _; omega) (by show xs.length + 1 ≤ _; omega) ?_
        exact KW.nxt rfl rfl (fun H' g => ⟨⟨h + 1, S5, H5, a5, xs ++ [(z5 : Int)], _⟩, ⟨by simp only; omega, E4.w st5, src5, by simp only; omega, b5, fun x hx => (List.mem_append.1 hx).elim (ok4 x) (fun hx => by rw [List.mem_singleton.1 hx]; omega), by simp only [List.length_append, List.length_singleton]; omega⟩, by simp only; omega, ⟨rfl, rfl, rfl, rfl, rfl, rfl, rfl, by simp only [List.length_append, List.length_singleton]; rfl, congrArg (Value.int .i64) (inc64 (by omega)), trivial⟩, g.eqT (by simp only [List.map_append]; rfl)⟩)
      case hout =>
        have k2 : ¬ (h : Int) < (k : Int) := k2
        have ehk : h = k := by omega
        refine KW.freeze 3 rfl (fun A6 S6 hn6 hS6 st6 hm6 ho6 hnS6 hlow6 => ?_)
        have o6ge : ∀ i, S6 i ∧ ¬ S4 i → H.n ≤ i := fun i hi => by
          rcases Nat.lt_or_ge i H.n with hh | hh
          · by_cases e : i = id
            · exact (hi.2 (e ▸ E4.sid)).elim
            · exact (hi.2 (E4.old i ⟨hh, e⟩).1).elim
          · exact hh
        have fI := (b4.mv (S' := S6) (A' := A6) (fun i hi => st6.st i (b4.sub i hi))).snoc (ml1' (row_ml (xs := xs) hm6)) (fun i hi => (hS6 i).2 (.inr hi)) (fun i p r => hnS6 (r ▸ b4.sub i p))
        have fok : Rect p k (G ++ [xs]) := fun r hr => (List.mem_append.1 hr).elim (okG r) (fun hr => by rw [List.mem_singleton.1 hr]; exact ⟨len4.trans ehk, ok4⟩)
        have fV : ∀ j, V j ∨ j = o4 → H.n ≤ j := fun j hj => hj.elim (v1 j) (fun e => o6ge j ⟨(hS6 j).2 (.inr e), fun hx => hnS6 (e ▸ hx)⟩)
        refine KW.app1 (xs := cs) (v := .slice (some ⟨o4, 0, some 1⟩) xs.length xs.length) 2 3 rfl rfl rfl rfl rfl rfl rfl rfl rfl rfl rfl rfl rfl rfl rfl rfl rfl rfl rfl rfl rfl rfl rfl (by omega) (by show (_ + 1) * 24 ≤ _; omega) (by omega) ?_
        exact KW.nxt rfl rfl (fun H' g => ⟨⟨i + 1, S6, A6, a4, _, G ++ [xs], _, _, _⟩, ⟨by simp only; omega, E4.s st6.st, src4.mv (st6.st id E4.sid).2, by simp only; omega, by simp only [List.length_append, List.length_singleton]; omega, fI, fV, fok, .inr ⟨by simp only; omega, _, rfl, rfl⟩⟩, by simp only; omega, ⟨rfl, rfl, rfl, rfl, rfl, rfl, congrArg (Value.int .i64) (inc64 (by omega)), trivial⟩, g⟩)
    case gout =>
      have k1 : ¬ (i : Int) < (rs : Int) := k1
      have er : i = rs := by omega
      subst er
      refine KW.ids (fun hlow hvar => ?_)
      have hnn := E1.nle hlow
      have oge : H.n ≤ o := by
        have h2 := (hvar 2 o _ rfl).2
        rcases Nat.lt_or_ge o H.n with hh | hh
        · by_cases e : o = id
          · exact (h2 (e ▸ E1.sid)).elim
          · exact (h2 (E1.old o ⟨hh, e⟩).1).elim
        · exact hh
      have fin : ∀ {S9 : Ids} {A9 : AH} {n9 : Nat} {e9 : Env} {G9 : List (List Int)} {a9 : Nat}, True := fun {_ _ _ _ _ _} => trivial
      refine KW.tst rfl rfl (fun k3 => ?_) (fun k3 => ?_)
      · have k3 : (i : Int) > 1 := k3
        have mvb : ∀ {S S' : Ids} {A A' : AH}, RowsB KI.ml S A V G cs → StW (fun i => i = id) S A S' A' → RowsB KI.ml S' A' V G cs := fun b st => b.mv (fun i hi => ⟨(st i (b.sub i hi)).1, (st i (b.sub i hi)).2 (vne i hi)⟩)
        refine KW.callW (W := fun i => i = id) (fun i hi => by subst hi; exact E1.sid) rfl rfl rfl rfl rfl (srcOne (S := S1) (H0 := A1) hb hl (n := 3) (by omega) (by omega) E1.sid (fun i hi => hi) src1 (E1.kb hsH)) (fun v H5 S5 hn5 st5 hw5 hp => ?_)
        obtain ⟨b0, a5, l5, u5, rfl, src5⟩ := hp
        have E5 := E1.w st5
        have b5 := mvb b1 st5
        refine KW.cndB rfl rfl (fun k4 => ?_) (fun k4 => ?_)
        · refine KW.callW (W := fun i => i = id) (fun i hi => by subst hi; exact E5.sid) rfl rfl rfl rfl rfl (srcPick (S := S5) (H0 := H5) hb hl (n := (i : Int)) (by omega) (by omega) E5.sid (fun i hi => hi) src5 (E5.kb hsH)) (fun v H6 S6 hn6 st6 hw6 hp => ?_)
          obtain ⟨z6, a6, hz6, l6, u6, rfl, src6⟩ := hp
          have hz6 := hz6 (by omega)
          have E6 := E5.w st6
          have b6 := mvb b5 st6
          refine KW.callW (W := fun i => i = id) (fun i hi => by subst hi; exact E6.sid) rfl rfl rfl rfl rfl (srcPick (S := S6) (H0 := H6) hb hl (n := (i : Int)) (by omega) (by omega) E6.sid (fun i hi => hi) src6 (E6.kb hsH)) (fun v H7 S7 hn7 st7 hw7 hp => ?_)
          obtain ⟨z7, a7, hz7, l7, u7, rfl, src7⟩ := hp
          have hz7 := hz7 (by omega)
          have E7 := E6.w st7
          have b7 := mvb b6 st7
          obtain ⟨x6, hx6, _⟩ := at_of (L := G) (k := z6) (by omega)
          obtain ⟨x7, hx7, _⟩ := at_of (L := G) (k := z7) (by omega)
          obtain ⟨v6, W, hv6, hm6, hWV, hrest, hclose⟩ := b7.row1 hx6
          have ok6 := okG.at hx6
          have ok7 := okG.at hx7
          rcases hm6 with ⟨hx0, a0, c0, rfl, _⟩ | ⟨o8, c8, bb, Ws, rfl, h2, h3, h4, h5, h6, h7, h8, h9⟩
          · have hk0 : k = 0 := by rw [← ok6.1, hx0]; rfl
            subst hk0
            refine KW.lp rfl rfl (fun _ : Unit => [(3, .int .i64 (0 : Nat)), (8, .pointer (some ⟨H.n, 0, some 0⟩)), (9, .pointer (some ⟨H.n + 1, 0, some 1⟩)), (15, .int .i64 0)]) (fun _ => True) (fun _ => 0) (()) (trivial) ⟨rfl, rfl, rfl, rfl, trivial⟩ (fun _ hi bE n => ?_)
            refine KW.cF rfl rfl (by first | (simp; done) | decide) ?_
            refine KW.ids (fun hlow9 hvar9 => ?_)
            have hnn9 := E7.nle hlow9
            refine KW.retW rfl rfl rfl rfl (fun H9 g => by have := g.n_; omega) (fun i hi hw => (E7).old i ⟨hi, hw⟩) (fun H9 g => ⟨G, a7, lenG, okG, by omega, ⟨some ⟨o, 0, some 1⟩, i, by rw [lenG]; rfl, ?_⟩, (src7).mv (g.froz id (E7).sid).2⟩)
            have hm := (b7).ml (X := New H.n H9.n) rfl g (j := 2) rfl ⟨oge, by have h1 : o < _ := (g.vars 2 _ rfl).2.1; have := g.n_; omega⟩ (fun i hi => ⟨v1 i hi, by have := (g.froz i ((b7).sub i hi)).1; have := g.n_; omega⟩)
            rw [lenG] at hm ⊢
            exact hm
          · have ho8V := hWV o8 h3
            have ho8S := b7.sub o8 ho8V
            have ho8g := v1 o8 ho8V
            obtain ⟨ty8, rw8, cells8⟩ := bb
            obtain rfl : rw8 = true := h5
            have h6 : x6.length * 1 ≤ cells8.length := h6
            have hget : ∀ (q : Nat) y, x6[q]? = some y → cells8[q]? = some (.int .i64 y) := fun q y hq => by
              have h := cell_of (m := 0 + q * 1) (h9 q y hq)
              rw [Nat.zero_add, Nat.mul_one] at h
              exact h
            refine KW.thaw o8 _ ho8S h4 ?_
            have E8 : DwE H id (fun i => S7 i ∧ i ≠ o8) H7 := ⟨⟨E7.sid, fun e => by omega⟩, fun i hi => ⟨⟨(E7.old i hi).1, fun e => by have h1 : i < H.n := hi.1; omega⟩, (E7.old i hi).2⟩⟩
            have row7 : z7 ≠ z6 → ∃ a c, cs[z7]? = some (.slice a x7.length c) ∧ KI.Sl (fun i => S7 i ∧ i ≠ o8) H7 (.slice a x7.length c) x7 := fun hne => by
              obtain ⟨u, X, hu, hmu, hXV⟩ := hrest z7 x7 hne hx7
              obtain ⟨a, c, rfl⟩ := sl_form hmu.sl
              exact ⟨a, c, hu, hmu.sl.stX (fun i hi => ⟨⟨b7.sub i (hXV i hi).1, fun e => (hXV i hi).2 (e ▸ h3)⟩, rfl⟩)⟩
            refine KW.lpM rfl rfl (fun s : Nat × List Int × List Value => [(1, .int .i64 p), (3, .int .i64 k), (8, .pointer (some ⟨H.n, 0, some 0⟩)), (9, .pointer (some ⟨H.n + 1, 0, some 1⟩)), (13, .int .i64 z6), (14, .int .i64 z7), (15, .int .i64 s.1)]) (fun s => fun i => S7 i ∧ i ≠ o8) (fun s => H7) (fun s => [(H.n, ⟨28, true, [.int .i64 0, .int .i64 0, .slice none 0 0]⟩), (H.n + 1, ⟨28, true, [.int .i64 p, .int .i64 k, .slice (some ⟨o, 0, some 1⟩) i i]⟩), (o, ⟨32, true, cs⟩), (o8, ⟨ty8, true, s.2.2⟩)]) (fun s => s.1 ≤ k ∧ s.2.1.length = k ∧ (∀ y ∈ s.2.1, 0 ≤ y ∧ y < p) ∧ s.2.2.length = cells8.length ∧ ∀ (q : Nat) y, s.2.1[q]? = some y → s.2.2[q]? = some (.int .i64 y)) (fun s => k - s.1) ((0, x6, cells8)) (⟨Nat.zero_le _, ok6.1, ok6.2, rfl, hget⟩) ⟨rfl, rfl, rfl, rfl, rfl, rfl, rfl, trivial⟩ rfl rfl rfl (fun s hi bE n => ?_)
            obtain ⟨x, ys, cy⟩ := s
            obtain ⟨m1, m2, m3, m4, m5⟩ := hi
            simp only at m1 m2 m3 m4 m5
            refine KW.cnd rfl rfl (fun k5 => ?win) (fun k5 => ?wout)
            case win =>
              have k5 : (x : Int) < (k : Int) := k5
              refine KW.idx0 rfl rfl rfl rfl rfl rfl rfl rfl rfl (Int.natCast_nonneg _) (hz6) ?_
              refine KW.ldT 2 rfl rfl rfl rfl rfl rfl (bload_at (by show cs[0 + ((z6 : Int)).toNat * 1]? = _; rw [Int.toNat_natCast, Nat.zero_add, Nat.mul_one]; exact hv6) rfl rfl) ?_
              refine KW.idx0 rfl rfl rfl rfl rfl rfl rfl rfl rfl (Int.natCast_nonneg _) (hz7) ?_
              by_cases hz : z7 = z6
              · subst hz
                refine KW.ldT 2 rfl rfl rfl rfl rfl rfl (bload_at (by show cs[0 + ((z7 : Int)).toNat * 1]? = _; rw [Int.toNat_natCast, Nat.zero_add, Nat.mul_one]; exact hv6) rfl rfl) ?_
                refine KW.idx0 rfl rfl rfl rfl rfl rfl rfl rfl rfl (Int.natCast_nonneg _) (by rw [ok6.1]; exact k5) ?_
                obtain ⟨yv, hyv⟩ : ∃ yv, ys[x]? = some yv := ⟨ys[x]'(by omega), List.getElem?_eq_getElem (by omega)⟩
                have hyb := m3 yv (List.mem_of_getElem? hyv)
                refine KW.ldT 3 rfl rfl rfl rfl rfl rfl (bload_at (by show cy[0 + ((x : Int)).toNat * 1]? = _; rw [Int.toNat_natCast, Nat.zero_add, Nat.mul_one]; exact m5 x yv hyv) rfl rfl) ?_
                have ew : IntKind.i64.wrap (yv * 2) = yv * 2 := wr (by omega) (by omega)
                refine KW.rem rfl rfl rfl rfl rfl rfl (by rw [ew]; omega) (by omega) ?_
                refine KW.idx0 rfl rfl rfl rfl rfl rfl rfl rfl rfl (Int.natCast_nonneg _) (by rw [ok6.1]; exact k5) ?_
                refine KW.st1 3 rfl rfl rfl rfl rfl rfl rfl rfl rfl rfl rfl rfl (by show 0 + ((x : Int)).toNat * 1 < cy.length; rw [Int.toNat_natCast]; omega) ?_
                have hb1 : 0 ≤ IntKind.i64.wrap (yv * 2) % p ∧ IntKind.i64.wrap (yv * 2) % p < p := ⟨Int.emod_nonneg _ (by omega), Int.emod_lt_of_pos _ (by omega)⟩
                exact KW.nxt rfl rfl (fun H' g => ⟨(x + 1, ys.set x (IntKind.i64.wrap (yv * 2) % p), cy.set x (.int .i64 (IntKind.i64.wrap (yv * 2) % p))), ⟨by simp only; omega, by simp only [List.length_set]; exact m2, fun y hy => (List.mem_or_eq_of_mem_set hy).elim (m3 y) (fun e => by rw [e]; exact hb1), by simp only [List.length_set]; exact m4, fun q y hq => by
                  simp only [List.getElem?_set] at hq ⊢
                  split at hq
                  · rename_i e
                    subst e
                    rw [if_pos (by omega)] at hq
                    cases hq
                    rw [if_pos rfl, if_pos (by omega)]
                  · rename_i e
                    rw [if_neg e]
                    exact m5 q y hq⟩, by simp only; omega, ⟨rfl, rfl, rfl, rfl, rfl, rfl, congrArg (Value.int .i64) (inc64 (by omega)), trivial⟩, g.eqT (by
                  show [(H.n, (⟨28, true, [.int .i64 0, .int .i64 0, .slice none 0 0]⟩ : Blk)), (H.n + 1, ⟨28, true, [.int .i64 p, .int .i64 k, .slice (some ⟨o, 0, some 1⟩) i i]⟩), (o, ⟨32, true, cs⟩), (o8, ⟨ty8, true, cy.set (0 + ((x : Int)).toNat * 1) _⟩)] = _
                  rw [Int.toNat_natCast, Nat.zero_add, Nat.mul_one]
                  rfl)⟩)
              · obtain ⟨ay, cy7, hcy, hsy⟩ := row7 hz
                refine KW.ldT 2 rfl rfl rfl rfl rfl rfl (bload_at (by show cs[0 + ((z7 : Int)).toNat * 1]? = _; rw [Int.toNat_natCast, Nat.zero_add, Nat.mul_one]; exact hcy) rfl rfl) ?_
                refine KW.getI hsy rfl rfl rfl rfl rfl rfl rfl rfl rfl rfl rfl rfl rfl rfl rfl rfl (by omega) (by rw [ok7.1]; exact k5) (fun yv hyv => ?_)
                have hyb := ok7.2 yv (List.mem_of_getElem? hyv)
                have ew : IntKind.i64.wrap (yv * 2) = yv * 2 := wr (by omega) (by omega)
                refine KW.rem rfl rfl rfl rfl rfl rfl (by rw [ew]; omega) (by omega) ?_
                refine KW.idx0 rfl rfl rfl rfl rfl rfl rfl rfl rfl (Int.natCast_nonneg _) (by rw [ok6.1]; exact k5) ?_
                refine KW.st1 3 rfl rfl rfl rfl rfl rfl rfl rfl rfl rfl rfl rfl (by show 0 + ((x : Int)).toNat * 1 < cy.length; rw [Int.toNat_natCast]; omega) ?_
                have hb1 : 0 ≤ IntKind.i64.wrap (yv * 2) % p ∧ IntKind.i64.wrap (yv * 2) % p < p := ⟨Int.emod_nonneg _ (by omega), Int.emod_lt_of_pos _ (by omega)⟩
                exact KW.nxt rfl rfl (fun H' g => ⟨(x + 1, ys.set x (IntKind.i64.wrap (yv * 2) % p), cy.set x (.int .i64 (IntKind.i64.wrap (yv * 2) % p))), ⟨by simp only; omega, by simp only [List.length_set]; exact m2, fun y hy => (List.mem_or_eq_of_mem_set hy).elim (m3 y) (fun e => by rw [e]; exact hb1), by simp only [List.length_set]; exact m4, fun q y hq => by
                  simp only [List.getElem?_set] at hq ⊢
                  split at hq
                  · rename_i e
                    subst e
                    rw [if_pos (by omega)] at hq
                    cases hq
                    rw [if_pos rfl, if_pos (by omega)]
                  · rename_i e
                    rw [if_neg e]
                    exact m5 q y hq⟩, by simp only; omega, ⟨rfl, rfl, rfl, rfl, rfl, rfl, congrArg (Value.int .i64) (inc64 (by omega)), trivial⟩, g.eqT (by
                  show [(H.n, (⟨28, true, [.int .i64 0, .int .i64 0, .slice none 0 0]⟩ : Blk)), (H.n + 1, ⟨28, true, [.int .i64 p, .int .i64 k, .slice (some ⟨o, 0, some 1⟩) i i]⟩), (o, ⟨32, true, cs⟩), (o8, ⟨ty8, true, cy.set (0 + ((x : Int)).toNat * 1) _⟩)] = _
                  rw [Int.toNat_natCast, Nat.zero_add, Nat.mul_one]
                  rfl)⟩)
            case wout =>
              have k5 : ¬ (x : Int) < (k : Int) := k5
              refine KW.freeze 3 rfl (fun A9 S9 hn9 hS9 st9 hm9 ho9 hnS9 hlow9 => ?_)
              have E9 := E8.s st9.st
              have src9 := src7.mv (st9.st id E8.sid).2
              have b9 : RowsB KI.ml S9 A9 V (G.set z6 ys) cs := hclose S9 A9 ys (fun j hj => by
                by_cases e : j = o8
                · exact ⟨(hS9 j).2 (.inr e), fun hw => (hw (e ▸ h3)).elim⟩
                · exact ⟨(st9.st j ⟨hj, e⟩).1, fun _ => (st9.st j ⟨hj, e⟩).2⟩) (by
                rw [ok6.1, ← m2]
                exact mlI_of h3 hm9 rfl (by rw [m2, ← ok6.1]; exact h2) (by simp only; omega) m5)
              have ok9 : Rect p k (G.set z6 ys) := okG.set ⟨m2, m3⟩
              have len9 : (G.set z6 ys).length = i := by rw [List.length_set]; exact lenG
              refine KW.ids (fun hlow8 hvar8 => ?_)
              have hnn8 := E9.nle hlow8
              refine KW.retW rfl rfl rfl rfl (fun H9 g => by have := g.n_; omega) (fun i hi hw => (E9).old i ⟨hi, hw⟩) (fun H9 g => ⟨(G.set z6 ys), a7, len9, ok9, by omega, ⟨some ⟨o, 0, some 1⟩, i, by rw [len9]; rfl, ?_⟩, (src9).mv (g.froz id (E9).sid).2⟩)
              have hm := (b9).ml (X := New H.n H9.n) rfl g (j := 2) rfl ⟨oge, by have h1 : o < _ := (g.vars 2 _ rfl).2.1; have := g.n_; omega⟩ (fun i hi => ⟨v1 i hi, by have := (g.froz i ((b9).sub i hi)).1; have := g.n_; omega⟩)
              rw [len9] at hm ⊢
              exact hm
        · refine KW.retW rfl rfl rfl rfl (fun H9 g => by have := g.n_; omega) (fun i hi hw => (E5).old i ⟨hi, hw⟩) (fun H9 g => ⟨G, a5, lenG, okG, by omega, ⟨some ⟨o, 0, some 1⟩, i, by rw [lenG]; rfl, ?_⟩, (src5).mv (g.froz id (E5).sid).2⟩)
          have hm := (b5).ml (X := New H.n H9.n) rfl g (j := 2) rfl ⟨oge, by have h1 : o < _ := (g.vars 2 _ rfl).2.1; have := g.n_; omega⟩ (fun i hi => ⟨v1 i hi, by have := (g.froz i ((b5).sub i hi)).1; have := g.n_; omega⟩)
          rw [lenG] at hm ⊢
          exact hm
      · refine KW.cF rfl rfl (by first | (simp; done) | decide) ?_
        refine KW.retW rfl rfl rfl rfl (fun H9 g => by have := g.n_; omega) (fun i hi hw => E1.old i ⟨hi, hw⟩) (fun H9 g => ⟨G, a1, lenG, okG, by omega, ⟨some ⟨o, 0, some 1⟩, i, by rw [lenG]; rfl, ?_⟩, src1.mv (g.froz id E1.sid).2⟩)
        have hm := b1.ml (X := New H.n H9.n) rfl g (j := 2) rfl ⟨oge, by have h1 : o < _ := (g.vars 2 _ rfl).2.1; have := g.n_; omega⟩ (fun i hi => ⟨v1 i hi, by have := (g.froz i (b1.sub i hi)).1; have := g.n_; omega⟩)
        rw [lenG] at hm ⊢
        exact hm
end
end Go.Proofs.Ytmkpfllbmdahkaa.Am
/- Contracts: the matrix drawn for a law; kernels of the program. Each holds under its own conditions. -/
set_option linter.unusedVariables false
set_option linter.unusedSimpArgs false
set_option maxRecDepth 20000
set_option maxHeartbeats 4000000
namespace Go.Proofs.Ytmkpfllbmdahkaa.Am
open Go Go.RowKit Go.Proofs Go.Proofs.Ytmkpfllbmdahkaa.Pl
section
variable {S : Ids} {H0 : AH}
theorem prL_in {y : Int} (h : y ∈ prL) : 2 ≤ y ∧ y ≤ 31 := by
  unfold prL at h
  simp at h
  omega
theorem l03Drawn {bs : List Int} (hb : ∀ x ∈ bs, 0 ≤ x ∧ x < 256) (hl : bs.length ≤ 1048576) {ac : Option Addr} {cc id at_ : Nat} {Y : Ids} (hat : at_ ≤ 600000) (hS : S id) (hY : ∀ i, Y i → S i ∧ i ≠ id) (hsrc : Src ac bs.length cc H0 id at_) (hs : KB.Sl Y H0 (.slice ac bs.length cc) bs) :
    SpecW Try.prog S H0 (fun i => i = id) 130 [.pointer (some ⟨id, 0, none⟩)] (fun n v H1 => ∃ (p : Int) (k : Nat) (L : List (List Int)) (at' : Nat), p ∈ prL ∧ k ≤ 6 ∧ L.length ≤ 6 ∧ Rect p k L ∧ at' ≤ at_ + 300 ∧ MkMo p k L n v H1 ∧ Src ac bs.length cc H1 id at') := by
  refine SpecW.of0 Try.func130 rfl (by kernel_rfl) rfl (fun H hfin hfz => ?_)
  have fx : ∀ i, S i → Low H.n i ∧ H.m i = H0.m i := fun i hi => hfz i hi
  have hid : id < H.n := (fx id hS).1
  have hsH := hs.stX (S' := fun i => Low H.n i ∧ i ≠ id) (H' := H) (fun i hi => ⟨⟨(fx i (hY i hi).1).1, (hY i hi).2⟩, (fx i (hY i hi).1).2⟩)
  have E0 : DwE H id (Low H.n) H := ⟨hid, fun i hi => ⟨hi.1, rfl⟩⟩
  refine KW.callW (W := fun i => i = id) (fun i hi => by subst hi; exact E0.sid) rfl rfl rfl rfl rfl (srcPrime (S := Low H.n) (H0 := H) hb hl (by omega) E0.sid (fun i hi => hi) (hsrc.mv (fx id hS).2) (E0.kb hsH)) (fun v H1 S1 hn1 st1 hw1 hp => ?_)
  obtain ⟨p, a1, hpm, l1, u1, rfl, src1⟩ := hp
  have E1 := E0.w st1
  refine KW.callW (W := fun i => i = id) (fun i hi => by subst hi; exact E1.sid) rfl rfl rfl rfl rfl (srcPick (S := S1) (H0 := H1) hb hl (n := 6) (by omega) (by omega) E1.sid (fun i hi => hi) src1 (E1.kb hsH)) (fun v H2 S2 hn2 st2 hw2 hp => ?_)
  obtain ⟨z2, a2, hz2, l2, u2, rfl, src2⟩ := hp
  have hz2 := hz2 (by omega)
  have E2 := E1.w st2
  refine KW.callW (W := fun i => i = id) (fun i hi => by subst hi; exact E2.sid) rfl rfl rfl rfl rfl (srcPick (S := S2) (H0 := H2) hb hl (n := 6) (by omega) (by omega) E2.sid (fun i hi => hi) src2 (E2.kb hsH)) (fun v H3 S3 hn3 st3 hw3 hp => ?_)
  obtain ⟨z3, a3, hz3, l3, u3, rfl, src3⟩ := hp
  have hz3 := hz3 (by omega)
  have E3 := E2.w st3
  refine KW.ids (fun hlow hvar => ?_)
  have hnn := E3.nle hlow
  refine KW.callW (W := fun i => i = id) (fun i hi => by subst hi; exact E3.sid) rfl rfl rfl rfl rfl (l03Filled (S := S3) (H0 := H3) hb hl (p := p) (rs := z2) (k := z3) (prL_in hpm) (by omega) (by omega) (by omega) E3.sid (fun i hi => hi) src3 (E3.kb hsH)) (fun v H4 S4 hn4 st4 hw4 hp => ?_)
  obtain ⟨L, a4, hL1, hL2, u4, ⟨b4, d4, rfl, hml⟩, src4⟩ := hp
  have E4 := E3.w st4
  refine KW.retW rfl rfl rfl rfl (fun H9 g => by have := g.n_; omega) (fun i hi hw => E4.old i ⟨hi, hw⟩) (fun H9 g => ⟨p, z3, L, a4, hpm, by omega, by omega, hL2, by omega, ⟨_, _, rfl, ?_⟩, src4.mv (g.froz id E4.sid).2⟩)
  exact (hml.same (fun i hi => (g.froz i (hw4 i hi)).2)).more (fun i hi => ⟨by have := hi.1; omega, by have := hi.2; have := g.n_; omega⟩)
theorem a2Matrix {bs : List Int} (hb : ∀ x ∈ bs, 0 ≤ x ∧ x < 256) (hl : bs.length ≤ 1048576) {ac : Option Addr} {cc : Nat} (hs : KB.Sl S H0 (.slice ac bs.length cc) bs) :
    SpecM Try.prog S H0 40 [.slice ac bs.length cc] (fun n v H1 => ∃ (p : Int) (k : Nat) (L : List (List Int)), p ∈ prL ∧ k ≤ 6 ∧ L.length ≤ 6 ∧ Rect p k L ∧ MkMo p k L n v H1) := by
  refine SpecM.of1 Try.func40 rfl (by kernel_rfl) rfl (fun H _ => ?_)
  refine KW.callN1 rfl rfl rfl rfl rfl (srcFrom) (fun v HS SS mS _ _ hv => ?_)
  obtain ⟨o, sp, rfl, hnew, hsrc⟩ := hv
  have wS : On (New _ HS.n) HS SS HS := ‹_›
  have tS : On (Low H.n) H SS HS := inferInstance
  have hso := (wS.st o hnew).1
  have hbs := (hs.up (S' := Low H.n) (H' := H)).stX (S' := fun i => SS i ∧ i ≠ o) (H' := HS) (fun i hi => ⟨⟨(tS.st i hi).1, fun e => by have h1 : i < H.n := hi; have := hnew.1; omega⟩, (tS.st i hi).2⟩)
  refine KW.callW (W := fun i => i = o) (fun i hi => by subst hi; exact hso) rfl rfl rfl rfl rfl (l03Drawn (S := SS) (H0 := HS) hb hl (by omega) hso (fun i hi => hi) hsrc hbs) (fun v H4 S4 hn4 st4 hw4 hp => ?_)
  obtain ⟨p, k, L, a4, hpm, hk, hL1, hL2, u4, ⟨b4, d4, rfl, hml⟩, src4⟩ := hp
  haveI : On (Low H.n) H S4 H4 := ⟨fun i hi => ⟨(st4 i (tS.st i hi).1).1, ((st4 i (tS.st i hi).1).2 (fun e => by have h1 : i < H.n := hi; have h2 : i = o := e; have := hnew.1; omega)).trans (tS.st i hi).2⟩⟩
  refine KW.retM1 rfl rfl rfl rfl (fun H1 g => ?_)
  exact ⟨p, k, L, hpm, hk, hL1, hL2, _, _, rfl, (hml.same (fun i hi => (g.froz i (hw4 i hi)).2)).more (fun i hi => ⟨by have := hi.1; omega, by have := hi.2; have := g.n_; omega⟩)⟩
end
end Go.Proofs.Ytmkpfllbmdahkaa.Am
/- Contract: the kernel of a matrix, by the program. It holds under its own conditions. -/
set_option linter.unusedVariables false
set_option linter.unusedSimpArgs false
set_option maxRecDepth 20000
set_option maxHeartbeats 4000000
namespace Go.Proofs.Ytmkpfllbmdahkaa.Am
open Go Go.RowKit Go.Proofs Go.Proofs.Ytmkpfllbmdahkaa.Pl
/-- The row of the kernel for the column c, when n pivots have been looked at. -/
def kr (E : List (List Int)) (P : List Nat) (p : Int) (k c : Nat) : Nat → List Int
  | 0 => (List.replicate k 0).set c 1
  | n + 1 => (kr E P p k c n).set (P.getD n 0) ((p - (E.getD n []).getD c 0) % p)
theorem kr_len {E : List (List Int)} {P : List Nat} {p : Int} {k c : Nat} : ∀ n, (kr E P p k c n).length = k
  | 0 => by simp [kr]
  | n + 1 => by unfold kr; rw [List.length_set, kr_len n]
def kerL (E : List (List Int)) (P : List Nat) (p : Int) (k : Nat) : Nat → List (List Int)
  | 0 => []
  | c + 1 => if c ∈ P then kerL E P p k c else kerL E P p k c ++ [kr E P p k c P.length]
theorem kerL_len {E : List (List Int)} {P : List Nat} {p : Int} {k : Nat} : ∀ c, (kerL E P p k c).length ≤ c
  | 0 => Nat.zero_le _
  | c + 1 => by
    have := kerL_len (E := E) (P := P) (p := p) (k := k) c
    unfold kerL
    split
    · omega
    · rw [List.length_append, List.length_singleton]; omega
abbrev nI (P : List Nat) : List Int := P.map fun i : Nat => (i : Int)
structure KlS where
  c : Nat
  S : Ids
  A : AH
  V : Ids
  cs : List Value
  l : Value
  tail : List Var
structure KlI (E : List (List Int)) (P : List Nat) (p : Int) (k : Nat) (H : AH) (SB : Ids) (HB : AH) (s : KlS) : Prop where
  le : s.c ≤ k
  old : St SB HB s.S s.A
  b : RowsB KI.ml s.S s.A s.V (kerL E P p k s.c) s.cs
  v : ∀ i, s.V i → H.n ≤ i
  form : (kerL E P p k s.c = [] ∧ s.l = .slice none 0 0 ∧ s.tail = [] ∧ s.cs = []) ∨ (∃ o, s.l = .slice (some ⟨o, 0, some 1⟩) (kerL E P p k s.c).length (kerL E P p k s.c).length ∧ s.tail = [(o, ⟨32, true, s.cs⟩)] ∧ H.n ≤ o)
theorem KlI.skip {E : List (List Int)} {P : List Nat} {p : Int} {k c : Nat} {H HB A : AH} {SB S V : Ids} {cs : List Value} {l : Value} {tail : List Var} (h : KlI E P p k H SB HB ⟨c, S, A, V, cs, l, tail⟩) (hc : c + 1 ≤ k) (eN : kerL E P p k (c + 1) = kerL E P p k c) : KlI E P p k H SB HB ⟨c + 1, S, A, V, cs, l, tail⟩ := by
  obtain ⟨h1, h2, h3, h4, h5⟩ := h
  refine ⟨hc, h2, ?_, h4, ?_⟩
  · show RowsB KI.ml S A V (kerL E P p k (c + 1)) cs
    rw [eN]; exact h3
  · show (kerL E P p k (c + 1) = [] ∧ _) ∨ _
    rw [eN]; exact h5
section
variable {S : Ids} {H0 : AH}
theorem indexN {P : List Nat} {a c} (hl : P.length ≤ 1000) (x : Nat) (hs : KI.Sl S H0 (.slice a (nI P).length c) (nI P)) :
    Spec Try.prog S H0 242 [.slice a (nI P).length c, .int .i64 x] (fun v => ∃ r : Int, v = .int .i64 r ∧ (r ≥ 0 ↔ x ∈ P)) := by
  have hnl : (nI P).length = P.length := List.length_map ..
  refine Spec.of1 Try.func242 rfl (by kernel_rfl) rfl (fun H _ => ?_)
  refine KW.lp rfl rfl (fun i : Nat => [(0, .slice a (nI P).length c), (1, .int .i64 x), (7, .int .i64 (nI P).length), (8, .int .i64 i)]) (fun i => i ≤ P.length ∧ ∀ j, j < i → P[j]? ≠ some x) (fun i => P.length - i) (0) (⟨Nat.zero_le _, fun j h => absurd h (Nat.not_lt_zero _)⟩) ⟨rfl, rfl, rfl, rfl, trivial⟩ (fun i hi bE n => ?_)
  obtain ⟨hi, hj⟩ := hi
  refine KW.cnd rfl rfl (fun k1 => ?_) (fun k1 => ?_)
  · have k1 : (i : Int) < ((nI P).length : Int) := k1
    refine KW.getI hs.up rfl rfl rfl rfl rfl rfl rfl rfl rfl rfl rfl rfl rfl rfl rfl rfl (by omega) (k1) (fun y hy => ?_)
    have hy : (nI P)[i]? = some y := hy
    rw [List.getElem?_map] at hy
    obtain ⟨z, hz, rfl⟩ : ∃ z, P[i]? = some z ∧ (z : Int) = y := by
      cases hz : P[i]? with
      | none => rw [hz] at hy; cases hy
      | some z => rw [hz] at hy; cases hy; exact ⟨z, rfl, rfl⟩
    refine KW.cndB rfl rfl (fun k2 => ?_) (fun k2 => ?_)
    · have k2 : x = z := by simp at k2; omega
      subst k2
      exact KW.ret rfl rfl rfl rfl (⟨i, rfl, fun _ => List.mem_of_getElem? hz, fun _ => by omega⟩)
    · have k2 : ¬ x = z := by simp at k2; omega
      refine KW.nxt rfl rfl (fun H' g => ⟨(i + 1), ⟨by omega, upto hj (fun h => k2 (by rw [hz] at h; cases h; rfl))⟩, by first | omega | (simp only; omega), ⟨rfl, rfl, rfl, congrArg (Value.int .i64) (inc64 (by omega)), trivial⟩, g⟩)
  · have k1 : ¬ (i : Int) < ((nI P).length : Int) := k1
    have hno : x ∉ P := fun h => by
      obtain ⟨j, hj2⟩ := List.getElem?_of_mem h
      exact hj j (by have := (List.getElem?_eq_some_iff.1 hj2).1; omega) hj2
    exact KW.ret rfl rfl rfl rfl (⟨-1, rfl, fun h => absurd h (by decide), fun h => (hno h).elim⟩)
theorem containsN {P : List Nat} {a c} (hl : P.length ≤ 1000) (x : Nat) (hs : KI.Sl S H0 (.slice a (nI P).length c) (nI P)) :
    Spec Try.prog S H0 204 [.slice a (nI P).length c, .int .i64 x] (fun v => v = .bool (decide (x ∈ P))) := by
  refine Spec.of1 Try.func204 rfl (by kernel_rfl) rfl (fun H _ => ?_)
  refine KW.call rfl rfl rfl rfl rfl (indexN hl x hs.up) (fun v _ _ hv => ?_)
  obtain ⟨r, rfl, hr⟩ := hv
  refine KW.ret rfl rfl rfl rfl ?_
  show Value.bool (decide (r ≥ 0)) = _
  congr 1
  exact decide_eq_decide.2 hr
theorem ech_lt {p : Int} {L : List (List Int)} : ∀ c, ∀ q ∈ (ech p L c).2, q < c
  | 0, q, h => by simp [ech] at h
  | c + 1, q, h => by
    rw [ech] at h
    split at h
    · have := ech_lt c q h; omega
    · rcases List.mem_append.1 h with h | h
      · have := ech_lt c q h; omega
      · have := List.mem_singleton.1 h; omega
theorem kernel {p : Int} {k : Nat} (hp : 2 ≤ p ∧ p ≤ 31) (hk : k ≤ 100) {L : List (List Int)} (hB : B_Int64SS L) (hL : Rect p k L) {a c0} (hs : KI.sl.Sl S H0 (.slice a L.length c0) L) :
    SpecM Try.prog S H0 133 [.agg #[.int .i64 p, .int .i64 k, .slice a L.length c0]] (MkMo p k (kerL ((ech p L k).1.take (ech p L k).2.length) (ech p L k).2 p k k)) := by
  refine SpecM.of1 Try.func133 rfl (by kernel_rfl) rfl (fun H _ => ?_)
  refine KW.callN1 rfl rfl rfl rfl rfl (echelon hp (by omega) hB hL hs.up) (fun v HC SC mC _ _ hv => ?_)
  obtain ⟨a1, c1, a2, c2, rfl, hE, hP⟩ := hv
  have hok := ech_ok (p := p) (by omega) hL k
  have hPk := ech_lt (p := p) (L := L) k
  have hER : Rect p k ((ech p L k).1.take (ech p L k).2.length) := fun r hr => hok.1 r (List.mem_of_mem_take hr)
  have hEl : ((ech p L k).1.take (ech p L k).2.length).length = (ech p L k).2.length := by rw [List.length_take]; omega
  have hPl : (ech p L k).2.length ≤ 1000 := by omega
  have tC : On (Low H.n) H SC HC := inferInstance
  have wC : On (New _ HC.n) HC SC HC := ‹_›
  have hP1 := hP.ups (S' := SC) (H' := HC)
  have hE1 : KI.sl.Sl SC HC _ _ := hE.upS (S' := SC) (H' := HC)
  clear hok
  generalize hEe : (ech p L k).1.take (ech p L k).2.length = E at *
  generalize hPe : (ech p L k).2 = P at *
  have hnl : (nI P).length = P.length := List.length_map ..
  refine KW.build rfl rfl rfl rfl rfl (built_Matrix2 _ _) ?_
  refine KW.lpM rfl rfl (fun s : KlS => [(1, .pointer (some ⟨H.n, 0, some 0⟩)), (2, .pointer (some ⟨H.n + 1, 0, some 1⟩)), (3, .pointer (some ⟨HC.n, 0, some 2⟩)), (4, .slice a2 P.length c2), (5, .pointer (some ⟨HC.n + 1, 0, some 3⟩)), (21, .int .i64 k), (22, .int .i64 s.c)]) (fun s => s.S) (fun s => s.A) (fun s => [(H.n, ⟨28, true, [.int .i64 p, .int .i64 k, .slice a L.length c0]⟩), (H.n + 1, ⟨28, true, [.int .i64 0, .int .i64 0, .slice none 0 0]⟩), (HC.n, ⟨28, true, [.int .i64 p, .int .i64 k, .slice a1 P.length c1]⟩), (HC.n + 1, ⟨28, true, [.int .i64 p, .int .i64 k, s.l]⟩)] ++ s.tail) (fun s => KlI E P p k H SC HC s) (fun s => k - s.c) (⟨0, SC, HC, fun _ => False, [], .slice none 0 0, []⟩) (⟨Nat.zero_le _, fun i hi => ⟨hi, rfl⟩, RowsB.nil _ _, fun _ h => h.elim, .inl ⟨rfl, rfl, rfl, rfl⟩⟩) ⟨rfl, rfl, rfl, rfl, rfl, rfl, rfl, trivial⟩ rfl rfl rfl (fun s hi bE n => ?_)
  obtain ⟨c, S1, A1, V, cs, l, tail⟩ := s
  obtain ⟨g1, g2, g3, g4, hform⟩ := hi
  simp only at g1 g2 g3 g4 hform
  haveI : Stp SC HC S1 A1 := ⟨g2⟩
  have hcl := g3.len
  have hml := kerL_len (E := E) (P := P) (p := p) (k := k) c
  have hn0 : ∀ i, ¬ S1 i → H.n ≤ i := fun i hi => by
    rcases Nat.lt_or_ge i H.n with h | h
    · exact (hi (g2 i (tC.st i h).1).1).elim
    · exact h
  have hPs : KI.Sl S1 A1 (.slice a2 (nI P).length c2) (nI P) := by rw [hnl]; exact hP1.up
  have hEs : KI.sl.Sl S1 A1 (.slice a1 E.length c1) E := by rw [hEl]; exact hE1.up
  rcases hform with ⟨hi0, e1, e2, e3⟩ | ⟨o, e1, e2, oge⟩
  case inl =>
    subst e1 e2 e3
    have hI : KlI E P p k H SC HC ⟨c, S1, A1, V, [], .slice none 0 0, []⟩ := ⟨g1, g2, g3, g4, .inl ⟨hi0, rfl, rfl, rfl⟩⟩
    refine KW.cnd rfl rfl (fun k1 => ?gin) (fun k1 => ?gout)
    case gin =>
      have k1 : (c : Int) < (k : Int) := k1
      refine KW.callE rfl rfl rfl rfl rfl ((by have h := containsN (P := P) hPl c hPs; rw [hnl] at h; exact h)) (fun n9 m9 => ?_)
      by_cases hc : c ∈ P
      · have eN : kerL E P p k (c + 1) = kerL E P p k c := if_pos hc
        rw [decide_eq_true hc]
        refine KW.cT rfl rfl (by first | (simp; done) | decide) ?_
        exact KW.nxt rfl rfl (fun H' g => ⟨⟨c + 1, S1, A1, V, [], .slice none 0 0, []⟩, hI.skip (by omega) eN, by simp only; omega, ⟨rfl, rfl, rfl, rfl, rfl, rfl, congrArg (Value.int .i64) (inc64 (by omega)), trivial⟩, g⟩)
      · have eN : kerL E P p k (c + 1) = kerL E P p k c ++ [kr E P p k c P.length] := if_neg hc
        rw [decide_eq_false hc]
        refine KW.cF rfl rfl (by first | (simp; done) | decide) ?_
        refine KW.ids (fun hlow hvar => ?_)
        refine KW.mk1 rfl rfl rfl rfl rfl rfl rfl rfl rfl rfl rfl rfl (k) rfl rfl (by omega) (by show 8 * _ ≤ _; omega) ?_
        refine KW.idx0 rfl rfl rfl rfl rfl rfl rfl rfl rfl (Int.natCast_nonneg _) (k1) ?_
        refine KW.st1 4 rfl rfl rfl rfl rfl rfl rfl rfl rfl rfl rfl rfl (by show 0 + ((c : Int)).toNat * 1 < (List.replicate k _).length; rw [Int.toNat_natCast, List.length_replicate]; omega) ?_
        refine KW.lpM rfl rfl (fun s : Nat × List Value => [(1, .pointer (some ⟨H.n, 0, some 0⟩)), (2, .pointer (some ⟨H.n + 1, 0, some 1⟩)), (3, .pointer (some ⟨HC.n, 0, some 2⟩)), (4, .slice a2 P.length c2), (5, .pointer (some ⟨HC.n + 1, 0, some 3⟩)), (21, .int .i64 k), (6, .int .i64 c), (7, .slice (some ⟨n9, 0, some 1⟩) k k), (22, .int .i64 c), (34, .slice a2 P.length c2), (35, .int .i64 P.length), (36, .int .i64 s.1)]) (fun _ => S1) (fun _ => A1) (fun s => [(H.n, ⟨28, true, [.int .i64 p, .int .i64 k, .slice a L.length c0]⟩), (H.n + 1, ⟨28, true, [.int .i64 0, .int .i64 0, .slice none 0 0]⟩), (HC.n, ⟨28, true, [.int .i64 p, .int .i64 k, .slice a1 P.length c1]⟩), (HC.n + 1, ⟨28, true, [.int .i64 p, .int .i64 k, .slice none 0 0]⟩)] ++ [(n9, (⟨2, true, s.2⟩ : Blk))]) (fun s => s.1 ≤ P.length ∧ s.2 = (kr E P p k c s.1).map (Value.int .i64)) (fun s => P.length - s.1) (0, (List.replicate k (Value.int .i64 0)).set (0 + ((c : Int)).toNat * 1) (.int .i64 1)) ⟨Nat.zero_le _, by
          simp only [kr]
          rw [Int.toNat_natCast, Nat.zero_add, Nat.mul_one, List.map_set, List.map_replicate]⟩ ⟨rfl, rfl, rfl, rfl, rfl, rfl, rfl, rfl, rfl, rfl, rfl, rfl, trivial⟩ rfl rfl rfl (fun s hi bE n2 => ?_)
        obtain ⟨q, cy⟩ := s
        obtain ⟨m1, m2⟩ := hi
        simp only at m1 m2
        subst m2
        have hkl := kr_len (E := E) (P := P) (p := p) (k := k) (c := c) q
        refine KW.cnd rfl rfl (fun k2 => ?hin) (fun k2 => ?hout)
        case hin =>
          have k2 : (q : Int) < (P.length : Int) := k2
          refine KW.getI ((show KI.Sl S1 A1 (.slice a2 P.length c2) (nI P) from hP1.up)) rfl rfl rfl rfl rfl rfl rfl rfl rfl rfl rfl rfl rfl rfl rfl rfl (by omega) (by rw [hnl]; exact k2) (fun y hy => ?_)
          have hy : (nI P)[q]? = some y := hy
          rw [List.getElem?_map, List.getElem?_eq_getElem (by omega)] at hy
          obtain rfl : ((P[q]'(by omega) : Nat) : Int) = y := by simpa using hy
          have hpk := hPk _ (List.getElem_mem (l := P) (n := q) (by omega))
          have hpd : P.getD q 0 = P[q]'(by omega) := by rw [List.getD_eq_getElem?_getD, List.getElem?_eq_getElem (by omega)]; rfl
          refine KW.getL ((show KI.sl.Sl S1 A1 (.slice a1 P.length c1) E from hE1.up)) rfl rfl rfl rfl rfl rfl rfl rfl rfl rfl rfl rfl rfl rfl rfl rfl (by omega) (by rw [hEl]; exact k2) (fun r ar cr hr hsr => ?_)
          have hr : E[q]? = some r := hr
          have hro := hER.at hr
          refine KW.getI hsr rfl rfl rfl rfl rfl rfl rfl rfl rfl rfl rfl rfl rfl rfl rfl rfl (by omega) (by rw [hro.1]; exact k1) (fun z hz => ?_)
          have hz : r[c]? = some z := hz
          have hzb := hro.2 z (List.mem_of_getElem? hz)
          have hed : (E.getD q []).getD c 0 = z := by rw [getDL_of hr]; exact getD_of hz
          have ew : IntKind.i64.wrap (p - z) = p - z := wr (by omega) (by omega)
          refine KW.rem rfl rfl rfl rfl rfl rfl (by rw [ew]; omega) (by omega) ?_
          refine KW.idx0 rfl rfl rfl rfl rfl rfl rfl rfl rfl (Int.natCast_nonneg _) (by omega) ?_
          refine KW.st1 4 rfl rfl rfl rfl rfl rfl rfl rfl rfl rfl rfl rfl (by show 0 + (((P[q]'(by omega) : Nat) : Int)).toNat * 1 < ((kr E P p k c q).map (Value.int .i64)).length; rw [Int.toNat_natCast, List.length_map]; omega) ?_
          exact KW.nxt rfl rfl (fun H' g => ⟨(q + 1, _), ⟨by simp only; omega, by
            show ((kr E P p k c q).map (Value.int .i64)).set (0 + (((P[q]'(by omega) : Nat) : Int)).toNat * 1) (.int .i64 (IntKind.i64.wrap (p - z) % p)) = _
            rw [Int.toNat_natCast, Nat.zero_add, Nat.mul_one, ew]
            simp only [kr, hpd, hed, List.map_set]⟩, by simp only; omega, ⟨rfl, rfl, rfl, rfl, rfl, rfl, rfl, rfl, rfl, rfl, rfl, congrArg (Value.int .i64) (inc64 (by omega)), trivial⟩, g⟩)
        case hout =>
          have k2 : ¬ (q : Int) < (P.length : Int) := k2
          obtain rfl : q = P.length := by omega
          refine KW.freeze 4 rfl (fun A6 S6 hn6 hS6 st6 hm6 ho6 hnS6 hlow6 => ?_)
          have nge : H.n ≤ n9 := hn0 n9 (fun h => by have := hlow n9 h; omega)
          have fI := (g3.mv (S' := S6) (A' := A6) (fun i hi => st6.st i (g3.sub i hi))).snoc (ml1' (row_ml (xs := kr E P p k c P.length) hm6)) (fun i hi => (hS6 i).2 (.inr hi)) (fun i p r => hnS6 (r ▸ g3.sub i p))
          have fV : ∀ i, V i ∨ i = n9 → H.n ≤ i := fun i hi => hi.elim (g4 i) (fun e => e ▸ nge)
          have e7 : (Value.slice (some ⟨n9, 0, some 1⟩) k k) = .slice (some ⟨n9, 0, some 1⟩) (kr E P p k c P.length).length (kr E P p k c P.length).length := by rw [hkl]
          rw [hkl] at fI
          clear e7
          refine KW.fact (fun _ g => g.nle (H1 := H)) (fun hn8 => ?_)
          have eNl : (kerL E P p k (c + 1)).length = 0 + 1 := by rw [eN, List.length_append, List.length_singleton, hi0, List.length_nil]
          have fK : ∀ o', H.n ≤ o' → KlI E P p k H SC HC ⟨c + 1, S6, A6, fun i => V i ∨ i = n9, ([] : List Value) ++ [.slice (some ⟨n9, 0, some 1⟩) k k], .slice (some ⟨o', 0, some 1⟩) (0 + 1) (0 + 1), [(o', ⟨32, true, ([] : List Value) ++ [.slice (some ⟨n9, 0, some 1⟩) k k]⟩)]⟩ := fun o' ho' => ⟨by simp only; omega, g2.trans st6.st, by
            show RowsB _ _ _ _ (kerL E P p k (c + 1)) _
            rw [eN]; exact fI, fV, .inr ⟨o', by
            show Value.slice _ _ _ = .slice _ (kerL E P p k (c + 1)).length (kerL E P p k (c + 1)).length
            rw [eNl], rfl, ho'⟩⟩
          refine KW.app0 (v := .slice (some ⟨n9, 0, some 1⟩) k k) 4 rfl rfl rfl rfl rfl rfl rfl rfl rfl rfl rfl rfl rfl rfl rfl rfl rfl rfl rfl rfl rfl rfl (by decide) ?_
          exact KW.nxt rfl rfl (fun H' g => ⟨⟨c + 1, S6, A6, _, _, _, _⟩, fK _ (by omega), by simp only; omega, ⟨rfl, rfl, rfl, rfl, rfl, rfl, congrArg (Value.int .i64) (inc64 (by omega)), trivial⟩, g⟩)
    case gout =>
      have k1 : ¬ (c : Int) < (k : Int) := k1
      obtain rfl : c = k := by omega
      refine KW.retM1 rfl rfl rfl rfl (fun H1 g => ?_)
      rw [hi0]
      exact ⟨none, 0, rfl, .inl ⟨rfl, _, _, rfl, fun _ => rfl⟩⟩
  case inr =>
    subst e1 e2
    have hI : KlI E P p k H SC HC ⟨c, S1, A1, V, cs, .slice (some ⟨o, 0, some 1⟩) (kerL E P p k c).length (kerL E P p k c).length, [(o, ⟨32, true, cs⟩)]⟩ := ⟨g1, g2, g3, g4, .inr ⟨o, rfl, rfl, oge⟩⟩
    refine KW.cnd rfl rfl (fun k1 => ?gin) (fun k1 => ?gout)
    case gin =>
      have k1 : (c : Int) < (k : Int) := k1
      refine KW.callE rfl rfl rfl rfl rfl ((by have h := containsN (P := P) hPl c hPs; rw [hnl] at h; exact h)) (fun n9 m9 => ?_)
      by_cases hc : c ∈ P
      · have eN : kerL E P p k (c + 1) = kerL E P p k c := if_pos hc
        rw [decide_eq_true hc]
        refine KW.cT rfl rfl (by first | (simp; done) | decide) ?_
        exact KW.nxt rfl rfl (fun H' g => ⟨⟨c + 1, S1, A1, V, cs, .slice (some ⟨o, 0, some 1⟩) (kerL E P p k c).length (kerL E P p k c).length, [(o, ⟨32, true, cs⟩)]⟩, hI.skip (by omega) eN, by simp only; omega, ⟨rfl, rfl, rfl, rfl, rfl, rfl, congrArg (Value.int .i64) (inc64 (by omega)), trivial⟩, g⟩)
      · have eN : kerL E P p k (c + 1) = kerL E P p k c ++ [kr E P p k c P.length] := if_neg hc
        rw [decide_eq_false hc]
        refine KW.cF rfl rfl (by first | (simp; done) | decide) ?_
        refine KW.ids (fun hlow hvar => ?_)
        refine KW.mk1 rfl rfl rfl rfl rfl rfl rfl rfl rfl rfl rfl rfl (k) rfl rfl (by omega) (by show 8 * _ ≤ _; omega) ?_
        refine KW.idx0 rfl rfl rfl rfl rfl rfl rfl rfl rfl (Int.natCast_nonneg _) (k1) ?_
        refine KW.st1 5 rfl rfl rfl rfl rfl rfl rfl rfl rfl rfl rfl rfl (by show 0 + ((c : Int)).toNat * 1 < (List.replicate k _).length; rw [Int.toNat_natCast, List.length_replicate]; omega) ?_
        refine KW.lpM rfl rfl (fun s : Nat × List Value => [(1, .pointer (some ⟨H.n, 0, some 0⟩)), (2, .pointer (some ⟨H.n + 1, 0, some 1⟩)), (3, .pointer (some ⟨HC.n, 0, some 2⟩)), (4, .slice a2 P.length c2), (5, .pointer (some ⟨HC.n + 1, 0, some 3⟩)), (21, .int .i64 k), (6, .int .i64 c), (7, .slice (some ⟨n9, 0, some 1⟩) k k), (22, .int .i64 c), (34, .slice a2 P.length c2), (35, .int .i64 P.length), (36, .int .i64 s.1)]) (fun _ => S1) (fun _ => A1) (fun s => [(H.n, ⟨28, true, [.int .i64 p, .int .i64 k, .slice a L.length c0]⟩), (H.n + 1, ⟨28, true, [.int .i64 0, .int .i64 0, .slice none 0 0]⟩), (HC.n, ⟨28, true, [.int .i64 p, .int .i64 k, .slice a1 P.length c1]⟩), (HC.n + 1, ⟨28, true, [.int .i64 p, .int .i64 k, .slice (some ⟨o, 0, some 1⟩) (kerL E P p k c).length (kerL E P p k c).length]⟩)] ++ [(o, (⟨32, true, cs⟩ : Blk))] ++ [(n9, (⟨2, true, s.2⟩ : Blk))]) (fun s => s.1 ≤ P.length ∧ s.2 = (kr E P p k c s.1).map (Value.int .i64)) (fun s => P.length - s.1) (0, (List.replicate k (Value.int .i64 0)).set (0 + ((c : Int)).toNat * 1) (.int .i64 1)) ⟨Nat.zero_le _, by
          simp only [kr]
          rw [Int.toNat_natCast, Nat.zero_add, Nat.mul_one, List.map_set, List.map_replicate]⟩ ⟨rfl, rfl, rfl, rfl, rfl, rfl, rfl, rfl, rfl, rfl, rfl, rfl, trivial⟩ rfl rfl rfl (fun s hi bE n2 => ?_)
        obtain ⟨q, cy⟩ := s
        obtain ⟨m1, m2⟩ := hi
        simp only at m1 m2
        subst m2
        have hkl := kr_len (E := E) (P := P) (p := p) (k := k) (c := c) q
        refine KW.cnd rfl rfl (fun k2 => ?hin) (fun k2 => ?hout)
        case hin =>
          have k2 : (q : Int) < (P.length : Int) := k2
          refine KW.getI ((show KI.Sl S1 A1 (.slice a2 P.length c2) (nI P) from hP1.up)) rfl rfl rfl rfl rfl rfl rfl rfl rfl rfl rfl rfl rfl rfl rfl rfl (by omega) (by rw [hnl]; exact k2) (fun y hy => ?_)
          have hy : (nI P)[q]? = some y := hy
          rw [List.getElem?_map, List.getElem?_eq_getElem (by omega)] at hy
          obtain rfl : ((P[q]'(by omega) : Nat) : Int) = y := by simpa using hy
          have hpk := hPk _ (List.getElem_mem (l := P) (n := q) (by omega))
          have hpd : P.getD q 0 = P[q]'(by omega) := by rw [List.getD_eq_getElem?_getD, List.getElem?_eq_getElem (by omega)]; rfl
          refine KW.getL ((show KI.sl.Sl S1 A1 (.slice a1 P.length c1) E from hE1.up)) rfl rfl rfl rfl rfl rfl rfl rfl rfl rfl rfl rfl rfl rfl rfl rfl (by omega) (by rw [hEl]; exact k2) (fun r ar cr hr hsr => ?_)
          have hr : E[q]? = some r := hr
          have hro := hER.at hr
          refine KW.getI hsr rfl rfl rfl rfl rfl rfl rfl rfl rfl rfl rfl rfl rfl rfl rfl rfl (by omega) (by rw [hro.1]; exact k1) (fun z hz => ?_)
          have hz : r[c]? = some z := hz
          have hzb := hro.2 z (List.mem_of_getElem? hz)
          have hed : (E.getD q []).getD c 0 = z := by rw [getDL_of hr]; exact getD_of hz
          have ew : IntKind.i64.wrap (p - z) = p - z := wr (by omega) (by omega)
          refine KW.rem rfl rfl rfl rfl rfl rfl (by rw [ew]; omega) (by omega) ?_
          refine KW.idx0 rfl rfl rfl rfl rfl rfl rfl rfl rfl (Int.natCast_nonneg _) (by omega) ?_
          refine KW.st1 5 rfl rfl rfl rfl rfl rfl rfl rfl rfl rfl rfl rfl (by show 0 + (((P[q]'(by omega) : Nat) : Int)).toNat * 1 < ((kr E P p k c q).map (Value.int .i64)).length; rw [Int.toNat_natCast, List.length_map]; omega) ?_
          exact KW.nxt rfl rfl (fun H' g => ⟨(q + 1, _), ⟨by simp only; omega, by
            show ((kr E P p k c q).map (Value.int .i64)).set (0 + (((P[q]'(by omega) : Nat) : Int)).toNat * 1) (.int .i64 (IntKind.i64.wrap (p - z) % p)) = _
            rw [Int.toNat_natCast, Nat.zero_add, Nat.mul_one, ew]
            simp only [kr, hpd, hed, List.map_set]⟩, by simp only; omega, ⟨rfl, rfl, rfl, rfl, rfl, rfl, rfl, rfl, rfl, rfl, rfl, congrArg (Value.int .i64) (inc64 (by omega)), trivial⟩, g⟩)
        case hout =>
          have k2 : ¬ (q : Int) < (P.length : Int) := k2
          obtain rfl : q = P.length := by omega
          refine KW.freeze 5 rfl (fun A6 S6 hn6 hS6 st6 hm6 ho6 hnS6 hlow6 => ?_)
          have nge : H.n ≤ n9 := hn0 n9 (fun h => by have := hlow n9 h; omega)
          have fI := (g3.mv (S' := S6) (A' := A6) (fun i hi => st6.st i (g3.sub i hi))).snoc (ml1' (row_ml (xs := kr E P p k c P.length) hm6)) (fun i hi => (hS6 i).2 (.inr hi)) (fun i p r => hnS6 (r ▸ g3.sub i p))
          have fV : ∀ i, V i ∨ i = n9 → H.n ≤ i := fun i hi => hi.elim (g4 i) (fun e => e ▸ nge)
          have e7 : (Value.slice (some ⟨n9, 0, some 1⟩) k k) = .slice (some ⟨n9, 0, some 1⟩) (kr E P p k c P.length).length (kr E P p k c P.length).length := by rw [hkl]
          rw [hkl] at fI
          clear e7
          refine KW.fact (fun _ g => g.nle (H1 := H)) (fun hn8 => ?_)
          have eNl : (kerL E P p k (c + 1)).length = (kerL E P p k c).length + 1 := by rw [eN, List.length_append, List.length_singleton]
          have fK : ∀ o', H.n ≤ o' → KlI E P p k H SC HC ⟨c + 1, S6, A6, fun i => V i ∨ i = n9, cs ++ [.slice (some ⟨n9, 0, some 1⟩) k k], .slice (some ⟨o', 0, some 1⟩) ((kerL E P p k c).length + 1) ((kerL E P p k c).length + 1), [(o', ⟨32, true, cs ++ [.slice (some ⟨n9, 0, some 1⟩) k k]⟩)]⟩ := fun o' ho' => ⟨by simp only; omega, g2.trans st6.st, by
            show RowsB _ _ _ _ (kerL E P p k (c + 1)) _
            rw [eN]; exact fI, fV, .inr ⟨o', by
            show Value.slice _ _ _ = .slice _ (kerL E P p k (c + 1)).length (kerL E P p k (c + 1)).length
            rw [eNl], rfl, ho'⟩⟩
          refine KW.app1 (xs := cs) (v := .slice (some ⟨n9, 0, some 1⟩) k k) 4 5 rfl rfl rfl rfl rfl rfl rfl rfl rfl rfl rfl rfl rfl rfl rfl rfl rfl rfl rfl rfl rfl rfl rfl (by omega) (by show ((kerL E P p k c).length + 1) * 24 ≤ _; omega) (by show (kerL E P p k c).length + 1 ≤ _; omega) ?_
          exact KW.nxt rfl rfl (fun H' g => ⟨⟨c + 1, S6, A6, _, _, _, _⟩, fK _ (by omega), by simp only; omega, ⟨rfl, rfl, rfl, rfl, rfl, rfl, congrArg (Value.int .i64) (inc64 (by omega)), trivial⟩, g⟩)
    case gout =>
      have k1 : ¬ (c : Int) < (k : Int) := k1
      obtain rfl : c = k := by omega
      refine KW.retM1 rfl rfl rfl rfl (fun H1 g => ?_)
      have hm := g3.ml (X := New H.n H1.n) rfl g (j := 4) rfl ⟨oge, by have h1 : o < _ := (g.vars 4 _ rfl).2.1; have := g.n_; omega⟩ (fun i hi => ⟨g4 i hi, by have := (g.froz i (g3.sub i hi)).1; have := g.n_; omega⟩)
      exact ⟨_, _, rfl, hm⟩
end
end Go.Proofs.Ytmkpfllbmdahkaa.Am
/- Linear equations modulo a prime, in plain Lean: what a round of the echelon does to them, and how many solutions there are. Each holds under its own conditions. -/
set_option linter.unusedVariables false
set_option linter.unusedSimpArgs false
namespace Go.Proofs.Ytmkpfllbmdahkaa.Pl
/-- The sum of the products of the elements of w from column c on and those of a list. -/
def dF (w : List Int) : Nat → List Int → Int
  | _, [] => 0
  | c, a :: t => w.getD c 0 * a + dF w (c + 1) t
theorem sc_get {p b : Int} {w : List Int} {c : Nat} : (sc p b w).getD c 0 = w.getD c 0 * b % p := by
  simp only [sc, List.getD_eq_getElem?_getD, List.getElem?_map]
  cases w[c]? <;> simp
theorem tk_get {p t : Int} {a b : List Int} (h : a.length = b.length) {c : Nat} : (tk p t a b).getD c 0 = (a.getD c 0 + (p - t) * b.getD c 0) % p := by
  simp only [tk, List.getD_eq_getElem?_getD, List.getElem?_zipWith]
  rcases Nat.lt_or_ge c a.length with hc | hc
  · rw [List.getElem?_eq_getElem hc, List.getElem?_eq_getElem (by omega)]; simp
  · rw [List.getElem?_eq_none hc, List.getElem?_eq_none (by omega)]; simp
theorem mod_eq (a p : Int) : ∃ k, a % p = a - p * k := ⟨a / p, by rw [Int.emod_def]⟩
theorem dF_sc {p b : Int} {w : List Int} : ∀ (t : List Int) (c : Nat), ∃ k, dF (sc p b w) c t = b * dF w c t + p * k
  | [], c => ⟨0, by simp [dF]⟩
  | a :: t, c => by
    obtain ⟨k, hk⟩ := dF_sc (p := p) (b := b) (w := w) t (c + 1)
    obtain ⟨m, hm⟩ := mod_eq (w.getD c 0 * b) p
    refine ⟨k - m * a, ?_⟩
    simp only [dF, hk, sc_get, hm]
    grind
theorem dF_tk {p s : Int} {a b : List Int} (h : a.length = b.length) : ∀ (t : List Int) (c : Nat), ∃ k, dF (tk p s a b) c t = dF a c t - s * dF b c t + p * k
  | [], c => ⟨0, by simp [dF]⟩
  | x :: t, c => by
    obtain ⟨k, hk⟩ := dF_tk (p := p) (s := s) h t (c + 1)
    obtain ⟨m, hm⟩ := mod_eq (a.getD c 0 + (p - s) * b.getD c 0) p
    refine ⟨k + b.getD c 0 * x - m * x, ?_⟩
    simp only [dF, hk, tk_get h, hm]
    grind
/-- The row w, whose value stands in column k, holds for x. -/
def Sat (p : Int) (k : Nat) (w x : List Int) : Prop := ∃ m, dF w 0 x = w.getD k 0 + p * m
theorem sat_iff {p : Int} {k : Nat} {w x : List Int} : Sat p k w x ↔ (dF w 0 x - w.getD k 0) % p = 0 := by
  constructor
  · rintro ⟨m, hm⟩
    rw [hm]
    have : w.getD k 0 + p * m - w.getD k 0 = p * m := by omega
    rw [this]
    exact Int.mul_emod_right p m
  · intro h
    obtain ⟨m, hm⟩ := Int.dvd_of_emod_eq_zero h
    exact ⟨m, by omega⟩
theorem sat_sc {p b : Int} {k : Nat} {w x : List Int} (h : Sat p k w x) : Sat p k (sc p b w) x := by
  obtain ⟨m, hm⟩ := h
  obtain ⟨j, hj⟩ := dF_sc (p := p) (b := b) (w := w) x 0
  obtain ⟨i, hi⟩ := mod_eq (w.getD k 0 * b) p
  exact ⟨b * m + j + i, by rw [hj, hm, sc_get, hi]; grind⟩
theorem sat_sc' {p b b' : Int} {k : Nat} {w x : List Int} (hb : ∃ q, b' * b = 1 + p * q) (h : Sat p k (sc p b w) x) : Sat p k w x := by
  obtain ⟨m, hm⟩ := h
  obtain ⟨j, hj⟩ := dF_sc (p := p) (b := b) (w := w) x 0
  obtain ⟨i, hi⟩ := mod_eq (w.getD k 0 * b) p
  obtain ⟨q, hq⟩ := hb
  rw [sc_get, hi, hj] at hm
  refine ⟨b' * m - b' * j - b' * i - q * dF w 0 x + q * w.getD k 0, ?_⟩
  have h1 : b' * (b * dF w 0 x) = b' * (w.getD k 0 * b - p * i + p * m - p * j) := by rw [← hm]; grind
  grind
theorem sat_tk {p s : Int} {k : Nat} {a b x : List Int} (hl : a.length = b.length) (ha : Sat p k a x) (hb : Sat p k b x) : Sat p k (tk p s a b) x := by
  obtain ⟨m, hm⟩ := ha
  obtain ⟨q, hq⟩ := hb
  obtain ⟨j, hj⟩ := dF_tk (p := p) (s := s) hl x 0
  obtain ⟨i, hi⟩ := mod_eq (a.getD k 0 + (p - s) * b.getD k 0) p
  exact ⟨m - s * q + j + i - b.getD k 0, by rw [hj, hm, hq, tk_get hl, hi]; grind⟩
theorem sat_tk' {p s : Int} {k : Nat} {a b x : List Int} (hl : a.length = b.length) (ha : Sat p k (tk p s a b) x) (hb : Sat p k b x) : Sat p k a x := by
  obtain ⟨m, hm⟩ := ha
  obtain ⟨q, hq⟩ := hb
  obtain ⟨j, hj⟩ := dF_tk (p := p) (s := s) hl x 0
  obtain ⟨i, hi⟩ := mod_eq (a.getD k 0 + (p - s) * b.getD k 0) p
  rw [hj, hq, tk_get hl, hi] at hm
  exact ⟨m + s * q - j - i + b.getD k 0, by grind⟩
/-- All rows hold for x. -/
def AllS (p : Int) (k : Nat) (L : List (List Int)) (x : List Int) : Prop := ∀ (j : Nat) r, L[j]? = some r → Sat p k r x
/-- Powers are inverses. -/
def Fer (p : Int) : Prop := 2 ≤ p ∧ ∀ a : Int, 0 < a → a < p → ∃ q, a * pw p a (p - 2).toNat = 1 + p * q
theorem sw_get {L : List (List Int)} {n a : Nat} {u w : List Int} (hu : L[n]? = some u) (hw : L[a]? = some w) (j : Nat) : (sw L n a)[j]? = if j = a then some u else if j = n then some w else L[j]? := by
  obtain ⟨h1, e1⟩ := List.getElem?_eq_some_iff.1 hu
  obtain ⟨h2, e2⟩ := List.getElem?_eq_some_iff.1 hw
  have d1 : L.getD n [] = u := by rw [List.getD_eq_getElem?_getD, hu]; rfl
  have d2 : L.getD a [] = w := by rw [List.getD_eq_getElem?_getD, hw]; rfl
  simp only [sw, d1, d2]
  rw [List.getElem?_set]
  by_cases e : a = j
  · subst e; rw [if_pos rfl, if_pos rfl, if_pos (by rw [List.length_set]; exact h2)]
  · rw [if_neg e, if_neg (Ne.symm e), List.getElem?_set]
    by_cases e' : n = j
    · subst e'; rw [if_pos rfl, if_pos rfl, if_pos h1]
    · rw [if_neg e', if_neg (Ne.symm e')]
theorem nz_val {L : List (List Int)} {c : Nat} : ∀ (d a : Nat), a + d = L.length → nz L c a < L.length → ∃ r, L[nz L c a]? = some r ∧ r.getD c 0 ≠ 0
  | 0, a, h, hl => by rw [nz_end (by omega)] at hl; omega
  | d + 1, a, h, hl => by
    obtain ⟨r, hr⟩ : ∃ r, L[a]? = some r := ⟨L[a]'(by omega), List.getElem?_eq_getElem (by omega)⟩
    by_cases hz : r.getD c 0 = 0
    · rw [← nz_step hr hz] at hl ⊢
      exact nz_val d (a + 1) (by omega) hl
    · rw [nz_stop hr hz]
      exact ⟨r, hr, hz⟩
theorem nz_zero {L : List (List Int)} {c : Nat} : ∀ (d a : Nat), a + d = L.length → ∀ (j : Nat) r, a ≤ j → j < nz L c a → L[j]? = some r → r.getD c 0 = 0
  | 0, a, h, j, r, h1, h2, hr => by rw [nz_end (by omega)] at h2; omega
  | d + 1, a, h, j, r, h1, h2, hr => by
    obtain ⟨u, hu⟩ : ∃ u, L[a]? = some u := ⟨L[a]'(by omega), List.getElem?_eq_getElem (by omega)⟩
    by_cases hz : u.getD c 0 = 0
    · rw [← nz_step hu hz] at h2
      rcases Nat.eq_or_lt_of_le h1 with rfl | h3
      · rw [hu] at hr; cases hr; exact hz
      · exact nz_zero d (a + 1) (by omega) j r (by omega) h2 hr
    · rw [nz_stop hu hz] at h2; omega
/-- What stands in the rows behind a round. -/
theorem rnd_rows {p : Int} {K c n : Nat} {L L' : List (List Int)} (hf : Fer p) (hL : Rect p K L) (hn : n ≤ L.length) (h : rnd p L c n = some L') :
    ∃ (a : Nat) (u w : List Int) (b : Int), n ≤ a ∧ a < L.length ∧ L[n]? = some u ∧ L[a]? = some w ∧ w.getD c 0 ≠ 0 ∧ (∃ q, w.getD c 0 * b = 1 + p * q) ∧ L'.length = L.length ∧ L'[n]? = some (sc p b w) ∧
      (∀ (j : Nat) v, n ≤ j → j < a → L[j]? = some v → v.getD c 0 = 0) ∧
      ∀ j, j ≠ n → L'[j]? = (if j = a then some u else L[j]?).map fun v => tk p (v.getD c 0) v (sc p b w) := by
  unfold rnd at h
  split at h
  · cases h
  · rename_i hne
    have hnz := nz_le (L := L) (c := c) (L.length - n) n (by omega)
    have hlt : nz L c n < L.length := by omega
    obtain ⟨w, hw, hw0⟩ := nz_val (L.length - n) n (by omega) hlt
    have hz := nz_zero (L := L) (c := c) (L.length - n) n (by omega)
    obtain ⟨a, ha⟩ : ∃ a, nz L c n = a := ⟨_, rfl⟩
    rw [ha] at hw hz hnz hlt h
    obtain ⟨u, hu⟩ : ∃ u, L[n]? = some u := ⟨L[n]'(by omega), List.getElem?_eq_getElem (by omega)⟩
    have hswn : (sw L n a)[n]? = some w := by
      rw [sw_get hu hw]
      split
      · rename_i e; subst e; rw [hw] at hu; exact hu.symm
      · rw [if_pos rfl]
    have hd : (sw L n a).getD n [] = w := by rw [List.getD_eq_getElem?_getD, hswn]; rfl
    have hwin := hL w (List.mem_of_getElem? hw)
    have hwc : 0 < w.getD c 0 ∧ w.getD c 0 < p := by
      rcases Nat.lt_or_ge c w.length with hc | hc
      · have h1 : w.getD c 0 = w[c] := by rw [List.getD_eq_getElem?_getD, List.getElem?_eq_getElem hc]; rfl
        have h2 := hwin.2 _ (List.getElem_mem hc)
        rw [← h1] at h2
        omega
      · exact absurd (by rw [List.getD_eq_getElem?_getD, List.getElem?_eq_none hc]; rfl) hw0
    have hlead : lead p L c n = sc p (pw p (w.getD c 0) (p - 2).toNat) w := by unfold lead; rw [ha, hd]
    rw [hlead] at h
    injection h with h
    obtain ⟨b, hb⟩ : ∃ b, pw p (w.getD c 0) (p - 2).toNat = b := ⟨_, rfl⟩
    have hbq := hf.2 _ hwc.1 hwc.2
    rw [hb] at h hbq
    have hlen : ((sw L n a).set n (sc p b w)).length = L.length := by rw [List.length_set, sw_len]
    refine ⟨a, u, w, b, hnz.1, hlt, hu, hw, hw0, hbq, by rw [← h, tks_len, hlen], ?_, fun j v h1 h2 hj => hz j v h1 h2 hj, fun j hj => ?_⟩
    · rw [← h, tks_get, List.getElem?_set, if_pos rfl, if_pos (by rw [sw_len]; omega), Option.map_some, if_neg (by omega)]
    · rw [← h, tks_get, List.getElem?_set, if_neg (Ne.symm hj), sw_get hu hw]
      rcases Nat.lt_or_ge j L.length with hjl | hjl
      · congr 1
        · funext v; rw [if_pos ⟨hjl, hj⟩]
        · split
          · rfl
          · rfl
      · rw [if_neg (by omega), if_neg hj, if_neg (by omega), List.getElem?_eq_none hjl]; rfl
/-- A round changes no solution. -/
theorem rnd_sat {p : Int} {k c n : Nat} {L L' : List (List Int)} (hf : Fer p) (hL : Rect p (k + 1) L) (hn : n ≤ L.length) (h : rnd p L c n = some L') {x : List Int} : AllS p k L' x ↔ AllS p k L x := by
  obtain ⟨a, u, w, b, h1, h2, hu, hw, hw0, ⟨q, hq⟩, hlen, hln, hz, hrest⟩ := rnd_rows hf hL hn h
  have hul := (hL u (List.mem_of_getElem? hu)).1
  have hwl := (hL w (List.mem_of_getElem? hw)).1
  have hscl : (sc p b w).length = w.length := by simp [sc]
  constructor
  · intro hs
    have s1 := hs n _ hln
    have s2 : Sat p k w x := sat_sc' ⟨q, hq⟩ s1
    have s3 : ∀ (j : Nat) v, j ≠ n → (if j = a then some u else L[j]?) = some v → Sat p k v x := fun j v hj hv => by
      have hvl : v.length = k + 1 := by
        split at hv
        · cases hv; exact hul
        · exact (hL v (List.mem_of_getElem? hv)).1
      exact sat_tk' (by rw [hscl, hvl, hwl]) (hs j _ (by rw [hrest j hj, hv]; rfl)) s1
    intro j r hj
    by_cases e : j = a
    · subst e; rw [hw] at hj; cases hj; exact s2
    · by_cases e' : j = n
      · subst e'
        rw [hu] at hj; cases hj
        exact s3 a u (Ne.symm e) (if_pos rfl)
      · exact s3 j r e' (by rw [if_neg e]; exact hj)
  · intro hs j r hj
    have s1 : Sat p k (sc p b w) x := sat_sc (hs a w hw)
    by_cases e : j = n
    · subst e; rw [hln] at hj; cases hj; exact s1
    · rw [hrest j e] at hj
      obtain ⟨v, hv, rfl⟩ := Option.map_eq_some_iff.1 hj
      have hv2 : Sat p k v x ∧ v.length = k + 1 := by
        split at hv
        · cases hv; exact ⟨hs n _ hu, hul⟩
        · exact ⟨hs j _ hv, (hL v (List.mem_of_getElem? hv)).1⟩
      exact sat_tk (by rw [hscl, hv2.2, hwl]) hv2.1 s1
/-- An echelon, as far as column c, with the columns of the first elements. -/
structure Ech (p : Int) (K c : Nat) (E : List (List Int)) (P : List Nat) : Prop where
  rect : Rect p K E
  le : P.length ≤ E.length
  piv : ∀ (i q : Nat) r, P[i]? = some q → E[i]? = some r → q < c ∧ r.getD q 0 = 1 ∧ ∀ j, j < q → r.getD j 0 = 0
  zero : ∀ (i : Nat) r, P.length ≤ i → E[i]? = some r → ∀ j, j < c → r.getD j 0 = 0
  red : ∀ (i q j : Nat) r, P[i]? = some q → j ≠ i → E[j]? = some r → r.getD q 0 = 0
theorem small_mod {p x : Int} (h : 0 ≤ x ∧ x < p) : x % p = x := Int.emod_eq_of_lt h.1 h.2
theorem Rect.el {p : Int} {K : Nat} {L : List (List Int)} (h : Rect p K L) (hp : 0 < p) {i : Nat} {r : List Int} (hr : L[i]? = some r) (c : Nat) : 0 ≤ r.getD c 0 ∧ r.getD c 0 < p := by
  rcases Nat.lt_or_ge c r.length with hc | hc
  · rw [List.getD_eq_getElem?_getD, List.getElem?_eq_getElem hc]
    exact (h r (List.mem_of_getElem? hr)).2 _ (List.getElem_mem hc)
  · rw [List.getD_eq_getElem?_getD, List.getElem?_eq_none hc]; exact ⟨Int.le_refl _, hp⟩
theorem Ech.none_ {p : Int} {K c : Nat} {E : List (List Int)} {P : List Nat} (h : Ech p K c E P) (hr : rnd p E c P.length = none) : Ech p K (c + 1) E P := by
  have hz : nz E c P.length = E.length := by
    unfold rnd at hr
    split at hr
    · assumption
    · cases hr
  refine ⟨h.rect, h.le, fun i q r h1 h2 => ⟨by have := (h.piv i q r h1 h2).1; omega, (h.piv i q r h1 h2).2⟩, fun i r h1 h2 j hj => ?_, h.red⟩
  by_cases e : j = c
  · subst e
    exact nz_zero (E.length - P.length) P.length (by have := h.le; omega) i r h1 (by rw [hz]; exact (List.getElem?_eq_some_iff.1 h2).1) h2
  · exact h.zero i r h1 h2 j (by omega)
theorem Ech.some_ {p : Int} {K c : Nat} {E E' : List (List Int)} {P : List Nat} (hf : Fer p) (h : Ech p K c E P) (hr : rnd p E c P.length = some E') (hR : Rect p K E') : Ech p K (c + 1) E' (P ++ [c]) := by
  have hp : 0 < p := by have := hf.1; omega
  obtain ⟨a, u, w, b, h1, h2, hu, hw, hw0, ⟨q0, hq0⟩, hlen, hln, hz, hrest⟩ := rnd_rows hf h.rect h.le hr
  have hwz : ∀ j, j < c → w.getD j 0 = 0 := fun j hj => h.zero a w h1 hw j hj
  have huz : ∀ j, j < c → u.getD j 0 = 0 := fun j hj => h.zero _ u (Nat.le_refl _) hu j hj
  have hlz : ∀ j, j < c → (sc p b w).getD j 0 = 0 := fun j hj => by rw [sc_get, hwz j hj]; simp
  have hl1 : (sc p b w).getD c 0 = 1 := by
    rw [sc_get, hq0, Int.add_mul_emod_self_left]
    exact Int.emod_eq_of_lt (by omega) (by have := hf.1; omega)
  have hul := (h.rect u (List.mem_of_getElem? hu)).1
  have hwl := (h.rect w (List.mem_of_getElem? hw)).1
  have hscl : (sc p b w).length = w.length := by simp [sc]
  have src : ∀ (j : Nat) r, j ≠ P.length → E'[j]? = some r → ∃ v i, E[i]? = some v ∧ (j < P.length → i = j) ∧ (P.length < j → P.length ≤ i) ∧ ∀ m, r.getD m 0 = (v.getD m 0 + (p - v.getD c 0) * (sc p b w).getD m 0) % p := fun j r hj hr => by
    rw [hrest j hj] at hr
    obtain ⟨v, hv, rfl⟩ := Option.map_eq_some_iff.1 hr
    split at hv
    · rename_i e
      cases hv
      exact ⟨u, P.length, hu, fun h => by omega, fun h => Nat.le_refl _, fun m => tk_get (by rw [hscl, hul, hwl])⟩
    · exact ⟨v, j, hv, fun h => rfl, fun h => by omega, fun m => tk_get (by rw [hscl, (h.rect v (List.mem_of_getElem? hv)).1, hwl])⟩
  have low : ∀ (j : Nat) (r v : List Int) (i : Nat), E[i]? = some v → (∀ m, r.getD m 0 = (v.getD m 0 + (p - v.getD c 0) * (sc p b w).getD m 0) % p) → ∀ m, m < c → r.getD m 0 = v.getD m 0 := fun j r v i hv hm m hmc => by
    rw [hm m, hlz m hmc, Int.mul_zero, Int.add_zero]
    exact small_mod (h.rect.el hp hv m)
  have atc : ∀ (r v : List Int) (i : Nat), E[i]? = some v → (∀ m, r.getD m 0 = (v.getD m 0 + (p - v.getD c 0) * (sc p b w).getD m 0) % p) → r.getD c 0 = 0 := fun r v i hv hm => by
    rw [hm c, hl1]
    have : v.getD c 0 + (p - v.getD c 0) * 1 = p := by omega
    rw [this, Int.emod_self]
  have hPl : (P ++ [c]).length = P.length + 1 := by simp
  have split1 : ∀ {i q : Nat}, (P ++ [c])[i]? = some q → (i < P.length ∧ P[i]? = some q) ∨ (i = P.length ∧ q = c) := fun {i q} hi => by
    rcases Nat.lt_or_ge i P.length with hl | hl
    · rw [List.getElem?_append_left hl] at hi; exact .inl ⟨hl, hi⟩
    · have := (List.getElem?_eq_some_iff.1 hi).1
      rw [hPl] at this
      have e : i = P.length := by omega
      subst e
      rw [List.getElem?_append_right (Nat.le_refl _)] at hi
      simp at hi
      exact .inr ⟨rfl, hi.symm⟩
  refine ⟨hR, by rw [hPl, hlen]; omega, fun i q r hi hr2 => ?_, fun i r hi hr2 j hj => ?_, fun i q j r hi hj hr2 => ?_⟩
  · rcases split1 hi with ⟨hl, hi⟩ | ⟨rfl, rfl⟩
    · obtain ⟨v, i', hv, e1, _, hm⟩ := src i r (by omega) hr2
      have e := e1 hl
      subst e
      obtain ⟨p1, p2, p3⟩ := h.piv i' q v hi hv
      refine ⟨by omega, by rw [low i' r v i' hv hm q p1]; exact p2, fun m hm' => by rw [low i' r v i' hv hm m (by omega)]; exact p3 m hm'⟩
    · rw [hln] at hr2
      cases hr2
      exact ⟨by omega, hl1, hlz⟩
  · rw [hPl] at hi
    obtain ⟨v, i', hv, _, e2, hm⟩ := src i r (by omega) hr2
    by_cases e : j = c
    · subst e; exact atc r v i' hv hm
    · rw [low i r v i' hv hm j (by omega)]
      exact h.zero i' v (e2 (by omega)) hv j (by omega)
  · rcases split1 hi with ⟨hl, hi⟩ | ⟨rfl, rfl⟩
    · have hqc : q < c := by
        obtain ⟨v, hv⟩ : ∃ v, E[i]? = some v := ⟨E[i]'(by have := h.le; omega), List.getElem?_eq_getElem (by have := h.le; omega)⟩
        exact (h.piv i q v hi hv).1
      by_cases e : j = P.length
      · subst e; rw [hln] at hr2; cases hr2; exact hlz q hqc
      · obtain ⟨v, i', hv, e1, e2, hm⟩ := src j r e hr2
        rw [low j r v i' hv hm q hqc]
        refine h.red i q i' v hi (fun e' => ?_) hv
        rcases Nat.lt_or_ge j P.length with hjl | hjl
        · exact hj (by rw [← e1 hjl]; exact e')
        · have := e2 (by omega); omega
    · obtain ⟨v, i', hv, _, _, hm⟩ := src j r hj hr2
      exact atc r v i' hv hm
end Go.Proofs.Ytmkpfllbmdahkaa.Pl
/- How many solutions linear equations have, in plain Lean. Each holds under its own conditions. -/
set_option linter.unusedVariables false
set_option linter.unusedSimpArgs false
namespace Go.Proofs.Ytmkpfllbmdahkaa.Pl
theorem ech_shape {p : Int} {K : Nat} {L : List (List Int)} (hf : Fer p) (h : Rect p K L) : ∀ c, Ech p K c (ech p L c).1 (ech p L c).2
  | 0 => ⟨h, by simp [ech], fun i q r hi => by simp [ech] at hi, fun i r _ _ j hj => absurd hj (Nat.not_lt_zero _), fun i q j r hi => by simp [ech] at hi⟩
  | c + 1 => by
    have ih := ech_shape hf h c
    have hp : 0 < p := by have := hf.1; omega
    simp only [ech]
    split
    · rename_i hr
      exact ih.none_ hr
    · rename_i L' hr
      exact ih.some_ hf hr (rnd_ok hp ih.rect ih.le hr).1
theorem ech_sat {p : Int} {k : Nat} {L : List (List Int)} (hf : Fer p) (h : Rect p (k + 1) L) {x : List Int} : ∀ c, AllS p k (ech p L c).1 x ↔ AllS p k L x
  | 0 => Iff.rfl
  | c + 1 => by
    have ih := ech_sat hf h (x := x) c
    have sh := ech_shape hf h c
    simp only [ech]
    split
    · exact ih
    · rename_i L' hr
      exact (rnd_sat hf sh.rect sh.le hr).trans ih
/-- All lists of m elements. -/
def vec (p : Nat) : Nat → List (List Int)
  | 0 => [[]]
  | m + 1 => (vec p m).flatMap fun t => (List.range p).map fun (a : Nat) => (a : Int) :: t
theorem vec_len {p : Nat} : ∀ (m : Nat) {t : List Int}, t ∈ vec p m → t.length = m
  | 0, t, h => by simp [vec] at h; simp [h]
  | m + 1, t, h => by
    simp only [vec, List.mem_flatMap, List.mem_map] at h
    obtain ⟨u, hu, a, _, rfl⟩ := h
    simp [vec_len m hu]
/-- Counted part by part. -/
theorem count_flat {α β : Type} {l : List α} {f : α → List β} {Q : β → Bool} {R : α → Bool} {q : Nat} (h : ∀ t ∈ l, (f t).countP Q = if R t = true then q else 0) : (l.flatMap f).countP Q = q * l.countP R := by
  induction l with
  | nil => simp
  | cons t l ih =>
    rw [List.flatMap_cons, List.countP_append, List.countP_cons, h t List.mem_cons_self, ih (fun u hu => h u (List.mem_cons_of_mem _ hu)), Nat.mul_add]
    split <;> simp <;> omega
theorem count_one (s : Nat) : ∀ m, (List.range m).countP (fun a => decide (a = s)) = if s < m then 1 else 0
  | 0 => by simp
  | m + 1 => by
    rw [List.range_succ, List.countP_append, count_one s m, List.countP_cons, List.countP_nil]
    by_cases h : m = s
    · subst h; simp
    · rw [show decide (m = s) = false by simp [h]]
      simp only [Nat.zero_add, Bool.false_eq_true, if_false, Nat.add_zero]
      by_cases h2 : s < m
      · rw [if_pos h2, if_pos (by omega)]
      · rw [if_neg h2, if_neg (by omega)]
theorem count_root {p : Int} (hp : 0 < p) (z : Int) : (List.range p.toNat).countP (fun a : Nat => decide (((a : Int) + z) % p = 0)) = 1 := by
  have h1 := Int.emod_nonneg (-z) (show p ≠ 0 by omega)
  have h2 := Int.emod_lt_of_pos (-z) hp
  obtain ⟨s, hs⟩ : ∃ s : Nat, (-z) % p = s := ⟨((-z) % p).toNat, by omega⟩
  have h3 := count_one s p.toNat
  rw [if_pos (by omega)] at h3
  rw [← h3]
  refine List.countP_congr fun a ha => ?_
  have ha := List.mem_range.1 ha
  simp only [decide_eq_true_eq]
  have e : ((a : Int) + z) % p = 0 ↔ (a : Int) % p = (-z) % p := by
    rw [Int.emod_eq_emod_iff_emod_sub_eq_zero]
    rw [show (a : Int) - -z = a + z by omega]
  rw [e, hs, Int.emod_eq_of_lt (by omega) (by omega)]
  omega
/-- How many columns before c are no pivots. -/
def fr (P : List Nat) : Nat → Nat
  | 0 => 0
  | c + 1 => fr P c + if c ∈ P then 0 else 1
theorem fr_mono (P : List Nat) (c : Nat) : fr P c ≤ fr P (c + 1) := by simp only [fr]; omega
theorem fr_le (P : List Nat) {c d : Nat} (h : c ≤ d) : fr P c ≤ fr P d := by
  induction d with
  | zero => have : c = 0 := by omega
            subst this; exact Nat.le_refl _
  | succ d ih =>
    rcases Nat.eq_or_lt_of_le h with e | e
    · rw [e]; exact Nat.le_refl _
    · exact Nat.le_trans (ih (by omega)) (fr_mono P d)
theorem fr_app {P : List Nat} {c : Nat} : ∀ {d : Nat}, d ≤ c → fr (P ++ [c]) d = fr P d
  | 0, _ => rfl
  | d + 1, h => by
    have h1 : d ≠ c := by omega
    simp only [fr]
    rw [fr_app (show d ≤ c by omega)]
    simp [h1]
theorem ech_fr {p : Int} {K : Nat} {L : List (List Int)} (hf : Fer p) (h : Rect p K L) : ∀ c, fr (ech p L c).2 c + (ech p L c).2.length = c
  | 0 => by simp [ech, fr]
  | c + 1 => by
    have ih := ech_fr hf h c
    have sh := ech_shape hf h c
    have hnc : c ∉ (ech p L c).2 := fun hm => by
      obtain ⟨i, hi⟩ := List.getElem?_of_mem hm
      have hil := (List.getElem?_eq_some_iff.1 hi).1
      have := (sh.piv i c _ hi (List.getElem?_eq_getElem (by have := sh.le; omega))).1
      omega
    simp only [ech]
    split
    · simp only [fr, if_neg hnc]; omega
    · simp only [fr, fr_app (Nat.le_refl c), List.length_append, List.length_singleton]
      simp; omega
/-- The rows with pivots in the last m columns hold. -/
def Tail (p : Int) (k : Nat) (E : List (List Int)) (P : List Nat) (m : Nat) (t : List Int) : Prop := ∀ (i q : Nat) r, P[i]? = some q → k - m ≤ q → E[i]? = some r → (dF r (k - m) t - r.getD k 0) % p = 0
theorem count_tail {p : Int} {k : Nat} {E : List (List Int)} {P : List Nat} (hp : 0 < p) (h : Ech p (k + 1) k E P) {D : ∀ m t, Decidable (Tail p k E P m t)} : ∀ m, m ≤ k → (vec p.toNat m).countP (fun t => @decide _ (D m t)) = p.toNat ^ (fr P k - fr P (k - m))
  | 0, _ => by
    have hT : Tail p k E P 0 [] := fun i q r hi hq hr => by
      have := (h.piv i q r hi hr).1
      omega
    simp [vec, hT]
  | m + 1, hm => by
    have ih := count_tail hp h (D := D) m (by omega)
    obtain ⟨c, hc⟩ : ∃ c, k - (m + 1) = c := ⟨_, rfl⟩
    have hc1 : k - m = c + 1 := by omega
    rw [hc1] at ih
    have hfr := fr_le P (show c + 1 ≤ k by omega)
    have hlow : ∀ (t : List Int) (a : Int) (i q : Nat) r, P[i]? = some q → c + 1 ≤ q → E[i]? = some r → dF r c (a :: t) = dF r (c + 1) t := fun t a i q r hi hq hr => by
      simp only [dF]
      rw [(h.piv i q r hi hr).2.2 c (by omega)]
      omega
    have hrest : ∀ (t : List Int) (a : Int), Tail p k E P (m + 1) (a :: t) → Tail p k E P m t := fun t a hT i q r hi hq hr => by
      rw [hc1] at hq ⊢
      have := hT i q r hi (by omega) hr
      rw [hc, hlow t a i q r hi hq hr] at this
      exact this
    simp only [vec]
    by_cases hmem : c ∈ P
    · obtain ⟨i0, hi0⟩ := List.getElem?_of_mem hmem
      have hil := (List.getElem?_eq_some_iff.1 hi0).1
      obtain ⟨r0, hr0⟩ : ∃ r, E[i0]? = some r := ⟨E[i0]'(by have := h.le; omega), List.getElem?_eq_getElem (by have := h.le; omega)⟩
      have hone := (h.piv i0 c r0 hi0 hr0).2.1
      rw [count_flat (R := fun t => @decide _ (D m t)) (q := 1), ih, hc]
      · simp only [fr, if_pos hmem, Nat.add_zero, Nat.one_mul]
      · intro t ht
        have hiff : ∀ a : Int, Tail p k E P (m + 1) (a :: t) ↔ (Tail p k E P m t ∧ (a + (dF r0 (c + 1) t - r0.getD k 0)) % p = 0) := fun a => by
          constructor
          · intro hT
            refine ⟨hrest t a hT, ?_⟩
            have := hT i0 c r0 hi0 (by omega) hr0
            rw [hc] at this
            simp only [dF] at this
            rw [hone] at this
            rw [show a + (dF r0 (c + 1) t - r0.getD k 0) = 1 * a + dF r0 (c + 1) t - r0.getD k 0 by omega]
            exact this
          · rintro ⟨hT, ha⟩ i q r hi hq hr
            rw [hc] at hq ⊢
            rcases Nat.eq_or_lt_of_le hq with e | e
            · subst e
              have : i = i0 := Classical.byContradiction fun hne => by
                have h0 := h.red i c i0 r0 hi (fun e => hne e.symm) hr0
                rw [hone] at h0
                cases h0
              subst this
              rw [hr0] at hr
              cases hr
              simp only [dF]
              rw [hone, show 1 * a + dF r0 (c + 1) t - r0.getD k 0 = a + (dF r0 (c + 1) t - r0.getD k 0) by omega]
              exact ha
            · rw [hlow t a i q r hi e hr]
              have := hT i q r hi (by omega) hr
              rw [hc1] at this
              exact this
        rw [List.countP_map]
        by_cases hT : Tail p k E P m t
        · rw [if_pos (by simpa using hT)]
          refine Eq.trans (List.countP_congr fun a _ => ?_) (count_root hp (dF r0 (c + 1) t - r0.getD k 0))
          simp only [Function.comp, decide_eq_true_eq]
          rw [hiff]
          exact ⟨fun h => h.2, fun h => ⟨hT, h⟩⟩
        · rw [if_neg (by simpa using hT)]
          refine List.countP_eq_zero.2 fun a _ => ?_
          simp only [Function.comp, decide_eq_true_eq]
          rw [hiff]
          exact fun h => hT h.1
    · rw [count_flat (R := fun t => @decide _ (D m t)) (q := p.toNat), ih, hc]
      · have e : fr P (c + 1) = fr P c + 1 := by simp only [fr, if_neg hmem]
        rw [e] at hfr ⊢
        rw [show fr P k - fr P c = (fr P k - (fr P c + 1)) + 1 by omega, Nat.pow_succ, Nat.mul_comm]
      · intro t ht
        have hiff : ∀ a : Int, Tail p k E P (m + 1) (a :: t) ↔ Tail p k E P m t := fun a => by
          refine ⟨hrest t a, fun hT i q r hi hq hr => ?_⟩
          rw [hc] at hq ⊢
          rcases Nat.eq_or_lt_of_le hq with e | e
          · subst e
            exact absurd (List.mem_of_getElem? hi) hmem
          · rw [hlow t a i q r hi e hr]
            have := hT i q r hi (by omega) hr
            rw [hc1] at this
            exact this
        rw [List.countP_map]
        by_cases hT : Tail p k E P m t
        · rw [if_pos (by simpa using hT)]
          rw [List.countP_eq_length.2 (fun a _ => by simp only [Function.comp, decide_eq_true_eq]; exact (hiff a).2 hT), List.length_range]
        · rw [if_neg (by simpa using hT)]
          refine List.countP_eq_zero.2 fun a _ => ?_
          simp only [Function.comp, decide_eq_true_eq]
          rw [hiff]
          exact hT
end Go.Proofs.Ytmkpfllbmdahkaa.Pl
/- Solutions of linear equations, counted by the echelon, and by numbers; in plain Lean. Each holds under its own conditions. -/
set_option linter.unusedVariables false
set_option linter.unusedSimpArgs false
namespace Go.Proofs.Ytmkpfllbmdahkaa.Pl
theorem dF_zero {r : List Int} : ∀ (t : List Int) (c : Nat), (∀ j, c ≤ j → j < c + t.length → r.getD j 0 = 0) → dF r c t = 0
  | [], _, _ => rfl
  | a :: t, c, h => by
    simp only [dF]
    rw [h c (Nat.le_refl _) (by simp), dF_zero t (c + 1) (fun j h1 h2 => h j (by omega) (by simp only [List.length_cons]; omega))]
    omega
/-- No row behind the pivots has a value. -/
def Solv (p : Int) (k : Nat) (W : List (List Int)) : Prop := ∀ (i : Nat) r, (ech p W k).2.length ≤ i → (ech p W k).1[i]? = some r → r.getD k 0 = 0
theorem count_sol {p : Int} {k : Nat} {W : List (List Int)} (hf : Fer p) (hW : Rect p (k + 1) W) {D : ∀ x, Decidable (AllS p k W x)} {D2 : Decidable (Solv p k W)} :
    (vec p.toNat k).countP (fun x => @decide _ (D x)) = if Solv p k W then p.toNat ^ (k - (ech p W k).2.length) else 0 := by
  have hp : 0 < p := by have := hf.1; omega
  have sh := ech_shape hf hW k
  have hfr := ech_fr hf hW k
  have hrow : ∀ x : List Int, x.length = k → (AllS p k W x ↔ Tail p k (ech p W k).1 (ech p W k).2 k x ∧ Solv p k W) := fun x hx => by
    rw [← ech_sat hf hW k]
    constructor
    · intro h
      refine ⟨fun i q r hi _ hr => ?_, fun i r hi hr => ?_⟩
      · rw [Nat.sub_self]; exact sat_iff.1 (h i r hr)
      · have h1 := sat_iff.1 (h i r hr)
        rw [dF_zero x 0 (fun j _ hj => sh.zero i r hi hr j (by omega))] at h1
        have h2 := sh.rect.el hp hr k
        have h3 : r.getD k 0 % p = 0 := by
          have := Int.dvd_of_emod_eq_zero h1
          exact Int.emod_eq_zero_of_dvd (by have h4 := Int.dvd_neg.2 this; rwa [show -(0 - r.getD k 0) = r.getD k 0 by omega] at h4)
        rw [small_mod h2] at h3
        exact h3
    · rintro ⟨hT, hS⟩ i r hr
      rcases Nat.lt_or_ge i (ech p W k).2.length with hi | hi
      · have := hT i ((ech p W k).2[i]) r (List.getElem?_eq_getElem hi) (by omega) hr
        rw [Nat.sub_self] at this
        exact sat_iff.2 this
      · rw [sat_iff, dF_zero x 0 (fun j _ hj => sh.zero i r hi hr j (by omega)), hS i r hi hr]
        simp
  by_cases hS : Solv p k W
  · rw [if_pos hS]
    have h1 := count_tail hp sh (D := fun _ _ => Classical.propDecidable _) k (Nat.le_refl k)
    rw [Nat.sub_self, show fr (ech p W k).2 k - fr (ech p W k).2 0 = k - (ech p W k).2.length by simp only [fr]; omega] at h1
    rw [← h1]
    refine List.countP_congr fun x hx => ?_
    simp only [decide_eq_true_eq]
    rw [hrow x (vec_len k hx)]
    exact ⟨fun h => h.1, fun h => ⟨h, hS⟩⟩
  · rw [if_neg hS]
    refine List.countP_eq_zero.2 fun x hx => ?_
    simp only [decide_eq_true_eq]
    rw [hrow x (vec_len k hx)]
    exact fun h => hS h.2
theorem solv_iff {p : Int} {k : Nat} {W : List (List Int)} (hf : Fer p) (hW : Rect p (k + 1) W) : Solv p k W ↔ k ∉ (ech p W (k + 1)).2 := by
  have sh := ech_shape hf hW k
  have hnc : k ∉ (ech p W k).2 := fun hm => by
    obtain ⟨i, hi⟩ := List.getElem?_of_mem hm
    have hil := (List.getElem?_eq_some_iff.1 hi).1
    have := (sh.piv i k _ hi (List.getElem?_eq_getElem (by have := sh.le; omega))).1
    omega
  unfold Solv
  simp only [ech]
  split
  · rename_i hr
    refine ⟨fun _ => hnc, fun _ i r hi he => ?_⟩
    have := (sh.none_ hr).zero i r hi he k (by omega)
    exact this
  · rename_i L' hr
    obtain ⟨a, u, w, b, h1, h2, hu, hw, hw0, _⟩ := rnd_rows hf sh.rect sh.le hr
    refine ⟨fun h => absurd (h a w h1 hw) hw0, fun h => absurd (by simp) h⟩
theorem take_get {r : List Int} {k c : Nat} (h : c < k) : (r.take k).getD c 0 = r.getD c 0 := by
  simp only [List.getD_eq_getElem?_getD, List.getElem?_take, if_pos h]
theorem nz_take {W : List (List Int)} {k c : Nat} (hc : c < k) : ∀ (d a : Nat), a + d = W.length → nz (W.map (List.take k)) c a = nz W c a
  | 0, a, h => by rw [nz_end (by rw [List.length_map]; omega), nz_end (by omega)]
  | d + 1, a, h => by
    obtain ⟨u, hu⟩ : ∃ u, W[a]? = some u := ⟨W[a]'(by omega), List.getElem?_eq_getElem (by omega)⟩
    have hu' : (W.map (List.take k))[a]? = some (u.take k) := by rw [List.getElem?_map, hu]; rfl
    by_cases hz : u.getD c 0 = 0
    · rw [← nz_step hu hz, ← nz_step hu' (by rw [take_get hc]; exact hz)]
      exact nz_take hc d (a + 1) (by omega)
    · rw [nz_stop hu hz, nz_stop hu' (by rw [take_get hc]; exact hz)]
theorem getD_take {W : List (List Int)} {k a : Nat} : (W.map (List.take k)).getD a [] = (W.getD a []).take k := by
  simp only [List.getD_eq_getElem?_getD, List.getElem?_map]
  cases W[a]? <;> simp
theorem sw_take {W : List (List Int)} {k n a : Nat} : sw (W.map (List.take k)) n a = (sw W n a).map (List.take k) := by
  simp only [sw, getD_take, List.map_set]
theorem sc_take {p b : Int} {r : List Int} {k : Nat} : sc p b (r.take k) = (sc p b r).take k := by simp only [sc, List.map_take]
theorem tk_take {p t : Int} {a b : List Int} {k : Nat} : tk p t (a.take k) (b.take k) = (tk p t a b).take k := by simp only [tk, List.take_zipWith]
theorem tks_take {p : Int} {c n i k : Nat} {r : List Int} {L : List (List Int)} (hc : c < k) : tks p c n (r.take k) (L.map (List.take k)) i = (tks p c n r L i).map (List.take k) := by
  apply List.ext_getElem?
  intro j
  rw [tks_get, List.getElem?_map, List.getElem?_map, tks_get]
  cases L[j]? with
  | none => rfl
  | some w =>
    simp only [Option.map_some]
    split
    · rw [take_get hc, tk_take]
    · rfl
theorem rnd_take {p : Int} {W : List (List Int)} {k c n : Nat} (hc : c < k) (hn : n ≤ W.length) : rnd p (W.map (List.take k)) c n = (rnd p W c n).map (fun L => L.map (List.take k)) := by
  unfold rnd
  have h1 := nz_take (W := W) hc (W.length - n) n (by omega)
  have h2 : lead p (W.map (List.take k)) c n = (lead p W c n).take k := by
    unfold lead
    rw [h1, sw_take, getD_take, take_get hc, sc_take]
  rw [h1, List.length_map, h2]
  split
  · rfl
  · rw [sw_take, ← List.map_set, tks_take hc]
    rfl
theorem ech_take {p : Int} {K k : Nat} {W : List (List Int)} (hf : Fer p) (hW : Rect p K W) : ∀ c, c ≤ k → ech p (W.map (List.take k)) c = ((ech p W c).1.map (List.take k), (ech p W c).2)
  | 0, _ => rfl
  | c + 1, h => by
    have ih := ech_take (k := k) hf hW c (by omega)
    have sh := ech_shape hf hW c
    simp only [ech]
    rw [ih]
    simp only
    rw [rnd_take (show c < k by omega) sh.le]
    cases rnd p (ech p W c).1 c (ech p W c).2.length <;> rfl
/-- The elements of a number, the lowest one first. -/
def dig (p : Nat) : Nat → Nat → List Int
  | 0, _ => []
  | m + 1, n => ((n % p : Nat) : Int) :: dig p m (n / p)
theorem range_mul (a b : Nat) : List.range (a * b) = (List.range a).flatMap fun q => (List.range b).map fun r => q * b + r := by
  induction a with
  | zero => simp
  | succ a ih =>
    rw [Nat.succ_mul, List.range_add, List.range_succ, List.flatMap_append, ih]
    simp
theorem vec_dig {p : Nat} (hp : 0 < p) : ∀ m, vec p m = (List.range (p ^ m)).map (dig p m)
  | 0 => by simp [vec, dig]
  | m + 1 => by
    rw [vec, vec_dig hp m, Nat.pow_succ, range_mul, List.flatMap_map, List.map_flatMap]
    congr 1
    funext q
    rw [List.map_map]
    refine List.map_congr_left fun r hr => ?_
    have hr := List.mem_range.1 hr
    simp only [Function.comp, dig]
    rw [Nat.add_comm, Nat.add_mul_mod_self_right, Nat.mod_eq_of_lt hr, Nat.add_mul_div_right _ _ hp, Nat.div_eq_of_lt hr, Nat.zero_add]
/-- The numbers with the lowest element s, counted. -/
theorem count_low {p : Nat} (hp : 0 < p) {m s : Nat} (hs : s < p) (Q : List Int → Bool) : (List.range (p ^ (m + 1))).countP (fun n => decide (n % p = s) && Q (dig p (m + 1) n)) = (vec p m).countP (fun t => Q ((s : Int) :: t)) := by
  rw [vec_dig hp m, Nat.pow_succ, range_mul, List.countP_map, count_flat (R := fun q => Q ((s : Int) :: dig p m q)) (q := 1)]
  · rw [Nat.one_mul]; rfl
  · intro q hq
    rw [List.countP_map]
    have h1 : ∀ r, r < p → (decide ((q * p + r) % p = s) && Q (dig p (m + 1) (q * p + r))) = (decide (r = s) && Q ((s : Int) :: dig p m q)) := fun r hr => by
      simp only [dig]
      rw [Nat.add_comm, Nat.add_mul_mod_self_right, Nat.mod_eq_of_lt hr, Nat.add_mul_div_right _ _ hp, Nat.div_eq_of_lt hr, Nat.zero_add]
      by_cases e : r = s
      · subst e; rfl
      · simp [e]
    by_cases hQ : Q ((s : Int) :: dig p m q) = true
    · rw [if_pos hQ]
      have h2 := count_one s p
      rw [if_pos hs] at h2
      refine Eq.trans (List.countP_congr fun r hr => ?_) h2
      simp only [Function.comp]
      rw [h1 r (List.mem_range.1 hr), hQ, Bool.and_true]
    · rw [if_neg hQ]
      refine List.countP_eq_zero.2 fun r hr => ?_
      simp only [Function.comp]
      rw [h1 r (List.mem_range.1 hr)]
      simp [hQ]
end Go.Proofs.Ytmkpfllbmdahkaa.Pl
/- The kernel of rows in echelon form, in plain Lean. Each holds under its own conditions. -/
set_option linter.unusedVariables false
set_option linter.unusedSimpArgs false
set_option maxRecDepth 20000
namespace Go.Proofs.Ytmkpfllbmdahkaa.Am
open Go Go.RowKit Go.Proofs Go.Proofs.Ytmkpfllbmdahkaa.Pl
theorem dF_set {w : List Int} : ∀ (t : List Int) (c q : Nat) (y : Int), q < t.length → dF w c (t.set q y) = dF w c t + w.getD (c + q) 0 * (y - t.getD q 0)
  | [], c, q, y, h => by simp at h
  | a :: t, c, 0, y, h => by
    show w.getD c 0 * y + dF w (c + 1) t = w.getD c 0 * a + dF w (c + 1) t + w.getD (c + 0) 0 * (y - a)
    simp only [Nat.add_zero, Int.mul_sub]
    omega
  | a :: t, c, q + 1, y, h => by
    have ih := dF_set (w := w) t (c + 1) q y (by simpa using h)
    show w.getD c 0 * a + dF w (c + 1) (t.set q y) = w.getD c 0 * a + dF w (c + 1) t + w.getD (c + (q + 1)) 0 * (y - t.getD q 0)
    rw [ih, show c + 1 + q = c + (q + 1) by omega]
    omega
theorem dF_rep {w : List Int} : ∀ (k c : Nat), dF w c (List.replicate k 0) = 0
  | 0, c => rfl
  | k + 1, c => by
    show w.getD c 0 * 0 + dF w (c + 1) (List.replicate k 0) = 0
    rw [dF_rep k, Int.mul_zero]
    rfl
theorem kr_other {E : List (List Int)} {P : List Nat} {p : Int} {k c q : Nat} (hq : q ≠ c) : ∀ n, (∀ i, i < n → P.getD i 0 ≠ q) → (kr E P p k c n).getD q 0 = 0
  | 0, _ => by
    unfold kr
    rw [List.getD_eq_getElem?_getD, List.getElem?_set_ne (Ne.symm hq), List.getElem?_replicate]
    split <;> rfl
  | n + 1, h => by
    unfold kr
    rw [List.getD_eq_getElem?_getD, List.getElem?_set_ne (h n (by omega)), ← List.getD_eq_getElem?_getD]
    exact kr_other hq n (fun i hi => h i (by omega))
/-- What a row gives with a row of the kernel. -/
theorem dF_kr {E : List (List Int)} {P : List Nat} {p : Int} {k c : Nat} {w : List Int} (hc : c < k) (hP : ∀ q ∈ P, q < k) (hcP : c ∉ P) (hnd : ∀ i j, i < P.length → j < P.length → P.getD i 0 = P.getD j 0 → i = j) : ∀ n, n ≤ P.length → ∀ j, (∀ i, i < n → w.getD (P.getD i 0) 0 = if i = j then 1 else 0) → dF w 0 (kr E P p k c n) = w.getD c 0 + (if j < n then (p - (E.getD j []).getD c 0) % p else 0)
  | 0, _, j, _ => by
    unfold kr
    rw [dF_set _ _ _ _ (by simp; exact hc), dF_rep, Nat.zero_add, List.getD_eq_getElem?_getD (l := List.replicate k (0 : Int)), List.getElem?_replicate, if_pos hc, if_neg (Nat.not_lt_zero _)]
    simp
  | n + 1, hn, j, hw => by
    have ih := dF_kr (E := E) (p := p) hc hP hcP hnd n (by omega) j (fun i hi => hw i (by omega))
    have hmem : P.getD n 0 ∈ P := by rw [List.getD_eq_getElem?_getD, List.getElem?_eq_getElem (by omega)]; exact List.getElem_mem _
    have h0 : (kr E P p k c n).getD (P.getD n 0) 0 = 0 := kr_other (fun e => hcP (by rw [← e]; exact hmem)) n (fun i hi e => by have := hnd i n (by omega) (by omega) e; omega)
    have hw1 := hw n (by omega)
    unfold kr
    rw [dF_set _ _ _ _ (by rw [kr_len]; exact hP _ hmem), ih, Nat.zero_add, h0, hw1, Int.sub_zero]
    by_cases e : n = j
    · subst e
      rw [if_pos rfl, if_neg (by omega), if_pos (by omega)]
      omega
    · rw [if_neg e, Int.zero_mul, Int.add_zero]
      by_cases h : j < n
      · rw [if_pos h, if_pos (by omega)]
      · rw [if_neg h, if_neg (by omega)]
theorem kerL_fr {E : List (List Int)} {P : List Nat} {p : Int} {k : Nat} : ∀ c, (kerL E P p k c).length = fr P c
  | 0 => rfl
  | c + 1 => by
    have ih := kerL_fr (E := E) (P := P) (p := p) (k := k) c
    unfold kerL fr
    by_cases h : c ∈ P
    · rw [if_pos h]; simp [h, ih]
    · rw [if_neg h, List.length_append, List.length_singleton, ih]; simp [h]
end Go.Proofs.Ytmkpfllbmdahkaa.Am
