/- What the laws' own functions do at rows of rows of rows of numbers. Each holds under its own conditions. -/
import Derived.Test.YtaepgfafbnjccaaLw1
set_option linter.unusedVariables false
set_option maxRecDepth 20000
namespace Go.Proofs.Ytaepgfafbnjccaa.Am
open Go Go.RowKit Go.Proofs
/-- All cells. -/
abbrev ts_Int64SS (x : List (List Int)) : Nat := x.length + sum (lens x)
theorem sum_le2 {α : Type} {f g : α → Nat} (l : List α) (h : ∀ x, f x ≤ g x) : sum (l.map f) ≤ sum (l.map g) := by
  induction l with
  | nil => exact Nat.le_refl _
  | cons x l ih => have := h x; simp only [List.map_cons, sum]; omega
abbrev K_Int64SSS : Kn (List (List (List Int))) := KI.sl.sl.sl
abbrev M_Int64SSS : Kn (List (List (List Int))) := KI.ml.ml.ml
theorem le_Int64SSS : KLe M_Int64SSS K_Int64SSS := KLe.row le_Int64SS
structure B_Int64SSS (x : List (List (List Int))) : Prop where
  len : x.length ≤ 1048576
  each : ∀ y ∈ x, B_Int64SS y
  tot : sum (x.map sz_Int64SS) ≤ 1048576
abbrev W_Int64SSS (x : List (List (List Int))) : Prop := x.length ≤ 9223372036854775807 ∧ ∀ y ∈ x, W_Int64SS y
abbrev sz_Int64SSS (x : List (List (List Int))) : Nat := sum (x.map sz_Int64SS)
abbrev mk_Int64SSS (k : Int) (x : List (List (List Int))) : List (List (List Int)) := mks mk_Int64SS sz_Int64SS k x
theorem size_Int64SSS {x : List (List (List Int))} (hB : B_Int64SSS x) : sz_Int64SSS x ≤ 1048576 := hB.tot
section
variable {S : Ids} {H0 : AH} {W : Ids} {a a' : Option Addr} {c c' : Nat} {left k : Int}
/-- .. with the very number. -/
theorem szx_Int64SS {x : List (List Int)} (l0 : 0 ≤ left) (l1 : left ≤ 1048576) (hW : W_Int64SS x) (hs : K_Int64SS.R S H0 x [.slice a x.length c]) : Spec Try.prog S H0 41 [.slice a x.length c, .int .i64 left] (fun v => ∃ r : Int, v = .int .i64 r ∧ (r = -1 ∨ (0 ≤ r ∧ r = left - ts_Int64SS x ∧ B_Int64SS x))) := by
  have hs := sl1 hs
  have hx := hW.1
  refine Spec.of1 Try.func41 rfl (by kernel_rfl) rfl (fun H _ => ?_)
  have e : IntKind.i64.wrap (left - (x.length : Int)) = left - (x.length : Int) := wr (by omega) (by omega)
  refine KW.cnd rfl rfl (fun h => KW.ret rfl rfl rfl rfl ⟨-1, rfl, .inl rfl⟩) (fun h => ?_)
  rw [e] at h
  refine KW.lp rfl rfl (fun s : Nat × Int => [(0, .slice a x.length c), (1, .int .i64 s.2), (5, .int .i64 s.1)]) (fun s => s.1 ≤ x.length ∧ 0 ≤ s.2 ∧ s.2 = left - x.length - (sum ((lens x).take s.1) : Nat)) (fun s => x.length - s.1) ((0, left - x.length)) (⟨by omega, by simp only; omega, by simp [sum]⟩) ⟨rfl, congrArg (Value.int .i64) e, rfl, trivial⟩ (fun s hi b n => ?_)
  obtain ⟨i, r⟩ := s
  obtain ⟨hi, hr0, hr1⟩ := hi
  simp only at hi hr0 hr1
  refine KW.cnd rfl rfl (fun h2 => ?_) (fun h2 => KW.ret rfl rfl rfl rfl ⟨_, rfl, .inr ⟨hr0, ?_, ?_⟩⟩)
  · refine KW.getL hs.up rfl rfl rfl rfl rfl rfl rfl rfl rfl rfl rfl rfl rfl rfl rfl rfl (by omega) (h2) (fun y a' m hy hsy => ?_)
    have hy : x[i]? = some y := hy
    have hyl : (lens x)[i]? = some y.length := by simp [hy]
    have hsum := sum_take hyl
    refine KW.call rfl rfl rfl rfl rfl (szInt64S' hr0 (by omega) (hW.2 y (List.mem_of_getElem? hy))) (fun v _ _ hv => ?_)
    obtain ⟨q, rfl, hq⟩ := hv
    refine KW.cnd rfl rfl (fun h3 => KW.ret rfl rfl rfl rfl ⟨-1, rfl, .inl rfl⟩) (fun h3 => ?_)
    exact KW.nxt rfl rfl (fun H g => ⟨(i + 1, q), ⟨by simp only; omega, by simp only; omega, by simp only [hsum]; omega⟩, by simp only; omega, ⟨rfl, rfl, congrArg (Value.int .i64) (inc64 (by omega)), trivial⟩, g⟩)
  · have : i = x.length := by omega
    subst this
    rw [List.take_of_length_le (by simp)] at hr1
    simp only [ts_Int64SS]; omega
  · have : i = x.length := by omega
    subst this
    rw [List.take_of_length_le (by simp)] at hr1
    exact ⟨by omega, by omega⟩
theorem sz_Int64SSS' {x : List (List (List Int))} (l0 : 0 ≤ left) (l1 : left ≤ 1048576) (hW : W_Int64SSS x) (hs : K_Int64SSS.R S H0 x [.slice a x.length c]) : Spec Try.prog S H0 62 [.slice a x.length c, .int .i64 left] (SzPost left (B_Int64SSS x)) := by
  have hs := sl1 hs
  have hx := hW.1
  refine Spec.of1 Try.func62 rfl (by kernel_rfl) rfl (fun H _ => ?_)
  have e : IntKind.i64.wrap (left - (x.length : Int)) = left - (x.length : Int) := wr (by omega) (by omega)
  refine KW.cnd rfl rfl (fun h => KW.ret rfl rfl rfl rfl ⟨-1, rfl, .inl rfl⟩) (fun h => ?_)
  rw [e] at h
  refine KW.lp rfl rfl (fun s : Nat × Int => [(0, .slice a x.length c), (1, .int .i64 s.2), (5, .int .i64 s.1)]) (fun s => s.1 ≤ x.length ∧ 0 ≤ s.2 ∧ s.2 = left - x.length - (sum ((x.map ts_Int64SS).take s.1) : Nat) ∧ ∀ j y, j < s.1 → x[j]? = some y → B_Int64SS y) (fun s => x.length - s.1) ((0, left - x.length)) (⟨by omega, by simp only; omega, by simp [sum], fun j y h => absurd h (by simp)⟩) ⟨rfl, congrArg (Value.int .i64) e, rfl, trivial⟩ (fun s hi b n => ?_)
  obtain ⟨i, r⟩ := s
  obtain ⟨hi, hr0, hr1, hb⟩ := hi
  simp only at hi hr0 hr1 hb
  refine KW.cnd rfl rfl (fun h2 => ?_) (fun h2 => KW.ret rfl rfl rfl rfl ⟨_, rfl, .inr ⟨hr0, by simp only; omega, ⟨by omega, ?_, ?_⟩⟩⟩)
  · refine KW.getL hs.up rfl rfl rfl rfl rfl rfl rfl rfl rfl rfl rfl rfl rfl rfl rfl rfl (by omega) (h2) (fun y a' m hy hsy => ?_)
    have hy : x[i]? = some y := hy
    have hyl : (x.map ts_Int64SS)[i]? = some (ts_Int64SS y) := by simp [hy]
    have hsum := sum_take hyl
    refine KW.call rfl rfl rfl rfl rfl (szx_Int64SS hr0 (by omega) (hW.2 y (List.mem_of_getElem? hy)) (sl1' hsy)) (fun v _ _ hv => ?_)
    obtain ⟨q, rfl, hq⟩ := hv
    refine KW.cnd rfl rfl (fun h3 => KW.ret rfl rfl rfl rfl ⟨-1, rfl, .inl rfl⟩) (fun h3 => ?_)
    have hq := hq.resolve_left (by omega)
    exact KW.nxt rfl rfl (fun H g => ⟨(i + 1, q), ⟨by simp only; omega, hq.1, by simp only [hsum]; have := hq.2.1; simp only [ts_Int64SS] at *; omega, fun j z hj hz => by
      rcases Nat.lt_or_ge j i with h | h
      · exact hb j z h hz
      · obtain rfl : j = i := by simp only at hj; omega
        rw [hy] at hz
        cases hz
        exact hq.2.2⟩, by simp only; omega, ⟨rfl, rfl, congrArg (Value.int .i64) (inc64 (by omega)), trivial⟩, g⟩)
  · intro y hy
    obtain ⟨j, hj⟩ := List.getElem?_of_mem hy
    have := (List.getElem?_eq_some_iff.1 hj).1
    exact hb j y (by omega) hj
  · have : i = x.length := by omega
    subst this
    rw [List.take_of_length_le (by simp)] at hr1
    have := sum_le2 (f := sz_Int64SS) (g := ts_Int64SS) x (fun y => by simp only [sz_Int64SS, ts_Int64SS]; omega)
    omega
theorem to_Int64SSS {x : List (List (List Int))} (hB : B_Int64SSS x) (hs : K_Int64SSS.R S H0 x [.slice a x.length c]) : SpecM Try.prog S H0 65 [.slice a x.length c] (fun n v H1 => ∃ a c, v = .slice a x.length c ∧ M_Int64SSS.R (New n H1.n) H1 x [.slice a x.length c]) := by
  have hs := sl1 hs
  have hl := hB.len
  refine SpecM.of1 Try.func65 rfl (by kernel_rfl) rfl (fun H _ => ?_)
  refine KW.mk1 rfl rfl rfl rfl rfl rfl rfl rfl rfl rfl rfl rfl (x.length) rfl rfl (by omega) (by show 24 * _ ≤ _; omega) ?_
  refine KW.lpM rfl rfl (fun s : MkS => [(0, .slice a x.length c), (3, .slice (some ⟨H.n, 0, some 1⟩) x.length x.length), (4, .int .i64 s.i)]) (fun s => s.S) (fun s => s.A) (fun s => [(H.n, ⟨_, true, s.cs⟩)]) (fun s => MkI M_Int64SS x H s) (fun s => x.length - s.i) ⟨0, Low H.n, H, fun _ _ => False, List.replicate x.length (.slice none 0 0)⟩
    (MkI.start (by simp)) ⟨rfl, rfl, rfl, trivial⟩ rfl rfl rfl (fun s hi b n => ?_)
  have hle := hi.le
  refine KW.fact (p := H.n < n ∧ ∀ id, s.S id → id < n) (fun _ g => ⟨(g.vars 0 _ rfl).2.1, fun id hid => (g.froz id hid).1⟩) (fun hHn => ?_)
  haveI : Stp (Low H.n) H s.S s.A := ⟨hi.old⟩
  refine KW.cnd rfl rfl (fun h => ?_) (fun h => ?_)
  · refine KW.getL hs.up rfl rfl rfl rfl rfl rfl rfl rfl rfl rfl rfl rfl rfl rfl rfl rfl (by omega) (h) (fun y a' m hy hsy => ?_)
    have hy : x[s.i]? = some y := hy
    refine KW.callN rfl rfl rfl rfl rfl (to_Int64SS (hB.each y (List.mem_of_getElem? hy)) (sl1' hsy)) (fun v H1 S' hn st hw hv => ?_)
    obtain ⟨a2, c2, rfl, hv⟩ := hv
    refine KW.idx0 rfl rfl rfl rfl rfl rfl rfl rfl rfl (by omega) (by omega) ?_
    refine KW.st1 0 rfl rfl rfl rfl rfl rfl rfl rfl rfl rfl rfl rfl (by have := hi.len; simp only; omega) ?_
    exact KW.nxt rfl rfl (fun H' g => ⟨_, hi.next hHn.1 hHn.2 st hw hy hv, by simp only; omega, ⟨rfl, rfl, congrArg (Value.int .i64) (inc64 (by omega)), trivial⟩, g⟩)
  · have he : s.i = x.length := by omega
    refine KW.retM rfl rfl rfl rfl hi.old (fun H1 g => ?_)
    exact ⟨_, _, rfl, ml1' (hi.ml he rfl rfl g)⟩
theorem eq_Int64SSS {x : List (List (List Int))} (hB : B_Int64SSS x) (hs : K_Int64SSS.R S H0 x [.slice a x.length c]) (hs' : K_Int64SSS.R S H0 x [.slice a' x.length c']) : Spec Try.prog S H0 70 [.slice a x.length c, .slice a' x.length c'] (fun v => v = .bool true) := by
  have hs := sl1 hs
  have hs' := sl1 hs'
  have hl := hB.len
  refine Spec.of1 Try.func70 rfl (by kernel_rfl) rfl (fun H _ => ?_)
  refine KW.cndB rfl rfl (fun h => absurd h (by first | decide | simp)) (fun _ => ?_)
  refine KW.lp rfl rfl (fun i : Nat => [(0, .slice a x.length c), (1, .slice a' x.length c'), (5, .int .i64 i)]) (fun i => i ≤ x.length) (fun i => x.length - i) (0) (by omega) ⟨rfl, rfl, rfl, trivial⟩ (fun i hi b n => ?_)
  refine KW.cnd rfl rfl (fun h => ?_) (fun h => ?_)
  · refine KW.getL hs.up rfl rfl rfl rfl rfl rfl rfl rfl rfl rfl rfl rfl rfl rfl rfl rfl (by omega) (h) (fun y a1 m1 hy hsy => ?_)
    refine KW.getL hs'.up rfl rfl rfl rfl rfl rfl rfl rfl rfl rfl rfl rfl rfl rfl rfl rfl (by omega) (h) (fun z a2 m2 hz hsz => ?_)
    have hy : x[i]? = some y := hy
    have hz : x[i]? = some z := hz
    rw [hy] at hz
    cases hz
    refine KW.callE rfl rfl rfl rfl rfl (eq_Int64SS (hB.each y (List.mem_of_getElem? hy)) (sl1' hsy) (sl1' hsz)) (fun _ _ => ?_)
    refine KW.cndB rfl rfl (fun h => absurd h (by first | decide | simp)) (fun _ => ?_)
    refine KW.nxt rfl rfl (fun H' g => ⟨i + 1, by omega, by first | omega | (simp only; omega), ⟨rfl, rfl, congrArg (Value.int .i64) (inc64 (by omega)), trivial⟩, g⟩)
  · exact KW.ret rfl rfl rfl rfl (rfl)
theorem mark_Int64SSS {x : List (List (List Int))} (hB : B_Int64SSS x) (hk : Mk k (sz_Int64SSS x)) (hW : ∀ id, W id → S id) (hs : M_Int64SSS.R W H0 x [.slice a x.length c]) : SpecW Try.prog S H0 W 89 [.slice a x.length c, .int .i64 k] (fun n v H1 => v = .int .i64 (k + sz_Int64SSS x) ∧ M_Int64SSS.R W H1 (mk_Int64SSS k x) [.slice a x.length c]) := by
  have hs := ml1 hs
  have hl := hB.len
  have hk1 := hk.1
  have hk2 : k + (sum (x.map sz_Int64SS) : Nat) ≤ 274877906944 := hk.2
  rcases hs with ⟨rfl, a0, c0, he, ha⟩ | ⟨o, c1, bb, Ws, he, h2, h3, h4, h5, h6, h7, h8, h9⟩
  · refine SpecM.w ?_
    refine SpecM.of Try.func89 rfl (by kernel_rfl) rfl (fun H hfin hfz => ?_)
    refine KW.lp rfl rfl (fun _ : Unit => [(0, .slice a 0 c), (1, .int .i64 k), (5, .int .i64 0)]) (fun _ => True) (fun _ => 0) () trivial ⟨rfl, rfl, rfl, trivial⟩ (fun _ _ b n => ?_)
    refine KW.cnd rfl rfl (fun h => absurd h (by decide)) (fun _ => ?_)
    exact KW.retM rfl rfl rfl rfl (fun id hid => ⟨hid, rfl⟩) (fun H1 g => ⟨congrArg (Value.int .i64) (by simp [sz_Int64SSS, sum]), ml1' (.inl ⟨rfl, a, c, rfl, by cases he; exact ha⟩)⟩)
  · cases he
    refine SpecW.of0 Try.func89 rfl (by kernel_rfl) rfl (fun H hfin hfz => ?_)
    obtain ⟨ho1, ho2⟩ := hfz o (hW o h3)
    have hWl : ∀ id, W id → id < H.n := fun id hid => (hfz id (hW id hid)).1
    have h4 := ho2.trans h4
    refine KW.lpM rfl rfl (fun s : Nat × Ids × AH => [(0, .slice (some ⟨o, 0, some 1⟩) x.length c), (1, .int .i64 (k + sum ((x.map sz_Int64SS).take s.1))), (5, .int .i64 s.1)]) (fun s => s.2.1) (fun s => s.2.2) (fun s => [])
      (fun s => s.1 ≤ x.length ∧ (∀ id, id < H.n → s.2.1 id) ∧ (∀ id, id < H.n → (∀ j, ¬ Ws j id) → s.2.2.m id = H.m id) ∧ (∀ j y, x[j]? = some y → (s.1 ≤ j → M_Int64SS.R (Ws j) s.2.2 y ((bb.cells.drop (0 + j * 1)).take 1)) ∧ (j < s.1 → M_Int64SS.R (Ws j) s.2.2 (mk_Int64SS (k + sum ((x.map sz_Int64SS).take j)) y) ((bb.cells.drop (0 + j * 1)).take 1))))
      (fun s => x.length - s.1) (0, Low H.n, H) ⟨by omega, fun id hid => hid, fun id _ _ => rfl, fun j y hx' => ⟨fun _ => (M_Int64SS).same (fun id hid => (hfz id (hW id (h7 j id hid).1)).2) (h9 j y hx'), fun h => absurd h (by simp)⟩⟩ ⟨rfl, congrArg (Value.int .i64) (by simp [sum]), rfl, trivial⟩ rfl rfl rfl (fun s hi b n => ?_)
    obtain ⟨i, S1, A⟩ := s
    obtain ⟨hi0, hi1, hi2, hi3⟩ := hi
    simp only at hi0 hi1 hi2 hi3
    have hAo : A.m o = some bb := (hi2 o ho1 (fun j hj => (h7 j o hj).2 rfl)).trans h4
    refine KW.cnd rfl rfl (fun h => ?_) (fun h => ?_)
    · have hil : i < x.length := by omega
      obtain ⟨y, hy⟩ : ∃ y, x[i]? = some y := ⟨x[i], List.getElem?_eq_getElem hil⟩
      have hrow := (hi3 i y hy).1 (Nat.le_refl _)
      obtain ⟨ay, cy, hsv⟩ := mlform hrow
      rw [hsv] at hrow
      have hyl : (x.map sz_Int64SS)[i]? = some (sz_Int64SS y) := by simp [hy]
      have hsum := sum_take hyl
      have hsl := sum_le (l := x.map sz_Int64SS) (i + 1)
      refine KW.idx0 rfl rfl rfl rfl rfl rfl rfl rfl rfl (by omega) h ?_
      refine KW.ldC (hi1 o ho1) hAo (cell_of hsv) rfl rfl rfl rfl rfl rfl rfl ?_
      refine KW.callW (fun id hid => hi1 id (hWl id (h7 i id hid).1)) rfl rfl rfl rfl rfl (mark_Int64SS (k := k + sum ((x.map sz_Int64SS).take i)) (hB.each y (List.mem_of_getElem? hy)) (by constructor <;> omega) (fun id hid => hi1 id (hWl id (h7 i id hid).1)) hrow) (fun v H1 S' hn st hw hv => ?_)
      obtain ⟨rfl, hv⟩ := hv
      have st1 : ∀ id, id < H.n → S' id ∧ (¬ Ws i id → H1.m id = A.m id) := fun id hid => st id (hi1 id hid)
      refine KW.nxt rfl rfl (fun H' g => ⟨(i + 1, S', H1), ⟨by simp only; omega, fun id hid => (st1 id hid).1, fun id hid hno => ((st1 id hid).2 (hno i)).trans (hi2 id hid hno), fun j z hx' => ?_⟩, by simp only; omega, ⟨rfl, congrArg (Value.int .i64) (by simp only [hsum]; omega), congrArg (Value.int .i64) (inc64 (by omega)), trivial⟩, g⟩)
      simp only
      by_cases e : j = i
      · subst e
        rw [hy] at hx'
        cases hx'
        exact ⟨fun h => absurd h (by omega), fun _ => by rw [hsv]; exact hv⟩
      · have hsame : ∀ id, Ws j id → H1.m id = A.m id := fun id hid => (st1 id (hWl id (h7 j id hid).1)).2 (fun hc => e (h8 j i id hid hc))
        exact ⟨fun hj => (M_Int64SS).same hsame ((hi3 j z hx').1 (by omega)), fun hj => (M_Int64SS).same hsame ((hi3 j z hx').2 (by omega))⟩
    · obtain rfl : i = x.length := by simp only at h; omega
      refine KW.retW rfl rfl rfl rfl (fun H1 g => ?_) (fun id hid hw => ⟨hi1 id hid, hi2 id hid (fun j hj => hw (h7 j id hj).1)⟩) (fun H1 g => ⟨congrArg (Value.int .i64) ?_, ?_⟩)
      · rcases Nat.eq_zero_or_pos H.n with h | h
        · omega
        · have := (g.froz (H.n - 1) (hi1 _ (by omega))).1; have := g.n_; omega
      · show k + ((sum ((x.map sz_Int64SS).take x.length) : Nat) : Int) = _
        rw [List.take_of_length_le (by simp)]
      · have hl2 : (mk_Int64SSS k x).length = x.length := mks_len _ _ _ _
        have keep : ∀ id, id < H.n → H1.m id = A.m id := fun id hid => (g.froz id (hi1 id hid)).2
        refine ml1' (.inr ⟨o, c, bb, Ws, by rw [hl2], by rw [hl2]; exact h2, h3, (keep o ho1).trans hAo, h5, by rw [hl2]; exact h6, h7, h8, fun j z hx' => ?_⟩)
        have hj : j < x.length := by have := (List.getElem?_eq_some_iff.1 hx').1; omega
        obtain ⟨y, hy⟩ : ∃ y, x[j]? = some y := ⟨x[j], List.getElem?_eq_getElem hj⟩
        rw [mks_at k hy] at hx'
        cases hx'
        exact (M_Int64SS).same (fun id hid => keep id (hWl id (h7 j id hid).1)) ((hi3 j y hy).2 hj)
end
end Go.Proofs.Ytaepgfafbnjccaa.Am
