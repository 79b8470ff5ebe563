/- Contracts: valid schemes and deals, of the program and of the reference. Each holds under its own conditions. -/
import Derived.Test.YtaepgfafbnjccaaFd1
import Derived.Test.YtaepgfafbnjccaaTyDeal
set_option linter.unusedVariables false
set_option maxRecDepth 20000
namespace Go.Proofs.Ytaepgfafbnjccaa.Am
open Go Go.RowKit Go.Proofs
structure OkSch (h : Int) (ow : List Int) (p c : Int) (rows : List (List Int)) : Prop where
  h1 : 1 ≤ h
  h7 : h ≤ 7
  mat : OkMat p c rows
  c1 : 1 ≤ c
  len : ow.length = rows.length
  own : ∀ x ∈ ow, 0 ≤ x ∧ x ≤ h - 1
theorem Good.ints {S0 : Ids} {H0 H1 : AH} {T : List Var} {n j id c : Nat} {b : Blk} {ik : IntKind} {xs : List Int} (g : Good S0 H0 T n H1) (hj : T[j]? = some (id, b)) (hb : b.cells = xs.map (Value.int ik)) (hl : xs.length ≤ c) : (Kn.int ik).Sl (Low H1.n) H1 (.slice (some ⟨id, 0, some 1⟩) xs.length c) xs :=
  int_sl (g.blk hj).2 (g.blk hj).1 hb hl
theorem all_of {α : Type} {xs : List α} {p : α → Prop} (h : ∀ j, j < xs.length → ∀ x, xs[j]? = some x → p x) : ∀ x ∈ xs, p x := fun x hx => by
  obtain ⟨j, hj⟩ := List.getElem?_of_mem hx
  exact h j (List.getElem?_eq_some_iff.1 hj).1 x hj
section
variable {S : Ids} {H0 : AH}
theorem validScheme1 (h y : Int) (hh : 1 ≤ h ∧ h ≤ 7) {id : Nat} {b : Blk} {vs : List Value} (hb : b.cells = .int .i64 h :: vs) (hv : S id ∧ H0.m id = some b) : Spec Try.prog S H0 132 [.int .i64 y, .pointer (some ⟨id, 0, none⟩)] (fun v => v = .bool (!decide (0 ≤ y ∧ y ≤ h - 1))) := by
  refine Spec.of1 Try.func132 rfl (by kernel_rfl) rfl (fun H _ => ?_)
  obtain ⟨hS1, hm1⟩ := On.blk (S' := Low H.n) (H' := H) hv.1 hv.2
  obtain ⟨ty, rw, cs⟩ := b
  subst hb
  refine KW.ldP hS1 hm1 rfl rfl rfl rfl rfl rfl ?_
  refine KW.callE rfl rfl rfl rfl rfl (within _ _ _) (fun _ _ => ?_)
  have e : IntKind.i64.wrap (h - 1) = h - 1 := wr (by omega) (by omega)
  refine KW.ret rfl rfl rfl rfl ?_
  rw [e]; rfl
theorem validScheme (h p c : Int) (hp : I64 p) {a1 c1 a2 c2} {ow : List Int} {rows : List (List Int)} (hO : B_Int64S ow) (hB : B_Int64SS rows) (ho : KI.Sl S H0 (.slice a1 ow.length c1) ow) (hs : KI.sl.Sl S H0 (.slice a2 rows.length c2) rows) :
    Spec Try.prog S H0 66 [.agg #[.int .i64 h, .slice a1 ow.length c1, .int .i64 p, .int .i64 c, .slice a2 rows.length c2]] (fun v => v = .bool (tv (OkSch h ow p c rows))) := by
  refine Spec.of1 Try.func66 rfl (by kernel_rfl) rfl (fun H _ => ?_)
  refine KW.callE rfl rfl rfl rfl rfl (within _ _ _) (fun _ _ => ?_)
  refine KW.tstB rfl rfl (fun k1 => ?_) (fun k1 => ?_)
  · have k1 : 1 ≤ h ∧ h ≤ 7 := by simpa using k1
    refine KW.callE rfl rfl rfl rfl rfl (validMatrix p c hp hB hs.up) (fun _ _ => ?_)
    refine KW.tstB rfl rfl (fun k2 => ?_) (fun k2 => ?_)
    · have k2 := tv_iff.1 k2
      refine KW.tst rfl rfl (fun k3 => ?_) (fun k3 => ?_)
      · have k3 : 1 ≤ c := k3
        refine KW.tstB rfl rfl (fun k4 => ?_) (fun k4 => ?_)
        · have k4 : ow.length = rows.length := by simp at k4; omega
          have hO' : ow.length ≤ 1048576 := hO
          refine KW.callV1 rfl rfl rfl rfl rfl (fun H1 g _ => containsFuncI (p := fun y => !decide (0 ≤ y ∧ y ≤ h - 1)) (by omega) ho.up (fun S' H' o y _ => validScheme1 h y k1 rfl (g.var (j := 0) rfl))) (fun _ _ => ?_)
          refine KW.ret rfl rfl rfl rfl ?_
          show Value.bool (!tv (∃ x ∈ ow, (!decide (0 ≤ x ∧ x ≤ h - 1)) = true)) = _
          by_cases hx : OkSch h ow p c rows
          · rw [tv_true hx, tv_false (fun ⟨x, h1, h2⟩ => by have := hx.own x h1; simp at h2; omega)]; rfl
          · rw [tv_false hx, tv_true ?_]; · rfl
            refine Classical.byContradiction fun hc => hx ⟨k1.1, k1.2, k2, k3, k4, fun x h1 => ?_⟩
            refine Classical.byContradiction fun h2 => hc ⟨x, h1, by simp; omega⟩
        · have k4 : ow.length ≠ rows.length := by simp at k4; omega
          repeat first | refine KW.tstB rfl rfl (fun _ => ?_) (fun h => absurd h (by decide)) | refine KW.tstB rfl rfl (fun h => absurd h (by decide)) (fun _ => ?_)
          exact KW.ret rfl rfl rfl rfl (by rw [tv_false (p := OkSch h ow p c rows) (fun hc => k4 hc.len)]; rfl)
      · have k3 : ¬ 1 ≤ c := k3
        repeat first | refine KW.tstB rfl rfl (fun _ => ?_) (fun h => absurd h (by decide)) | refine KW.tstB rfl rfl (fun h => absurd h (by decide)) (fun _ => ?_)
        exact KW.ret rfl rfl rfl rfl (by rw [tv_false (p := OkSch h ow p c rows) (fun hc => k3 hc.c1)]; rfl)
    · repeat first | refine KW.tstB rfl rfl (fun _ => ?_) (fun h => absurd h (by decide)) | refine KW.tstB rfl rfl (fun h => absurd h (by decide)) (fun _ => ?_)
      exact KW.ret rfl rfl rfl rfl (by rw [tv_false (p := OkSch h ow p c rows) (fun hc => by rw [tv_true hc.mat] at k2; cases k2)]; rfl)
  · have k1 : ¬ (1 ≤ h ∧ h ≤ 7) := by simp at k1; omega
    repeat first | refine KW.tstB rfl rfl (fun _ => ?_) (fun h => absurd h (by decide)) | refine KW.tstB rfl rfl (fun h => absurd h (by decide)) (fun _ => ?_)
    exact KW.ret rfl rfl rfl rfl (by rw [tv_false (p := OkSch h ow p c rows) (fun hc => k1 ⟨hc.h1, hc.h7⟩)]; rfl)
theorem Has3.drop {S : Ids} {H : AH} {id k : Nat} {vs ws : List Value} (h : Has3 S H id k (vs ++ ws)) : Has3 S H id (k + vs.length) ws := by
  obtain ⟨h1, b, h2, h3⟩ := h
  exact ⟨h1, b, h2, fun i v hi => by rw [Nat.add_assoc]; exact h3 _ v (by rw [List.getElem?_append_right (by omega)]; simpa using hi)⟩
theorem Has3.take {S : Ids} {H : AH} {id k : Nat} {vs ws : List Value} (h : Has3 S H id k (vs ++ ws)) : Has3 S H id k vs := by
  obtain ⟨h1, b, h2, h3⟩ := h
  exact ⟨h1, b, h2, fun i v hi => h3 i v (by rw [List.getElem?_append_left (List.getElem?_eq_some_iff.1 hi).1]; exact hi)⟩
theorem Good.has {S0 : Ids} {H0 H1 : AH} {T : List Var} {n j id : Nat} {b : Blk} {vs : List Value} (g : Good S0 H0 T n H1) (hj : T[j]? = some (id, b)) (hb : b.cells = vs) : Has3 (Low H1.n) H1 id 0 vs := ⟨(g.blk hj).2, b, (g.blk hj).1, fun i v hi => by rw [hb, Nat.zero_add]; exact hi⟩
theorem l04Ok (h p c : Int) (hp : I64 p) {id k : Nat} {a1 c1 a2 c2} {ow : List Int} {rows : List (List Int)} (hO : B_Int64S ow) (hB : B_Int64SS rows) (hv : Has3 S H0 id k [.int .i64 h, .slice a1 ow.length c1, .int .i64 p, .int .i64 c, .slice a2 rows.length c2]) (ho : KI.Sl S H0 (.slice a1 ow.length c1) ow) (hs : KI.sl.Sl S H0 (.slice a2 rows.length c2) rows) :
    Spec Try.prog S H0 126 [.pointer (some ⟨id, k, none⟩)] (fun v => v = .bool (tv (OkSch h ow p c rows))) := by
  refine Spec.of1 Try.func126 rfl (by kernel_rfl) rfl (fun H _ => ?_)
  have hO' : ow.length ≤ 1048576 := hO
  have hv := hv.up (S' := Low H.n) (H' := H)
  have ho := ho.up (S' := Low H.n) (H' := H)
  have hs := hs.up (S' := Low H.n) (H' := H)
  refine KW.ldF 0 hv rfl rfl rfl rfl rfl rfl rfl rfl rfl ?_
  refine KW.callE rfl rfl rfl rfl rfl (l00In _ _ _) (fun _ _ => ?_)
  refine KW.tstB rfl rfl (fun k1 => ?_) (fun k1 => ?_)
  · have k1 : ¬ (1 ≤ h ∧ h ≤ 7) := by simp at k1; omega
    repeat first | refine KW.tstB rfl rfl (fun _ => ?_) (fun h => absurd h (by decide)) | refine KW.tstB rfl rfl (fun h => absurd h (by decide)) (fun _ => ?_)
    first | refine KW.cndB rfl rfl (fun _ => ?_) (fun h => absurd h (by decide)) | refine KW.cndB rfl rfl (fun h => absurd h (by decide)) (fun _ => ?_)
    exact KW.ret rfl rfl rfl rfl (by rw [tv_false (p := OkSch h ow p c rows) (fun hc => k1 ⟨hc.h1, hc.h7⟩)]; rfl)
  have k1 : 1 ≤ h ∧ h ≤ 7 := by simpa using k1
  refine KW.callE rfl rfl rfl rfl rfl (l03Ok p c hp hB (hv.drop (vs := [_, _])) hs) (fun _ _ => ?_)
  refine KW.tstB rfl rfl (fun k2 => ?_) (fun k2 => ?_)
  · repeat first | refine KW.tstB rfl rfl (fun _ => ?_) (fun h => absurd h (by decide)) | refine KW.tstB rfl rfl (fun h => absurd h (by decide)) (fun _ => ?_)
    first | refine KW.cndB rfl rfl (fun _ => ?_) (fun h => absurd h (by decide)) | refine KW.cndB rfl rfl (fun h => absurd h (by decide)) (fun _ => ?_)
    exact KW.ret rfl rfl rfl rfl (by rw [tv_false (p := OkSch h ow p c rows) (fun hc => by rw [tv_true hc.mat] at k2; cases k2)]; rfl)
  have k2 : OkMat p c rows := tv_iff.1 (by simpa using k2)
  refine KW.ldF 3 hv rfl rfl rfl rfl rfl rfl rfl rfl rfl ?_
  refine KW.tst rfl rfl (fun k3 => ?_) (fun k3 => ?_)
  · have k3 : c < 1 := k3
    repeat first | refine KW.tstB rfl rfl (fun _ => ?_) (fun h => absurd h (by decide)) | refine KW.tstB rfl rfl (fun h => absurd h (by decide)) (fun _ => ?_)
    first | refine KW.cndB rfl rfl (fun _ => ?_) (fun h => absurd h (by decide)) | refine KW.cndB rfl rfl (fun h => absurd h (by decide)) (fun _ => ?_)
    exact KW.ret rfl rfl rfl rfl (by rw [tv_false (p := OkSch h ow p c rows) (fun hc => by have := hc.c1; omega)]; rfl)
  have k3 : ¬ c < 1 := k3
  refine KW.ldF 1 hv rfl rfl rfl rfl rfl rfl rfl rfl rfl ?_
  refine KW.ldF 4 hv rfl rfl rfl rfl rfl rfl rfl rfl rfl ?_
  refine KW.cndB rfl rfl (fun k4 => ?_) (fun k4 => ?_)
  · have k4 : ow.length ≠ rows.length := by simp at k4; omega
    exact KW.ret rfl rfl rfl rfl (by rw [tv_false (p := OkSch h ow p c rows) (fun hc => k4 hc.len)]; rfl)
  have k4 : ow.length = rows.length := by simp at k4; omega
  refine KW.lp rfl rfl (fun i : Nat => [(0, .pointer (some ⟨id, k, none⟩)), (3, .int .i64 i)]) (fun i => i ≤ ow.length ∧ ∀ j, j < i → ∀ x, ow[j]? = some x → 0 ≤ x ∧ x ≤ h - 1) (fun i => ow.length - i) (0) (⟨by omega, fun j h => absurd h (by omega)⟩) ⟨rfl, rfl, trivial⟩ (fun i hi b n => ?_)
  obtain ⟨hi, hj⟩ := hi
  refine KW.ldF 1 hv rfl rfl rfl rfl rfl rfl rfl rfl rfl ?_
  refine KW.cnd rfl rfl (fun k5 => ?_) (fun k5 => ?_)
  · refine KW.ldF 1 hv rfl rfl rfl rfl rfl rfl rfl rfl rfl ?_
    refine KW.getI ho rfl rfl rfl rfl rfl rfl rfl rfl rfl rfl rfl rfl rfl rfl rfl rfl (by omega) (k5) (fun y hy => ?_)
    have hy : ow[i]? = some y := hy
    refine KW.ldF 0 hv rfl rfl rfl rfl rfl rfl rfl rfl rfl ?_
    refine KW.callE rfl rfl rfl rfl rfl (l00In _ _ _) (fun _ _ => ?_)
    have e : IntKind.i64.wrap (h - 1) = h - 1 := wr (by omega) (by omega)
    rw [e]
    refine KW.cndB rfl rfl (fun k6 => ?_) (fun k6 => ?_)
    · exact KW.ret rfl rfl rfl rfl (by rw [tv_false (p := OkSch h ow p c rows) (fun hc => by have := hc.own y (List.mem_of_getElem? hy); simp at k6; omega)]; rfl)
    · refine KW.nxt rfl rfl (fun H' g => ⟨i + 1, ⟨by omega, upto hj (fun z hz => by rw [hy] at hz; cases hz; simpa using k6)⟩, by first | omega | (simp only; omega), ⟨rfl, congrArg (Value.int .i64) (inc64 (by omega)), trivial⟩, g⟩)
  · exact KW.ret rfl rfl rfl rfl (by rw [tv_true (p := OkSch h ow p c rows) ⟨k1.1, k1.2, k2, by omega, k4, all_of (fun j hjl => hj j (by omega))⟩]; rfl)
end
/-- Keys of an epoch. -/
def KeysOk (p : Int) (n : Nat) (kk : List (List Int)) : Prop := kk.length = n ∧ ∀ y ∈ kk, y.length = 2 ∧ Elems p y
structure OkDeal (h : Int) (ow : List Int) (p c : Int) (rows : List (List Int)) (s : Int) (bs : List (List Int)) (ks : List (List (List Int))) : Prop where
  sch : OkSch h ow p c rows
  sec : 0 ≤ s ∧ s ≤ p - 1
  bl : 1 ≤ bs.length ∧ bs.length ≤ 4
  kl : ks.length = bs.length
  bk : ∀ (e : Nat) b kk, bs[e]? = some b → ks[e]? = some kk → ((b.length : Int) = c - 1 ∧ Elems p b) ∧ KeysOk p rows.length kk
section
variable {S : Ids} {H0 : AH}
theorem validDeal (h p c s : Int) (hp : I64 p) {a1 c1 a2 c2 a3 c3 a4 c4} {ow : List Int} {rows bs : List (List Int)} {ks : List (List (List Int))} (hO : B_Int64S ow) (hB : B_Int64SS rows) (hBb : B_Int64SS bs) (hBk : B_Int64SSS ks)
    (ho : KI.Sl S H0 (.slice a1 ow.length c1) ow) (hs : KI.sl.Sl S H0 (.slice a2 rows.length c2) rows) (hb : KI.sl.Sl S H0 (.slice a3 bs.length c3) bs) (hk : KI.sl.sl.Sl S H0 (.slice a4 ks.length c4) ks) :
    Spec Try.prog S H0 16 [.agg #[.int .i64 h, .slice a1 ow.length c1, .int .i64 p, .int .i64 c, .slice a2 rows.length c2, .int .i64 s, .slice a3 bs.length c3, .slice a4 ks.length c4]] (fun v => v = .bool (tv (OkDeal h ow p c rows s bs ks))) := by
  refine Spec.of1 Try.func16 rfl (by kernel_rfl) rfl (fun H _ => ?_)
  have bl := hBb.len
  have kl := hBk.len
  refine KW.callE rfl rfl rfl rfl rfl (validScheme h p c hp hO hB ho.up hs.up) (fun _ _ => ?_)
  refine KW.tstB rfl rfl (fun k1 => ?_) (fun k1 => ?_)
  · repeat first | refine KW.tstB rfl rfl (fun _ => ?_) (fun h => absurd h (by decide)) | refine KW.tstB rfl rfl (fun h => absurd h (by decide)) (fun _ => ?_)
    first | refine KW.cndB rfl rfl (fun _ => ?_) (fun h => absurd h (by decide)) | refine KW.cndB rfl rfl (fun h => absurd h (by decide)) (fun _ => ?_)
    exact KW.ret rfl rfl rfl rfl (by rw [tv_false (p := OkDeal h ow p c rows s bs ks) (fun hc => by rw [tv_true hc.sch] at k1; cases k1)]; rfl)
  have k1 : OkSch h ow p c rows := tv_iff.1 (by simpa using k1)
  have hc12 := k1.mat.c1
  have hc1 := k1.c1
  refine KW.lit rfl rfl rfl rfl rfl rfl rfl rfl rfl rfl [.int .i64 s] rfl rfl (fun v hv => by simp at hv; subst hv; rfl) rfl ?_
  refine KW.callV1 rfl rfl rfl rfl rfl (fun H1 g _ => areElements p hp (xs := [s]) (by simp) (g.ints (j := 2) rfl rfl (by simp))) (fun _ _ => ?_)
  refine KW.tstB rfl rfl (fun k2 => ?_) (fun k2 => ?_)
  · repeat first | refine KW.tstB rfl rfl (fun _ => ?_) (fun h => absurd h (by decide)) | refine KW.tstB rfl rfl (fun h => absurd h (by decide)) (fun _ => ?_)
    first | refine KW.cndB rfl rfl (fun _ => ?_) (fun h => absurd h (by decide)) | refine KW.cndB rfl rfl (fun h => absurd h (by decide)) (fun _ => ?_)
    exact KW.ret rfl rfl rfl rfl (by rw [tv_false (p := OkDeal h ow p c rows s bs ks) (fun hc => by rw [tv_true ⟨k1.mat.pr, fun x hx => by rw [List.mem_singleton.1 hx]; exact hc.sec⟩] at k2; cases k2)]; rfl)
  have k2 : 0 ≤ s ∧ s ≤ p - 1 := (tv_iff.1 (by simpa using k2) : PrimeP p ∧ Elems p [s]).2 s (by simp)
  refine KW.callE rfl rfl rfl rfl rfl (within _ _ _) (fun _ _ => ?_)
  refine KW.tstB rfl rfl (fun k3 => ?_) (fun k3 => ?_)
  · have k3 : ¬ (1 ≤ bs.length ∧ bs.length ≤ 4) := by simp at k3; omega
    repeat first | refine KW.tstB rfl rfl (fun _ => ?_) (fun h => absurd h (by decide)) | refine KW.tstB rfl rfl (fun h => absurd h (by decide)) (fun _ => ?_)
    first | refine KW.cndB rfl rfl (fun _ => ?_) (fun h => absurd h (by decide)) | refine KW.cndB rfl rfl (fun h => absurd h (by decide)) (fun _ => ?_)
    exact KW.ret rfl rfl rfl rfl (by rw [tv_false (p := OkDeal h ow p c rows s bs ks) (fun hc => k3 hc.bl)]; rfl)
  have k3 : 1 ≤ bs.length ∧ bs.length ≤ 4 := by simp at k3; omega
  refine KW.cndB rfl rfl (fun k4 => ?_) (fun k4 => ?_)
  · exact KW.ret rfl rfl rfl rfl (by rw [tv_false (p := OkDeal h ow p c rows s bs ks) (fun hc => by rw [hc.kl] at k4; simp at k4)]; rfl)
  have k4 : ks.length = bs.length := by simp at k4; omega
  refine KW.lp rfl rfl (fun i : Nat => [(1, .pointer (some ⟨H.n, 0, some 0⟩)), (3, .pointer (some ⟨H.n + 1, 0, some 1⟩)), (41, .slice a3 bs.length c3), (42, .int .i64 bs.length), (43, .int .i64 i)]) (fun i => i ≤ bs.length ∧ ∀ j, j < i → ∀ b kk, bs[j]? = some b → ks[j]? = some kk → ((b.length : Int) = c - 1 ∧ Elems p b) ∧ KeysOk p rows.length kk) (fun i => bs.length - i) (0) (⟨by omega, fun j h => absurd h (by omega)⟩) ⟨rfl, rfl, rfl, rfl, rfl, trivial⟩ (fun i hi b n => ?_)
  obtain ⟨hi, hj⟩ := hi
  refine KW.cnd rfl rfl (fun k5 => ?_) (fun k5 => ?_)
  · refine KW.getL hb.up rfl rfl rfl rfl rfl rfl rfl rfl rfl rfl rfl rfl rfl rfl rfl rfl (by omega) (k5) (fun y a' m' hy hsy => ?_)
    have hy : bs[i]? = some y := hy
    have hym := hBb.each y (List.mem_of_getElem? hy)
    obtain ⟨kk, hkk⟩ : ∃ kk, ks[i]? = some kk := ⟨ks[i]'(by omega), List.getElem?_eq_getElem (by omega)⟩
    have bad : ¬ (((y.length : Int) = c - 1 ∧ Elems p y) ∧ KeysOk p rows.length kk) → aout [Value.bool false] = .bool (tv (OkDeal h ow p c rows s bs ks)) := fun hx => by rw [tv_false (p := OkDeal h ow p c rows s bs ks) (fun hc => hx (hc.bk i y kk hy hkk))]; rfl
    have e : IntKind.i64.wrap (c - 1) = c - 1 := wr (by omega) (by omega)
    refine KW.tstB rfl rfl (fun k6 => ?_) (fun k6 => ?_)
    · rw [e] at k6
      repeat first | refine KW.tstB rfl rfl (fun _ => ?_) (fun h => absurd h (by decide)) | refine KW.tstB rfl rfl (fun h => absurd h (by decide)) (fun _ => ?_)
      first | refine KW.cndB rfl rfl (fun _ => ?_) (fun h => absurd h (by decide)) | refine KW.cndB rfl rfl (fun h => absurd h (by decide)) (fun _ => ?_)
      exact KW.ret rfl rfl rfl rfl (bad (fun hc => by rw [hc.1.1] at k6; simp at k6))
    rw [e] at k6
    have k6 : (y.length : Int) = c - 1 := by simpa using k6
    refine KW.callE rfl rfl rfl rfl rfl (areElements p hp (by omega) hsy) (fun _ _ => ?_)
    refine KW.tstB rfl rfl (fun k7 => ?_) (fun k7 => ?_)
    · repeat first | refine KW.tstB rfl rfl (fun _ => ?_) (fun h => absurd h (by decide)) | refine KW.tstB rfl rfl (fun h => absurd h (by decide)) (fun _ => ?_)
      first | refine KW.cndB rfl rfl (fun _ => ?_) (fun h => absurd h (by decide)) | refine KW.cndB rfl rfl (fun h => absurd h (by decide)) (fun _ => ?_)
      exact KW.ret rfl rfl rfl rfl (bad (fun hc => by rw [tv_true ⟨k1.mat.pr, hc.1.2⟩] at k7; cases k7))
    have k7 : Elems p y := (tv_iff.1 (by simpa using k7) : PrimeP p ∧ Elems p y).2
    refine KW.getL hk.up rfl rfl rfl rfl rfl rfl rfl rfl rfl rfl rfl rfl rfl rfl rfl rfl (by omega) (by omega) (fun kk1 a'' m'' hkk1 hskk => ?_)
    have hkk1 : ks[i]? = some kk1 := hkk1
    rw [hkk] at hkk1
    cases hkk1
    have hkB := hBk.each kk (List.mem_of_getElem? hkk)
    have hkl := hkB.len
    refine KW.cndB rfl rfl (fun k8 => ?_) (fun k8 => ?_)
    · exact KW.ret rfl rfl rfl rfl (bad (fun hc => by rw [hc.2.1] at k8; simp at k8))
    have k8 : kk.length = rows.length := by simp at k8; omega
    refine KW.getL hk.up rfl rfl rfl rfl rfl rfl rfl rfl rfl rfl rfl rfl rfl rfl rfl rfl (by omega) (by omega) (fun kk1 a'' m'' hkk1 hskk => ?_)
    have hkk1 : ks[i]? = some kk1 := hkk1
    rw [hkk] at hkk1
    cases hkk1
    refine KW.lp rfl rfl (fun q : Nat => [(1, .pointer (some ⟨H.n, 0, some 0⟩)), (3, .pointer (some ⟨H.n + 1, 0, some 1⟩)), (41, .slice a3 bs.length c3), (42, .int .i64 bs.length), (43, .int .i64 i), (77, .slice a'' kk.length m''), (78, .int .i64 kk.length), (79, .int .i64 q)]) (fun q => q ≤ kk.length ∧ ∀ j, j < q → ∀ x, kk[j]? = some x → x.length = 2 ∧ Elems p x) (fun q => kk.length - q) (0) (⟨by omega, fun j h => absurd h (by omega)⟩) ⟨rfl, rfl, rfl, rfl, rfl, rfl, rfl, rfl, trivial⟩ (fun q hi b n => ?_)
    obtain ⟨hq, hqj⟩ := hi
    refine KW.cnd rfl rfl (fun k9 => ?_) (fun k9 => ?_)
    · refine KW.getL hskk rfl rfl rfl rfl rfl rfl rfl rfl rfl rfl rfl rfl rfl rfl rfl rfl (by omega) (k9) (fun z a3' m3' hz hsz => ?_)
      have hz : kk[q]? = some z := hz
      have hzm := List.mem_of_getElem? hz
      refine KW.tstB rfl rfl (fun k10 => ?_) (fun k10 => ?_)
      · repeat first | refine KW.tstB rfl rfl (fun _ => ?_) (fun h => absurd h (by decide)) | refine KW.tstB rfl rfl (fun h => absurd h (by decide)) (fun _ => ?_)
        first | refine KW.cndB rfl rfl (fun _ => ?_) (fun h => absurd h (by decide)) | refine KW.cndB rfl rfl (fun h => absurd h (by decide)) (fun _ => ?_)
        exact KW.ret rfl rfl rfl rfl (bad (fun hc => by rw [(hc.2.2 z hzm).1] at k10; simp at k10))
      have k10 : z.length = 2 := by simp at k10; omega
      refine KW.callE rfl rfl rfl rfl rfl (areElements p hp (by omega) hsz) (fun _ _ => ?_)
      refine KW.cndB rfl rfl (fun k11 => ?_) (fun k11 => ?_)
      · exact KW.ret rfl rfl rfl rfl (bad (fun hc => by rw [tv_true ⟨k1.mat.pr, (hc.2.2 z hzm).2⟩] at k11; cases k11))
      have k11 : Elems p z := (tv_iff.1 (by simpa using k11) : PrimeP p ∧ Elems p z).2
      refine KW.nxt rfl rfl (fun H' g => ⟨q + 1, ⟨by omega, upto hqj (fun x hx => by rw [hz] at hx; cases hx; exact ⟨k10, k11⟩)⟩, by first | omega | (simp only; omega), ⟨rfl, rfl, rfl, rfl, rfl, rfl, rfl, congrArg (Value.int .i64) (inc64 (by omega)), trivial⟩, g⟩)
    · refine KW.nxt rfl rfl (fun H' g => ⟨i + 1, ⟨by omega, upto hj (fun b kk1 hb1 hk1 => by rw [hy] at hb1; rw [hkk] at hk1; cases hb1; cases hk1; exact ⟨⟨k6, k7⟩, k8, all_of (fun j hjl => hqj j (by omega))⟩)⟩, by first | omega | (simp only; omega), ⟨rfl, rfl, rfl, rfl, congrArg (Value.int .i64) (inc64 (by omega)), trivial⟩, g⟩)
  · exact KW.ret rfl rfl rfl rfl (by rw [tv_true (p := OkDeal h ow p c rows s bs ks) ⟨k1, k2, k3, k4, fun e b kk h1 h2 => hj e (by have := (List.getElem?_eq_some_iff.1 h1).1; omega) b kk h1 h2⟩]; rfl)
theorem l08Keys (p : Int) (hp : PrimeP p) {id k : Nat} {v0 : Value} {a c} {kk : List (List Int)} {vs : List Value} {aw : Option Addr} {cw w : Nat} (hB : B_Int64SS kk) (hv : Has3 S H0 id k (v0 :: .slice aw w cw :: .int .i64 p :: vs)) (hk : KI.sl.Sl S H0 (.slice a kk.length c) kk) :
    Spec Try.prog S H0 128 [.pointer (some ⟨id, k, none⟩), .slice a kk.length c] (fun v => v = .bool (tv (KeysOk p w kk))) := by
  refine Spec.of1 Try.func128 rfl (by kernel_rfl) rfl (fun H _ => ?_)
  have hv := hv.up (S' := Low H.n) (H' := H)
  have kl := hB.len
  refine KW.lp rfl rfl (fun i : Nat => [(0, .pointer (some ⟨id, k, none⟩)), (1, .slice a kk.length c), (5, .int .i64 i)]) (fun i => i ≤ kk.length ∧ ∀ j, j < i → ∀ x, kk[j]? = some x → x.length = 2 ∧ Elems p x) (fun i => kk.length - i) (0) (⟨by omega, fun j h => absurd h (by omega)⟩) ⟨rfl, rfl, rfl, trivial⟩ (fun i hi b n => ?_)
  obtain ⟨hi, hj⟩ := hi
  refine KW.cnd rfl rfl (fun k1 => ?_) (fun k1 => ?_)
  · refine KW.ldF 2 hv rfl rfl rfl rfl rfl rfl rfl rfl rfl ?_
    refine KW.getL hk.up rfl rfl rfl rfl rfl rfl rfl rfl rfl rfl rfl rfl rfl rfl rfl rfl (by omega) (k1) (fun y a' m' hy hsy => ?_)
    have hy : kk[i]? = some y := hy
    refine KW.callE rfl rfl rfl rfl rfl (l03Row p 2 (by unfold I64; have := hp.1; have := hp.2.1; omega) (hB.each y (List.mem_of_getElem? hy)) hsy) (fun _ _ => ?_)
    refine KW.cndB rfl rfl (fun k2 => ?_) (fun k2 => ?_)
    · exact KW.ret rfl rfl rfl rfl (by rw [tv_false (p := KeysOk p w kk) (fun hc => by rw [tv_true ⟨by have := (hc.2 y (List.mem_of_getElem? hy)).1; omega, (hc.2 y (List.mem_of_getElem? hy)).2⟩] at k2; cases k2)]; rfl)
    have k2 := tv_iff.1 (by simpa using k2)
    refine KW.nxt rfl rfl (fun H' g => ⟨i + 1, ⟨by omega, upto hj (fun x hx => by rw [hy] at hx; cases hx; exact ⟨by have := k2.1; omega, k2.2⟩)⟩, by first | omega | (simp only; omega), ⟨rfl, rfl, congrArg (Value.int .i64) (inc64 (by omega)), trivial⟩, g⟩)
  · refine KW.ldF 1 hv rfl rfl rfl rfl rfl rfl rfl rfl rfl ?_
    refine KW.ret rfl rfl rfl rfl ?_
    show Value.bool (((kk.length : Nat) : Int) == ((w : Nat) : Int)) = _
    congr 1
    by_cases hx : kk.length = w
    · rw [tv_true (p := KeysOk p w kk) ⟨hx, all_of (fun j hjl => hj j (by omega))⟩, hx]; simp
    · rw [tv_false (p := KeysOk p w kk) (fun hc => hx hc.1)]; simp; omega
theorem l08Ok (h p c s : Int) (hp : I64 p) {id k : Nat} {a1 c1 a2 c2 a3 c3 a4 c4} {ow : List Int} {rows bs : List (List Int)} {ks : List (List (List Int))} (hO : B_Int64S ow) (hB : B_Int64SS rows) (hBb : B_Int64SS bs) (hBk : B_Int64SSS ks)
    (hv : Has3 S H0 id k [.int .i64 h, .slice a1 ow.length c1, .int .i64 p, .int .i64 c, .slice a2 rows.length c2, .int .i64 s, .slice a3 bs.length c3, .slice a4 ks.length c4])
    (ho : KI.Sl S H0 (.slice a1 ow.length c1) ow) (hs : KI.sl.Sl S H0 (.slice a2 rows.length c2) rows) (hb : KI.sl.Sl S H0 (.slice a3 bs.length c3) bs) (hk : KI.sl.sl.Sl S H0 (.slice a4 ks.length c4) ks) :
    Spec Try.prog S H0 63 [.pointer (some ⟨id, k, none⟩)] (fun v => v = .bool (tv (OkDeal h ow p c rows s bs ks))) := by
  refine Spec.of1 Try.func63 rfl (by kernel_rfl) rfl (fun H _ => ?_)
  have bl := hBb.len
  have kl := hBk.len
  have hv := hv.up (S' := Low H.n) (H' := H)
  refine KW.callE rfl rfl rfl rfl rfl (l04Ok h p c hp hO hB (hv.take (vs := [_, _, _, _, _])) ho.up hs.up) (fun _ _ => ?_)
  refine KW.tstB rfl rfl (fun k1 => ?_) (fun k1 => ?_)
  · repeat first | refine KW.tstB rfl rfl (fun _ => ?_) (fun h => absurd h (by decide)) | refine KW.tstB rfl rfl (fun h => absurd h (by decide)) (fun _ => ?_)
    first | refine KW.cndB rfl rfl (fun _ => ?_) (fun h => absurd h (by decide)) | refine KW.cndB rfl rfl (fun h => absurd h (by decide)) (fun _ => ?_)
    exact KW.ret rfl rfl rfl rfl (by rw [tv_false (p := OkDeal h ow p c rows s bs ks) (fun hc => by rw [tv_true hc.sch] at k1; cases k1)]; rfl)
  have k1 : OkSch h ow p c rows := tv_iff.1 (by simpa using k1)
  have hc12 := k1.mat.c1
  have hc1 := k1.c1
  have hp31 := k1.mat.pr.2.1
  have hp2 := k1.mat.pr.1
  have ep : IntKind.i64.wrap (p - 1) = p - 1 := wr (by omega) (by omega)
  have ec : IntKind.i64.wrap (c - 1) = c - 1 := wr (by omega) (by omega)
  refine KW.ldF 5 hv rfl rfl rfl rfl rfl rfl rfl rfl rfl ?_
  refine KW.ldF 2 hv rfl rfl rfl rfl rfl rfl rfl rfl rfl ?_
  refine KW.callE rfl rfl rfl rfl rfl (l00In _ _ _) (fun _ _ => ?_)
  rw [ep]
  refine KW.tstB rfl rfl (fun k2 => ?_) (fun k2 => ?_)
  · repeat first | refine KW.tstB rfl rfl (fun _ => ?_) (fun h => absurd h (by decide)) | refine KW.tstB rfl rfl (fun h => absurd h (by decide)) (fun _ => ?_)
    first | refine KW.cndB rfl rfl (fun _ => ?_) (fun h => absurd h (by decide)) | refine KW.cndB rfl rfl (fun h => absurd h (by decide)) (fun _ => ?_)
    exact KW.ret rfl rfl rfl rfl (by rw [tv_false (p := OkDeal h ow p c rows s bs ks) (fun hc => by have := hc.sec; simp at k2; omega)]; rfl)
  have k2 : 0 ≤ s ∧ s ≤ p - 1 := by simpa using k2
  refine KW.ldF 6 hv rfl rfl rfl rfl rfl rfl rfl rfl rfl ?_
  refine KW.callE rfl rfl rfl rfl rfl (l00In _ _ _) (fun _ _ => ?_)
  refine KW.tstB rfl rfl (fun k3 => ?_) (fun k3 => ?_)
  · repeat first | refine KW.tstB rfl rfl (fun _ => ?_) (fun h => absurd h (by decide)) | refine KW.tstB rfl rfl (fun h => absurd h (by decide)) (fun _ => ?_)
    first | refine KW.cndB rfl rfl (fun _ => ?_) (fun h => absurd h (by decide)) | refine KW.cndB rfl rfl (fun h => absurd h (by decide)) (fun _ => ?_)
    exact KW.ret rfl rfl rfl rfl (by rw [tv_false (p := OkDeal h ow p c rows s bs ks) (fun hc => by have := hc.bl; simp at k3; omega)]; rfl)
  have k3 : 1 ≤ bs.length ∧ bs.length ≤ 4 := by simp at k3; omega
  refine KW.ldF 7 hv rfl rfl rfl rfl rfl rfl rfl rfl rfl ?_
  refine KW.ldF 6 hv rfl rfl rfl rfl rfl rfl rfl rfl rfl ?_
  refine KW.cndB rfl rfl (fun k4 => ?_) (fun k4 => ?_)
  · exact KW.ret rfl rfl rfl rfl (by rw [tv_false (p := OkDeal h ow p c rows s bs ks) (fun hc => by rw [hc.kl] at k4; simp at k4)]; rfl)
  have k4 : ks.length = bs.length := by simp at k4; omega
  refine KW.lp rfl rfl (fun i : Nat => [(0, .pointer (some ⟨id, k, none⟩)), (3, .int .i64 i)]) (fun i => i ≤ bs.length ∧ ∀ j, j < i → ∀ b kk, bs[j]? = some b → ks[j]? = some kk → ((b.length : Int) = c - 1 ∧ Elems p b) ∧ KeysOk p rows.length kk) (fun i => bs.length - i) (0) (⟨by omega, fun j h => absurd h (by omega)⟩) ⟨rfl, rfl, trivial⟩ (fun i hi b n => ?_)
  obtain ⟨hi, hj⟩ := hi
  refine KW.ldF 6 hv rfl rfl rfl rfl rfl rfl rfl rfl rfl ?_
  refine KW.cnd rfl rfl (fun k5 => ?_) (fun k5 => ?_)
  · refine KW.ldF 2 hv rfl rfl rfl rfl rfl rfl rfl rfl rfl ?_
    refine KW.ldF 3 hv rfl rfl rfl rfl rfl rfl rfl rfl rfl ?_
    refine KW.ldF 6 hv rfl rfl rfl rfl rfl rfl rfl rfl rfl ?_
    refine KW.getL hb.up rfl rfl rfl rfl rfl rfl rfl rfl rfl rfl rfl rfl rfl rfl rfl rfl (by omega) (k5) (fun y a' m' hy hsy => ?_)
    have hy : bs[i]? = some y := hy
    have hym := hBb.each y (List.mem_of_getElem? hy)
    obtain ⟨kk, hkk⟩ : ∃ kk, ks[i]? = some kk := ⟨ks[i]'(by omega), List.getElem?_eq_getElem (by omega)⟩
    have bad : ¬ (((y.length : Int) = c - 1 ∧ Elems p y) ∧ KeysOk p rows.length kk) → aout [Value.bool false] = .bool (tv (OkDeal h ow p c rows s bs ks)) := fun hx => by rw [tv_false (p := OkDeal h ow p c rows s bs ks) (fun hc => hx (hc.bk i y kk hy hkk))]; rfl
    refine KW.callE rfl rfl rfl rfl rfl (l03Row p _ (by unfold I64; omega) (by omega) hsy) (fun _ _ => ?_)
    rw [ec]
    refine KW.tstB rfl rfl (fun k6 => ?_) (fun k6 => ?_)
    · repeat first | refine KW.tstB rfl rfl (fun _ => ?_) (fun h => absurd h (by decide)) | refine KW.tstB rfl rfl (fun h => absurd h (by decide)) (fun _ => ?_)
      first | refine KW.cndB rfl rfl (fun _ => ?_) (fun h => absurd h (by decide)) | refine KW.cndB rfl rfl (fun h => absurd h (by decide)) (fun _ => ?_)
      exact KW.ret rfl rfl rfl rfl (bad (fun hc => by rw [tv_true hc.1] at k6; cases k6))
    have k6 := tv_iff.1 (by simpa using k6)
    refine KW.ldF 7 hv rfl rfl rfl rfl rfl rfl rfl rfl rfl ?_
    refine KW.getL hk.up rfl rfl rfl rfl rfl rfl rfl rfl rfl rfl rfl rfl rfl rfl rfl rfl (by omega) (by omega) (fun kk1 a'' m'' hkk1 hskk => ?_)
    have hkk1 : ks[i]? = some kk1 := hkk1
    rw [hkk] at hkk1
    cases hkk1
    refine KW.callE rfl rfl rfl rfl rfl (l08Keys p k1.mat.pr (hBk.each kk (List.mem_of_getElem? hkk)) hv hskk) (fun _ _ => ?_)
    refine KW.cndB rfl rfl (fun k7 => ?_) (fun k7 => ?_)
    · exact KW.ret rfl rfl rfl rfl (by rw [k1.len] at k7; exact bad (fun hc => by rw [tv_true hc.2] at k7; cases k7))
    rw [k1.len] at k7
    have k7 := tv_iff.1 (by simpa using k7)
    refine KW.nxt rfl rfl (fun H' g => ⟨i + 1, ⟨by omega, upto hj (fun b kk1 hb1 hk1 => by rw [hy] at hb1; rw [hkk] at hk1; cases hb1; cases hk1; exact ⟨k6, k7⟩)⟩, by first | omega | (simp only; omega), ⟨rfl, congrArg (Value.int .i64) (inc64 (by omega)), trivial⟩, g⟩)
  · exact KW.ret rfl rfl rfl rfl (by rw [tv_true (p := OkDeal h ow p c rows s bs ks) ⟨k1, k2, k3, k4, fun e b kk h1 h2 => hj e (by have := (List.getElem?_eq_some_iff.1 h1).1; omega) b kk h1 h2⟩]; rfl)
theorem specValidDeal (h p c s : Int) (hp : I64 p) {a1 c1 a2 c2 a3 c3 a4 c4} {ow : List Int} {rows bs : List (List Int)} {ks : List (List (List Int))} (hO : B_Int64S ow) (hB : B_Int64SS rows) (hBb : B_Int64SS bs) (hBk : B_Int64SSS ks)
    (ho : KI.Sl S H0 (.slice a1 ow.length c1) ow) (hs : KI.sl.Sl S H0 (.slice a2 rows.length c2) rows) (hb : KI.sl.Sl S H0 (.slice a3 bs.length c3) bs) (hk : KI.sl.sl.Sl S H0 (.slice a4 ks.length c4) ks) :
    Spec Try.prog S H0 14 [.agg #[.int .i64 h, .slice a1 ow.length c1, .int .i64 p, .int .i64 c, .slice a2 rows.length c2, .int .i64 s, .slice a3 bs.length c3, .slice a4 ks.length c4]] (fun v => v = .bool (tv (OkDeal h ow p c rows s bs ks))) := by
  refine Spec.of1 Try.func14 rfl (by kernel_rfl) rfl (fun H _ => ?_)
  refine KW.callV1 rfl rfl rfl rfl rfl (fun H1 g _ => l08Ok h p c s hp hO hB hBb hBk (g.has (j := 0) rfl rfl) ho.up hs.up hb.up hk.up) (fun _ _ => ?_)
  exact KW.ret rfl rfl rfl rfl (rfl)
end
end Go.Proofs.Ytaepgfafbnjccaa.Am
