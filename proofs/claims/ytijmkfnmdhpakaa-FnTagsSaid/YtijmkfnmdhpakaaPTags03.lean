/- Contracts and laws on abstract memory, merged. Each holds under its own conditions. -/
import Derived.Test.YtijmkfnmdhpakaaPTags02
/- Contracts: valid schemes and deals, of the program and of the reference. Each holds under its own conditions. -/
set_option linter.unusedVariables false
set_option maxRecDepth 20000
namespace Go.Proofs.Ytijmkfnmdhpakaa.Am
open Go Go.RowKit Go.Proofs
structure OkSch (h : Int) (ow : List Int) (p c : Int) (rows : List (List Int)) : Prop where
  h1 : 1 ≤ h
  h7 : h ≤ 7
  mat : OkMat p c rows
  c1 : 1 ≤ c
  len : ow.length = rows.length
  own : ∀ x ∈ ow, 0 ≤ x ∧ x ≤ h - 1
section
variable {S : Ids} {H0 : AH}
theorem validScheme1 (h y : Int) (hh : 1 ≤ h ∧ h ≤ 7) {id : Nat} {b : Blk} {vs : List Value} (hb : b.cells = .int .i64 h :: vs) (hv : S id ∧ H0.m id = some b) : Spec Try.prog S H0 188 [.int .i64 y, .pointer (some ⟨id, 0, none⟩)] (fun v => v = .bool (!decide (0 ≤ y ∧ y ≤ h - 1))) := by
  refine Spec.of1 Try.func188 rfl (by kernel_rfl) rfl (fun H _ => ?_)
  obtain ⟨hS1, hm1⟩ := On.blk (S' := Low H.n) (H' := H) hv.1 hv.2
  obtain ⟨ty, rw, cs⟩ := b
  subst hb
  refine KW.ldP hS1 hm1 rfl rfl rfl rfl rfl rfl ?_
  refine KW.callE rfl rfl rfl rfl rfl (within _ _ _) (fun _ _ => ?_)
  have e : IntKind.i64.wrap (h - 1) = h - 1 := wr (by omega) (by omega)
  refine KW.ret rfl rfl rfl rfl ?_
  rw [e]; rfl
theorem validScheme (h p c : Int) (hp : I64 p) {a1 c1 a2 c2} {ow : List Int} {rows : List (List Int)} (hO : B_Int64S ow) (hB : B_Int64SS rows) (ho : KI.Sl S H0 (.slice a1 ow.length c1) ow) (hs : KI.sl.Sl S H0 (.slice a2 rows.length c2) rows) :
    Spec Try.prog S H0 123 [.agg #[.int .i64 h, .slice a1 ow.length c1, .int .i64 p, .int .i64 c, .slice a2 rows.length c2]] (fun v => v = .bool (tv (OkSch h ow p c rows))) := by
  refine Spec.of1 Try.func123 rfl (by kernel_rfl) rfl (fun H _ => ?_)
  refine KW.callE rfl rfl rfl rfl rfl (within _ _ _) (fun _ _ => ?_)
  refine KW.tstB rfl rfl (fun k1 => ?_) (fun k1 => ?_)
  · have k1 : 1 ≤ h ∧ h ≤ 7 := by simpa using k1
    refine KW.callE rfl rfl rfl rfl rfl (validMatrix p c hp hB hs.up) (fun _ _ => ?_)
    refine KW.tstB rfl rfl (fun k2 => ?_) (fun k2 => ?_)
    · have k2 := tv_iff.1 k2
      refine KW.tst rfl rfl (fun k3 => ?_) (fun k3 => ?_)
      · have k3 : 1 ≤ c := k3
        refine KW.tstB rfl rfl (fun k4 => ?_) (fun k4 => ?_)
        · have k4 : ow.length = rows.length := by simp at k4; omega
          have hO' : ow.length ≤ 1048576 := hO
          refine KW.callV1 rfl rfl rfl rfl rfl (fun H1 g _ => containsFuncI (p := fun y => !decide (0 ≤ y ∧ y ≤ h - 1)) (by omega) ho.up (fun S' H' o y _ => validScheme1 h y k1 rfl (g.var (j := 0) rfl))) (fun _ _ => ?_)
          refine KW.ret rfl rfl rfl rfl ?_
          show Value.bool (!tv (∃ x ∈ ow, (!decide (0 ≤ x ∧ x ≤ h - 1)) = true)) = _
          by_cases hx : OkSch h ow p c rows
          · rw [tv_true hx, tv_false (fun ⟨x, h1, h2⟩ => by have := hx.own x h1; simp at h2; omega)]; rfl
          · rw [tv_false hx, tv_true ?_]; · rfl
            refine Classical.byContradiction fun hc => hx ⟨k1.1, k1.2, k2, k3, k4, fun x h1 => ?_⟩
            refine Classical.byContradiction fun h2 => hc ⟨x, h1, by simp; omega⟩
        · have k4 : ow.length ≠ rows.length := by simp at k4; omega
          repeat first | refine KW.tT rfl rfl rfl ?_ | refine KW.tF rfl rfl rfl ?_
          exact KW.ret rfl rfl rfl rfl (by rw [tv_false (p := OkSch h ow p c rows) (fun hc => k4 hc.len)]; rfl)
      · have k3 : ¬ 1 ≤ c := k3
        repeat first | refine KW.tT rfl rfl rfl ?_ | refine KW.tF rfl rfl rfl ?_
        exact KW.ret rfl rfl rfl rfl (by rw [tv_false (p := OkSch h ow p c rows) (fun hc => k3 hc.c1)]; rfl)
    · repeat first | refine KW.tT rfl rfl rfl ?_ | refine KW.tF rfl rfl rfl ?_
      exact KW.ret rfl rfl rfl rfl (by rw [tv_false (p := OkSch h ow p c rows) (fun hc => by rw [tv_true hc.mat] at k2; cases k2)]; rfl)
  · have k1 : ¬ (1 ≤ h ∧ h ≤ 7) := by simp at k1; omega
    repeat first | refine KW.tT rfl rfl rfl ?_ | refine KW.tF rfl rfl rfl ?_
    exact KW.ret rfl rfl rfl rfl (by rw [tv_false (p := OkSch h ow p c rows) (fun hc => k1 ⟨hc.h1, hc.h7⟩)]; rfl)
theorem Has3.drop {S : Ids} {H : AH} {id k : Nat} {vs ws : List Value} (h : Has3 S H id k (vs ++ ws)) : Has3 S H id (k + vs.length) ws := by
  obtain ⟨h1, b, h2, h3⟩ := h
  exact ⟨h1, b, h2, fun i v hi => by rw [Nat.add_assoc]; exact h3 _ v (by rw [List.getElem?_append_right (by omega)]; simpa using hi)⟩
theorem Has3.take {S : Ids} {H : AH} {id k : Nat} {vs ws : List Value} (h : Has3 S H id k (vs ++ ws)) : Has3 S H id k vs := by
  obtain ⟨h1, b, h2, h3⟩ := h
  exact ⟨h1, b, h2, fun i v hi => h3 i v (by rw [List.getElem?_append_left (List.getElem?_eq_some_iff.1 hi).1]; exact hi)⟩
theorem Good.has {S0 : Ids} {H0 H1 : AH} {T : List Var} {n j id : Nat} {b : Blk} {vs : List Value} (g : Good S0 H0 T n H1) (hj : T[j]? = some (id, b)) (hb : b.cells = vs) : Has3 (Low H1.n) H1 id 0 vs := ⟨(g.blk hj).2, b, (g.blk hj).1, fun i v hi => by rw [hb, Nat.zero_add]; exact hi⟩
theorem l04Ok (h p c : Int) (hp : I64 p) {id k : Nat} {a1 c1 a2 c2} {ow : List Int} {rows : List (List Int)} (hO : B_Int64S ow) (hB : B_Int64SS rows) (hv : Has3 S H0 id k [.int .i64 h, .slice a1 ow.length c1, .int .i64 p, .int .i64 c, .slice a2 rows.length c2]) (ho : KI.Sl S H0 (.slice a1 ow.length c1) ow) (hs : KI.sl.Sl S H0 (.slice a2 rows.length c2) rows) :
    Spec Try.prog S H0 204 [.pointer (some ⟨id, k, none⟩)] (fun v => v = .bool (tv (OkSch h ow p c rows))) := by
  refine Spec.of1 Try.func204 rfl (by kernel_rfl) rfl (fun H _ => ?_)
  have hO' : ow.length ≤ 1048576 := hO
  have hv := hv.up (S' := Low H.n) (H' := H)
  have ho := ho.up (S' := Low H.n) (H' := H)
  have hs := hs.up (S' := Low H.n) (H' := H)
  refine KW.ldF 0 hv rfl rfl rfl rfl rfl rfl rfl rfl rfl ?_
  refine KW.callE rfl rfl rfl rfl rfl (l00In _ _ _) (fun _ _ => ?_)
  refine KW.tstB rfl rfl (fun k1 => ?_) (fun k1 => ?_)
  · have k1 : ¬ (1 ≤ h ∧ h ≤ 7) := by simp at k1; omega
    repeat first | refine KW.tT rfl rfl rfl ?_ | refine KW.tF rfl rfl rfl ?_
    first | refine KW.cT rfl rfl rfl ?_ | refine KW.cF rfl rfl rfl ?_
    exact KW.ret rfl rfl rfl rfl (by rw [tv_false (p := OkSch h ow p c rows) (fun hc => k1 ⟨hc.h1, hc.h7⟩)]; rfl)
  have k1 : 1 ≤ h ∧ h ≤ 7 := by simpa using k1
  refine KW.callE rfl rfl rfl rfl rfl (l03Ok p c hp hB (hv.drop (vs := [_, _])) hs) (fun _ _ => ?_)
  refine KW.tstB rfl rfl (fun k2 => ?_) (fun k2 => ?_)
  · repeat first | refine KW.tT rfl rfl rfl ?_ | refine KW.tF rfl rfl rfl ?_
    first | refine KW.cT rfl rfl rfl ?_ | refine KW.cF rfl rfl rfl ?_
    exact KW.ret rfl rfl rfl rfl (by rw [tv_false (p := OkSch h ow p c rows) (fun hc => by rw [tv_true hc.mat] at k2; cases k2)]; rfl)
  have k2 : OkMat p c rows := tv_iff.1 (by simpa using k2)
  refine KW.ldF 3 hv rfl rfl rfl rfl rfl rfl rfl rfl rfl ?_
  refine KW.tst rfl rfl (fun k3 => ?_) (fun k3 => ?_)
  · have k3 : c < 1 := k3
    repeat first | refine KW.tT rfl rfl rfl ?_ | refine KW.tF rfl rfl rfl ?_
    first | refine KW.cT rfl rfl rfl ?_ | refine KW.cF rfl rfl rfl ?_
    exact KW.ret rfl rfl rfl rfl (by rw [tv_false (p := OkSch h ow p c rows) (fun hc => by have := hc.c1; omega)]; rfl)
  have k3 : ¬ c < 1 := k3
  refine KW.ldF 1 hv rfl rfl rfl rfl rfl rfl rfl rfl rfl ?_
  refine KW.ldF 4 hv rfl rfl rfl rfl rfl rfl rfl rfl rfl ?_
  refine KW.cndB rfl rfl (fun k4 => ?_) (fun k4 => ?_)
  · have k4 : ow.length ≠ rows.length := by simp at k4; omega
    exact KW.ret rfl rfl rfl rfl (by rw [tv_false (p := OkSch h ow p c rows) (fun hc => k4 hc.len)]; rfl)
  have k4 : ow.length = rows.length := by simp at k4; omega
  refine KW.lp rfl rfl (fun i : Nat => [(0, .pointer (some ⟨id, k, none⟩)), (3, .int .i64 i)]) (fun i => i ≤ ow.length ∧ ∀ j, j < i → ∀ x, ow[j]? = some x → 0 ≤ x ∧ x ≤ h - 1) (fun i => ow.length - i) (0) (⟨by omega, fun j h => absurd h (by omega)⟩) ⟨rfl, rfl, trivial⟩ (fun i hi bE n => ?_)
  obtain ⟨hi, hj⟩ := hi
  refine KW.ldF 1 hv rfl rfl rfl rfl rfl rfl rfl rfl rfl ?_
  refine KW.cnd rfl rfl (fun k5 => ?_) (fun k5 => ?_)
  · refine KW.ldF 1 hv rfl rfl rfl rfl rfl rfl rfl rfl rfl ?_
    refine KW.getI ho rfl rfl rfl rfl rfl rfl rfl rfl rfl rfl rfl rfl rfl rfl rfl rfl (by omega) (k5) (fun y hy => ?_)
    have hy : ow[i]? = some y := hy
    refine KW.ldF 0 hv rfl rfl rfl rfl rfl rfl rfl rfl rfl ?_
    refine KW.callE rfl rfl rfl rfl rfl (l00In _ _ _) (fun _ _ => ?_)
    have e : IntKind.i64.wrap (h - 1) = h - 1 := wr (by omega) (by omega)
    rw [e]
    refine KW.cndB rfl rfl (fun k6 => ?_) (fun k6 => ?_)
    · exact KW.ret rfl rfl rfl rfl (by rw [tv_false (p := OkSch h ow p c rows) (fun hc => by have := hc.own y (List.mem_of_getElem? hy); simp at k6; omega)]; rfl)
    · refine KW.nxt rfl rfl (fun H' g => ⟨i + 1, ⟨by omega, upto hj (fun z hz => by rw [hy] at hz; cases hz; simpa using k6)⟩, by first | omega | (simp only; omega), ⟨rfl, congrArg (Value.int .i64) (inc64 (by omega)), trivial⟩, g⟩)
  · exact KW.ret rfl rfl rfl rfl (by rw [tv_true (p := OkSch h ow p c rows) ⟨k1.1, k1.2, k2, by omega, k4, all_of (fun j hjl => hj j (by omega))⟩]; rfl)
end
/-- Keys of an epoch. -/
def KeysOk (p : Int) (n : Nat) (kk : List (List Int)) : Prop := kk.length = n ∧ ∀ y ∈ kk, y.length = 2 ∧ Elems p y
structure OkDeal (h : Int) (ow : List Int) (p c : Int) (rows : List (List Int)) (s : Int) (bs : List (List Int)) (ks : List (List (List Int))) : Prop where
  sch : OkSch h ow p c rows
  sec : 0 ≤ s ∧ s ≤ p - 1
  bl : 1 ≤ bs.length ∧ bs.length ≤ 4
  kl : ks.length = bs.length
  bk : ∀ (e : Nat) b kk, bs[e]? = some b → ks[e]? = some kk → ((b.length : Int) = c - 1 ∧ Elems p b) ∧ KeysOk p rows.length kk
section
variable {S : Ids} {H0 : AH}
theorem validDeal (h p c s : Int) (hp : I64 p) {a1 c1 a2 c2 a3 c3 a4 c4} {ow : List Int} {rows bs : List (List Int)} {ks : List (List (List Int))} (hO : B_Int64S ow) (hB : B_Int64SS rows) (hBb : B_Int64SS bs) (hBk : B_Int64SSS ks)
    (ho : KI.Sl S H0 (.slice a1 ow.length c1) ow) (hs : KI.sl.Sl S H0 (.slice a2 rows.length c2) rows) (hb : KI.sl.Sl S H0 (.slice a3 bs.length c3) bs) (hk : KI.sl.sl.Sl S H0 (.slice a4 ks.length c4) ks) :
    Spec Try.prog S H0 173 [.agg #[.int .i64 h, .slice a1 ow.length c1, .int .i64 p, .int .i64 c, .slice a2 rows.length c2, .int .i64 s, .slice a3 bs.length c3, .slice a4 ks.length c4]] (fun v => v = .bool (tv (OkDeal h ow p c rows s bs ks))) := by
  refine Spec.of1 Try.func173 rfl (by kernel_rfl) rfl (fun H _ => ?_)
  have bl := hBb.len
  have kl := hBk.len
  refine KW.callE rfl rfl rfl rfl rfl (validScheme h p c hp hO hB ho.up hs.up) (fun _ _ => ?_)
  refine KW.tstB rfl rfl (fun k1 => ?_) (fun k1 => ?_)
  · repeat first | refine KW.tT rfl rfl rfl ?_ | refine KW.tF rfl rfl rfl ?_
    first | refine KW.cT rfl rfl rfl ?_ | refine KW.cF rfl rfl rfl ?_
    exact KW.ret rfl rfl rfl rfl (by rw [tv_false (p := OkDeal h ow p c rows s bs ks) (fun hc => by rw [tv_true hc.sch] at k1; cases k1)]; rfl)
  have k1 : OkSch h ow p c rows := tv_iff.1 (by simpa using k1)
  have hc12 := k1.mat.c1
  have hc1 := k1.c1
  refine KW.lit rfl rfl rfl rfl rfl rfl rfl rfl rfl rfl [.int .i64 s] rfl rfl (fun v hv => by simp at hv; subst hv; rfl) rfl ?_
  refine KW.callV1 rfl rfl rfl rfl rfl (fun H1 g _ => areElements p hp (xs := [s]) (by simp) (g.ints (j := 2) rfl rfl (by simp))) (fun _ _ => ?_)
  refine KW.tstB rfl rfl (fun k2 => ?_) (fun k2 => ?_)
  · repeat first | refine KW.tT rfl rfl rfl ?_ | refine KW.tF rfl rfl rfl ?_
    first | refine KW.cT rfl rfl rfl ?_ | refine KW.cF rfl rfl rfl ?_
    exact KW.ret rfl rfl rfl rfl (by rw [tv_false (p := OkDeal h ow p c rows s bs ks) (fun hc => by rw [tv_true ⟨k1.mat.pr, fun x hx => by rw [List.mem_singleton.1 hx]; exact hc.sec⟩] at k2; cases k2)]; rfl)
  have k2 : 0 ≤ s ∧ s ≤ p - 1 := (tv_iff.1 (by simpa using k2) : PrimeP p ∧ Elems p [s]).2 s (by simp)
  refine KW.callE rfl rfl rfl rfl rfl (within _ _ _) (fun _ _ => ?_)
  refine KW.tstB rfl rfl (fun k3 => ?_) (fun k3 => ?_)
  · have k3 : ¬ (1 ≤ bs.length ∧ bs.length ≤ 4) := by simp at k3; omega
    repeat first | refine KW.tT rfl rfl rfl ?_ | refine KW.tF rfl rfl rfl ?_
    first | refine KW.cT rfl rfl rfl ?_ | refine KW.cF rfl rfl rfl ?_
    exact KW.ret rfl rfl rfl rfl (by rw [tv_false (p := OkDeal h ow p c rows s bs ks) (fun hc => k3 hc.bl)]; rfl)
  have k3 : 1 ≤ bs.length ∧ bs.length ≤ 4 := by simp at k3; omega
  refine KW.cndB rfl rfl (fun k4 => ?_) (fun k4 => ?_)
  · exact KW.ret rfl rfl rfl rfl (by rw [tv_false (p := OkDeal h ow p c rows s bs ks) (fun hc => by rw [hc.kl] at k4; simp at k4)]; rfl)
  have k4 : ks.length = bs.length := by simp at k4; omega
  refine KW.lp rfl rfl (fun i : Nat => [(1, .pointer (some ⟨H.n, 0, some 0⟩)), (3, .pointer (some ⟨H.n + 1, 0, some 1⟩)), (41, .slice a3 bs.length c3), (42, .int .i64 bs.length), (43, .int .i64 i)]) (fun i => i ≤ bs.length ∧ ∀ j, j < i → ∀ b kk, bs[j]? = some b → ks[j]? = some kk → ((b.length : Int) = c - 1 ∧ Elems p b) ∧ KeysOk p rows.length kk) (fun i => bs.length - i) (0) (⟨by omega, fun j h => absurd h (by omega)⟩) ⟨rfl, rfl, rfl, rfl, rfl, trivial⟩ (fun i hi bE n => ?_)
  obtain ⟨hi, hj⟩ := hi
  refine KW.cnd rfl rfl (fun k5 => ?_) (fun k5 => ?_)
  · refine KW.getL hb.up rfl rfl rfl rfl rfl rfl rfl rfl rfl rfl rfl rfl rfl rfl rfl rfl (by omega) (k5) (fun y a' m' hy hsy => ?_)
    have hy : bs[i]? = some y := hy
    have hym := hBb.each y (List.mem_of_getElem? hy)
    obtain ⟨kk, hkk⟩ : ∃ kk, ks[i]? = some kk := ⟨ks[i]'(by omega), List.getElem?_eq_getElem (by omega)⟩
    have bad : ¬ (((y.length : Int) = c - 1 ∧ Elems p y) ∧ KeysOk p rows.length kk) → aout [Value.bool false] = .bool (tv (OkDeal h ow p c rows s bs ks)) := fun hx => by rw [tv_false (p := OkDeal h ow p c rows s bs ks) (fun hc => hx (hc.bk i y kk hy hkk))]; rfl
    have e : IntKind.i64.wrap (c - 1) = c - 1 := wr (by omega) (by omega)
    refine KW.tstB rfl rfl (fun k6 => ?_) (fun k6 => ?_)
    · rw [e] at k6
      repeat first | refine KW.tT rfl rfl rfl ?_ | refine KW.tF rfl rfl rfl ?_
      first | refine KW.cT rfl rfl rfl ?_ | refine KW.cF rfl rfl rfl ?_
      exact KW.ret rfl rfl rfl rfl (bad (fun hc => by rw [hc.1.1] at k6; simp at k6))
    rw [e] at k6
    have k6 : (y.length : Int) = c - 1 := by simpa using k6
    refine KW.callE rfl rfl rfl rfl rfl (areElements p hp (by omega) hsy) (fun _ _ => ?_)
    refine KW.tstB rfl rfl (fun k7 => ?_) (fun k7 => ?_)
    · repeat first | refine KW.tT rfl rfl rfl ?_ | refine KW.tF rfl rfl rfl ?_
      first | refine KW.cT rfl rfl rfl ?_ | refine KW.cF rfl rfl rfl ?_
      exact KW.ret rfl rfl rfl rfl (bad (fun hc => by rw [tv_true ⟨k1.mat.pr, hc.1.2⟩] at k7; cases k7))
    have k7 : Elems p y := (tv_iff.1 (by simpa using k7) : PrimeP p ∧ Elems p y).2
    refine KW.getL hk.up rfl rfl rfl rfl rfl rfl rfl rfl rfl rfl rfl rfl rfl rfl rfl rfl (by omega) (by omega) (fun kk1 a'' m'' hkk1 hskk => ?_)
    have hkk1 : ks[i]? = some kk1 := hkk1
    rw [hkk] at hkk1
    cases hkk1
    have hkB := hBk.each kk (List.mem_of_getElem? hkk)
    have hkl := hkB.len
    refine KW.cndB rfl rfl (fun k8 => ?_) (fun k8 => ?_)
    · exact KW.ret rfl rfl rfl rfl (bad (fun hc => by rw [hc.2.1] at k8; simp at k8))
    have k8 : kk.length = rows.length := by simp at k8; omega
    refine KW.getL hk.up rfl rfl rfl rfl rfl rfl rfl rfl rfl rfl rfl rfl rfl rfl rfl rfl (by omega) (by omega) (fun kk1 a'' m'' hkk1 hskk => ?_)
    have hkk1 : ks[i]? = some kk1 := hkk1
    rw [hkk] at hkk1
    cases hkk1
    refine KW.lp rfl rfl (fun q : Nat => [(1, .pointer (some ⟨H.n, 0, some 0⟩)), (3, .pointer (some ⟨H.n + 1, 0, some 1⟩)), (41, .slice a3 bs.length c3), (42, .int .i64 bs.length), (43, .int .i64 i), (77, .slice a'' kk.length m''), (78, .int .i64 kk.length), (79, .int .i64 q)]) (fun q => q ≤ kk.length ∧ ∀ j, j < q → ∀ x, kk[j]? = some x → x.length = 2 ∧ Elems p x) (fun q => kk.length - q) (0) (⟨by omega, fun j h => absurd h (by omega)⟩) ⟨rfl, rfl, rfl, rfl, rfl, rfl, rfl, rfl, trivial⟩ (fun q hi bE n => ?_)
    obtain ⟨hq, hqj⟩ := hi
    refine KW.cnd rfl rfl (fun k9 => ?_) (fun k9 => ?_)
    · refine KW.getL hskk rfl rfl rfl rfl rfl rfl rfl rfl rfl rfl rfl rfl rfl rfl rfl rfl (by omega) (k9) (fun z a3' m3' hz hsz => ?_)
      have hz : kk[q]? = some z := hz
      have hzm := List.mem_of_getElem? hz
      refine KW.tstB rfl rfl (fun k10 => ?_) (fun k10 => ?_)
      · repeat first | refine KW.tT rfl rfl rfl ?_ | refine KW.tF rfl rfl rfl ?_
        first | refine KW.cT rfl rfl rfl ?_ | refine KW.cF rfl rfl rfl ?_
        exact KW.ret rfl rfl rfl rfl (bad (fun hc => by rw [(hc.2.2 z hzm).1] at k10; simp at k10))
      have k10 : z.length = 2 := by simp at k10; omega
      refine KW.callE rfl rfl rfl rfl rfl (areElements p hp (by omega) hsz) (fun _ _ => ?_)
      refine KW.cndB rfl rfl (fun k11 => ?_) (fun k11 => ?_)
      · exact KW.ret rfl rfl rfl rfl (bad (fun hc => by rw [tv_true ⟨k1.mat.pr, (hc.2.2 z hzm).2⟩] at k11; cases k11))
      have k11 : Elems p z := (tv_iff.1 (by simpa using k11) : PrimeP p ∧ Elems p z).2
      refine KW.nxt rfl rfl (fun H' g => ⟨q + 1, ⟨by omega, upto hqj (fun x hx => by rw [hz] at hx; cases hx; exact ⟨k10, k11⟩)⟩, by first | omega | (simp only; omega), ⟨rfl, rfl, rfl, rfl, rfl, rfl, rfl, congrArg (Value.int .i64) (inc64 (by omega)), trivial⟩, g⟩)
    · refine KW.nxt rfl rfl (fun H' g => ⟨i + 1, ⟨by omega, upto hj (fun b kk1 hb1 hk1 => by rw [hy] at hb1; rw [hkk] at hk1; cases hb1; cases hk1; exact ⟨⟨k6, k7⟩, k8, all_of (fun j hjl => hqj j (by omega))⟩)⟩, by first | omega | (simp only; omega), ⟨rfl, rfl, rfl, rfl, congrArg (Value.int .i64) (inc64 (by omega)), trivial⟩, g⟩)
  · exact KW.ret rfl rfl rfl rfl (by rw [tv_true (p := OkDeal h ow p c rows s bs ks) ⟨k1, k2, k3, k4, fun e b kk h1 h2 => hj e (by have := (List.getElem?_eq_some_iff.1 h1).1; omega) b kk h1 h2⟩]; rfl)
end
end Go.Proofs.Ytijmkfnmdhpakaa.Am
/- Linear equations modulo a prime, in plain Lean: what a round of the echelon does to them, and how many solutions there are. Each holds under its own conditions. -/
set_option linter.unusedVariables false
set_option linter.unusedSimpArgs false
namespace Go.Proofs.Ytijmkfnmdhpakaa.Pl
theorem sc_get {p b : Int} {w : List Int} {c : Nat} : (sc p b w).getD c 0 = w.getD c 0 * b % p := by
  simp only [sc, List.getD_eq_getElem?_getD, List.getElem?_map]
  cases w[c]? <;> simp
theorem tk_get {p t : Int} {a b : List Int} (h : a.length = b.length) {c : Nat} : (tk p t a b).getD c 0 = (a.getD c 0 + (p - t) * b.getD c 0) % p := by
  simp only [tk, List.getD_eq_getElem?_getD, List.getElem?_zipWith]
  rcases Nat.lt_or_ge c a.length with hc | hc
  · rw [List.getElem?_eq_getElem hc, List.getElem?_eq_getElem (by omega)]; simp
  · rw [List.getElem?_eq_none hc, List.getElem?_eq_none (by omega)]; simp
theorem mod_eq (a p : Int) : ∃ k, a % p = a - p * k := ⟨a / p, by rw [Int.emod_def]⟩
/-- Powers are inverses. -/
def Fer (p : Int) : Prop := 2 ≤ p ∧ ∀ a : Int, 0 < a → a < p → ∃ q, a * pw p a (p - 2).toNat = 1 + p * q
theorem sw_get {L : List (List Int)} {n a : Nat} {u w : List Int} (hu : L[n]? = some u) (hw : L[a]? = some w) (j : Nat) : (sw L n a)[j]? = if j = a then some u else if j = n then some w else L[j]? := by
  obtain ⟨h1, e1⟩ := List.getElem?_eq_some_iff.1 hu
  obtain ⟨h2, e2⟩ := List.getElem?_eq_some_iff.1 hw
  have d1 : L.getD n [] = u := by rw [List.getD_eq_getElem?_getD, hu]; rfl
  have d2 : L.getD a [] = w := by rw [List.getD_eq_getElem?_getD, hw]; rfl
  simp only [sw, d1, d2]
  rw [List.getElem?_set]
  by_cases e : a = j
  · subst e; rw [if_pos rfl, if_pos rfl, if_pos (by rw [List.length_set]; exact h2)]
  · rw [if_neg e, if_neg (Ne.symm e), List.getElem?_set]
    by_cases e' : n = j
    · subst e'; rw [if_pos rfl, if_pos rfl, if_pos h1]
    · rw [if_neg e', if_neg (Ne.symm e')]
theorem nz_val {L : List (List Int)} {c : Nat} : ∀ (d a : Nat), a + d = L.length → nz L c a < L.length → ∃ r, L[nz L c a]? = some r ∧ r.getD c 0 ≠ 0
  | 0, a, h, hl => by rw [nz_end (by omega)] at hl; omega
  | d + 1, a, h, hl => by
    obtain ⟨r, hr⟩ : ∃ r, L[a]? = some r := ⟨L[a]'(by omega), List.getElem?_eq_getElem (by omega)⟩
    by_cases hz : r.getD c 0 = 0
    · rw [← nz_step hr hz] at hl ⊢
      exact nz_val d (a + 1) (by omega) hl
    · rw [nz_stop hr hz]
      exact ⟨r, hr, hz⟩
theorem nz_zero {L : List (List Int)} {c : Nat} : ∀ (d a : Nat), a + d = L.length → ∀ (j : Nat) r, a ≤ j → j < nz L c a → L[j]? = some r → r.getD c 0 = 0
  | 0, a, h, j, r, h1, h2, hr => by rw [nz_end (by omega)] at h2; omega
  | d + 1, a, h, j, r, h1, h2, hr => by
    obtain ⟨u, hu⟩ : ∃ u, L[a]? = some u := ⟨L[a]'(by omega), List.getElem?_eq_getElem (by omega)⟩
    by_cases hz : u.getD c 0 = 0
    · rw [← nz_step hu hz] at h2
      rcases Nat.eq_or_lt_of_le h1 with rfl | h3
      · rw [hu] at hr; cases hr; exact hz
      · exact nz_zero d (a + 1) (by omega) j r (by omega) h2 hr
    · rw [nz_stop hu hz] at h2; omega
/-- What stands in the rows behind a round. -/
theorem rnd_rows {p : Int} {K c n : Nat} {L L' : List (List Int)} (hf : Fer p) (hL : Rect p K L) (hn : n ≤ L.length) (h : rnd p L c n = some L') :
    ∃ (a : Nat) (u w : List Int) (b : Int), n ≤ a ∧ a < L.length ∧ L[n]? = some u ∧ L[a]? = some w ∧ w.getD c 0 ≠ 0 ∧ (∃ q, w.getD c 0 * b = 1 + p * q) ∧ L'.length = L.length ∧ L'[n]? = some (sc p b w) ∧
      (∀ (j : Nat) v, n ≤ j → j < a → L[j]? = some v → v.getD c 0 = 0) ∧
      ∀ j, j ≠ n → L'[j]? = (if j = a then some u else L[j]?).map fun v => tk p (v.getD c 0) v (sc p b w) := by
  unfold rnd at h
  split at h
  · cases h
  · rename_i hne
    have hnz := nz_le (L := L) (c := c) (L.length - n) n (by omega)
    have hlt : nz L c n < L.length := by omega
    obtain ⟨w, hw, hw0⟩ := nz_val (L.length - n) n (by omega) hlt
    have hz := nz_zero (L := L) (c := c) (L.length - n) n (by omega)
    obtain ⟨a, ha⟩ : ∃ a, nz L c n = a := ⟨_, rfl⟩
    rw [ha] at hw hz hnz hlt h
    obtain ⟨u, hu⟩ : ∃ u, L[n]? = some u := ⟨L[n]'(by omega), List.getElem?_eq_getElem (by omega)⟩
    have hswn : (sw L n a)[n]? = some w := by
      rw [sw_get hu hw]
      split
      · rename_i e; subst e; rw [hw] at hu; exact hu.symm
      · rw [if_pos rfl]
    have hd : (sw L n a).getD n [] = w := by rw [List.getD_eq_getElem?_getD, hswn]; rfl
    have hwin := hL w (List.mem_of_getElem? hw)
    have hwc : 0 < w.getD c 0 ∧ w.getD c 0 < p := by
      rcases Nat.lt_or_ge c w.length with hc | hc
      · have h1 : w.getD c 0 = w[c] := by rw [List.getD_eq_getElem?_getD, List.getElem?_eq_getElem hc]; rfl
        have h2 := hwin.2 _ (List.getElem_mem hc)
        rw [← h1] at h2
        omega
      · exact absurd (by rw [List.getD_eq_getElem?_getD, List.getElem?_eq_none hc]; rfl) hw0
    have hlead : lead p L c n = sc p (pw p (w.getD c 0) (p - 2).toNat) w := by unfold lead; rw [ha, hd]
    rw [hlead] at h
    injection h with h
    obtain ⟨b, hb⟩ : ∃ b, pw p (w.getD c 0) (p - 2).toNat = b := ⟨_, rfl⟩
    have hbq := hf.2 _ hwc.1 hwc.2
    rw [hb] at h hbq
    have hlen : ((sw L n a).set n (sc p b w)).length = L.length := by rw [List.length_set, sw_len]
    refine ⟨a, u, w, b, hnz.1, hlt, hu, hw, hw0, hbq, by rw [← h, tks_len, hlen], ?_, fun j v h1 h2 hj => hz j v h1 h2 hj, fun j hj => ?_⟩
    · rw [← h, tks_get, List.getElem?_set, if_pos rfl, if_pos (by rw [sw_len]; omega), Option.map_some, if_neg (by omega)]
    · rw [← h, tks_get, List.getElem?_set, if_neg (Ne.symm hj), sw_get hu hw]
      rcases Nat.lt_or_ge j L.length with hjl | hjl
      · congr 1
        · funext v; rw [if_pos ⟨hjl, hj⟩]
        · split
          · rfl
          · rfl
      · rw [if_neg (by omega), if_neg hj, if_neg (by omega), List.getElem?_eq_none hjl]; rfl
/-- An echelon, as far as column c, with the columns of the first elements. -/
structure Ech (p : Int) (K c : Nat) (E : List (List Int)) (P : List Nat) : Prop where
  rect : Rect p K E
  le : P.length ≤ E.length
  piv : ∀ (i q : Nat) r, P[i]? = some q → E[i]? = some r → q < c ∧ r.getD q 0 = 1 ∧ ∀ j, j < q → r.getD j 0 = 0
  zero : ∀ (i : Nat) r, P.length ≤ i → E[i]? = some r → ∀ j, j < c → r.getD j 0 = 0
  red : ∀ (i q j : Nat) r, P[i]? = some q → j ≠ i → E[j]? = some r → r.getD q 0 = 0
theorem small_mod {p x : Int} (h : 0 ≤ x ∧ x < p) : x % p = x := Int.emod_eq_of_lt h.1 h.2
theorem Rect.el {p : Int} {K : Nat} {L : List (List Int)} (h : Rect p K L) (hp : 0 < p) {i : Nat} {r : List Int} (hr : L[i]? = some r) (c : Nat) : 0 ≤ r.getD c 0 ∧ r.getD c 0 < p := by
  rcases Nat.lt_or_ge c r.length with hc | hc
  · rw [List.getD_eq_getElem?_getD, List.getElem?_eq_getElem hc]
    exact (h r (List.mem_of_getElem? hr)).2 _ (List.getElem_mem hc)
  · rw [List.getD_eq_getElem?_getD, List.getElem?_eq_none hc]; exact ⟨Int.le_refl _, hp⟩
theorem Ech.none_ {p : Int} {K c : Nat} {E : List (List Int)} {P : List Nat} (h : Ech p K c E P) (hr : rnd p E c P.length = none) : Ech p K (c + 1) E P := by
  have hz : nz E c P.length = E.length := by
    unfold rnd at hr
    split at hr
    · assumption
    · cases hr
  refine ⟨h.rect, h.le, fun i q r h1 h2 => ⟨by have := (h.piv i q r h1 h2).1; omega, (h.piv i q r h1 h2).2⟩, fun i r h1 h2 j hj => ?_, h.red⟩
  by_cases e : j = c
  · subst e
    exact nz_zero (E.length - P.length) P.length (by have := h.le; omega) i r h1 (by rw [hz]; exact (List.getElem?_eq_some_iff.1 h2).1) h2
  · exact h.zero i r h1 h2 j (by omega)
theorem Ech.some_ {p : Int} {K c : Nat} {E E' : List (List Int)} {P : List Nat} (hf : Fer p) (h : Ech p K c E P) (hr : rnd p E c P.length = some E') (hR : Rect p K E') : Ech p K (c + 1) E' (P ++ [c]) := by
  have hp : 0 < p := by have := hf.1; omega
  obtain ⟨a, u, w, b, h1, h2, hu, hw, hw0, ⟨q0, hq0⟩, hlen, hln, hz, hrest⟩ := rnd_rows hf h.rect h.le hr
  have hwz : ∀ j, j < c → w.getD j 0 = 0 := fun j hj => h.zero a w h1 hw j hj
  have huz : ∀ j, j < c → u.getD j 0 = 0 := fun j hj => h.zero _ u (Nat.le_refl _) hu j hj
  have hlz : ∀ j, j < c → (sc p b w).getD j 0 = 0 := fun j hj => by rw [sc_get, hwz j hj]; simp
  have hl1 : (sc p b w).getD c 0 = 1 := by
    rw [sc_get, hq0, Int.add_mul_emod_self_left]
    exact Int.emod_eq_of_lt (by omega) (by have := hf.1; omega)
  have hul := (h.rect u (List.mem_of_getElem? hu)).1
  have hwl := (h.rect w (List.mem_of_getElem? hw)).1
  have hscl : (sc p b w).length = w.length := by simp [sc]
  have src : ∀ (j : Nat) r, j ≠ P.length → E'[j]? = some r → ∃ v i, E[i]? = some v ∧ (j < P.length → i = j) ∧ (P.length < j → P.length ≤ i) ∧ ∀ m, r.getD m 0 = (v.getD m 0 + (p - v.getD c 0) * (sc p b w).getD m 0) % p := fun j r hj hr => by
    rw [hrest j hj] at hr
    obtain ⟨v, hv, rfl⟩ := Option.map_eq_some_iff.1 hr
    split at hv
    · rename_i e
      cases hv
      exact ⟨u, P.length, hu, fun h => by omega, fun h => Nat.le_refl _, fun m => tk_get (by rw [hscl, hul, hwl])⟩
    · exact ⟨v, j, hv, fun h => rfl, fun h => by omega, fun m => tk_get (by rw [hscl, (h.rect v (List.mem_of_getElem? hv)).1, hwl])⟩
  have low : ∀ (j : Nat) (r v : List Int) (i : Nat), E[i]? = some v → (∀ m, r.getD m 0 = (v.getD m 0 + (p - v.getD c 0) * (sc p b w).getD m 0) % p) → ∀ m, m < c → r.getD m 0 = v.getD m 0 := fun j r v i hv hm m hmc => by
    rw [hm m, hlz m hmc, Int.mul_zero, Int.add_zero]
    exact small_mod (h.rect.el hp hv m)
  have atc : ∀ (r v : List Int) (i : Nat), E[i]? = some v → (∀ m, r.getD m 0 = (v.getD m 0 + (p - v.getD c 0) * (sc p b w).getD m 0) % p) → r.getD c 0 = 0 := fun r v i hv hm => by
    rw [hm c, hl1]
    have : v.getD c 0 + (p - v.getD c 0) * 1 = p := by omega
    rw [this, Int.emod_self]
  have hPl : (P ++ [c]).length = P.length + 1 := by simp
  have split1 : ∀ {i q : Nat}, (P ++ [c])[i]? = some q → (i < P.length ∧ P[i]? = some q) ∨ (i = P.length ∧ q = c) := fun {i q} hi => by
    rcases Nat.lt_or_ge i P.length with hl | hl
    · rw [List.getElem?_append_left hl] at hi; exact .inl ⟨hl, hi⟩
    · have := (List.getElem?_eq_some_iff.1 hi).1
      rw [hPl] at this
      have e : i = P.length := by omega
      subst e
      rw [List.getElem?_append_right (Nat.le_refl _)] at hi
      simp at hi
      exact .inr ⟨rfl, hi.symm⟩
  refine ⟨hR, by rw [hPl, hlen]; omega, fun i q r hi hr2 => ?_, fun i r hi hr2 j hj => ?_, fun i q j r hi hj hr2 => ?_⟩
  · rcases split1 hi with ⟨hl, hi⟩ | ⟨rfl, rfl⟩
    · obtain ⟨v, i', hv, e1, _, hm⟩ := src i r (by omega) hr2
      have e := e1 hl
      subst e
      obtain ⟨p1, p2, p3⟩ := h.piv i' q v hi hv
      refine ⟨by omega, by rw [low i' r v i' hv hm q p1]; exact p2, fun m hm' => by rw [low i' r v i' hv hm m (by omega)]; exact p3 m hm'⟩
    · rw [hln] at hr2
      cases hr2
      exact ⟨by omega, hl1, hlz⟩
  · rw [hPl] at hi
    obtain ⟨v, i', hv, _, e2, hm⟩ := src i r (by omega) hr2
    by_cases e : j = c
    · subst e; exact atc r v i' hv hm
    · rw [low i r v i' hv hm j (by omega)]
      exact h.zero i' v (e2 (by omega)) hv j (by omega)
  · rcases split1 hi with ⟨hl, hi⟩ | ⟨rfl, rfl⟩
    · have hqc : q < c := by
        obtain ⟨v, hv⟩ : ∃ v, E[i]? = some v := ⟨E[i]'(by have := h.le; omega), List.getElem?_eq_getElem (by have := h.le; omega)⟩
        exact (h.piv i q v hi hv).1
      by_cases e : j = P.length
      · subst e; rw [hln] at hr2; cases hr2; exact hlz q hqc
      · obtain ⟨v, i', hv, e1, e2, hm⟩ := src j r e hr2
        rw [low j r v i' hv hm q hqc]
        refine h.red i q i' v hi (fun e' => ?_) hv
        rcases Nat.lt_or_ge j P.length with hjl | hjl
        · exact hj (by rw [← e1 hjl]; exact e')
        · have := e2 (by omega); omega
    · obtain ⟨v, i', hv, _, _, hm⟩ := src j r hj hr2
      exact atc r v i' hv hm
end Go.Proofs.Ytijmkfnmdhpakaa.Pl
/- Combinations of rows modulo a prime, in plain Lean: a basis that notes of which rows each of its rows is made. Each holds under its own conditions. -/
set_option linter.unusedVariables false
set_option linter.unusedSimpArgs false
namespace Go.Proofs.Ytijmkfnmdhpakaa.Pl
def Cg (p a b : Int) : Prop := ∃ k, a = b + p * k
theorem Cg.symm {p a b : Int} (h : Cg p a b) : Cg p b a := by obtain ⟨k, h⟩ := h; exact ⟨-k, by rw [h]; grind⟩
theorem Cg.trans {p a b c : Int} (h : Cg p a b) (h' : Cg p b c) : Cg p a c := by
  obtain ⟨k, h⟩ := h; obtain ⟨j, h'⟩ := h'; exact ⟨k + j, by rw [h, h']; grind⟩
theorem Cg.add {p a b c d : Int} (h : Cg p a b) (h' : Cg p c d) : Cg p (a + c) (b + d) := by
  obtain ⟨k, h⟩ := h; obtain ⟨j, h'⟩ := h'; exact ⟨k + j, by rw [h, h']; grind⟩
theorem Cg.sub {p a b c d : Int} (h : Cg p a b) (h' : Cg p c d) : Cg p (a - c) (b - d) := by
  obtain ⟨k, h⟩ := h; obtain ⟨j, h'⟩ := h'; exact ⟨k - j, by rw [h, h']; grind⟩
theorem Cg.mul {p a b c d : Int} (h : Cg p a b) (h' : Cg p c d) : Cg p (a * c) (b * d) := by
  obtain ⟨k, h⟩ := h; obtain ⟨j, h'⟩ := h'; exact ⟨b * j + k * d + p * k * j, by rw [h, h']; grind⟩
theorem Cg.eq {p a b : Int} (h : Cg p a b) (ha : 0 ≤ a ∧ a < p) (hb : 0 ≤ b ∧ b < p) : a = b := by
  obtain ⟨k, h⟩ := h
  have h1 : a % p = b % p := by rw [h, Int.add_mul_emod_self_left]
  rwa [Int.emod_eq_of_lt ha.1 ha.2, Int.emod_eq_of_lt hb.1 hb.2] at h1
theorem Cg.of {p a b : Int} (h : a % p = b % p) : Cg p a b := by
  obtain ⟨k, hk⟩ := mod_eq a p
  obtain ⟨j, hj⟩ := mod_eq b p
  exact ⟨k - j, by rw [hk, hj] at h; grind⟩
/-- The first place whose element is not 0; the length if there is none. -/
def fz (r : List Int) : Nat := r.findIdx (fun a => decide (a ≠ 0))
abbrev PrT := List Int × List Int
/-- A row of the basis is taken off. -/
def stp (p : Int) (x b : PrT) : PrT := if x.1.getD (fz b.1) 0 ≠ 0 then (tk p (x.1.getD (fz b.1) 0) x.1 b.1, tk p (x.1.getD (fz b.1) 0) x.2 b.2) else x
def less (p : Int) (B : List PrT) (x : PrT) : PrT := B.foldl (stp p) x
/-- Rows alone. -/
def st1 (p : Int) (b v : List Int) : List Int := if v.getD (fz b) 0 ≠ 0 then tk p (v.getD (fz b) 0) v b else v
def red (p : Int) : List PrT → List Int → List Int
  | [], v => v
  | b :: B, v => red p B (st1 p b.1 v)
/-- The sum of the values of a function, each times an element. -/
def wS (f : Nat → Int) : Nat → List Int → Int
  | _, [] => 0
  | c, a :: t => f c * a + wS f (c + 1) t
end Go.Proofs.Ytijmkfnmdhpakaa.Pl
/- Contracts: a row times an element, a row taken off another one, powers and inverses. Each holds under its own conditions. -/
set_option linter.unusedVariables false
set_option linter.unusedSimpArgs false
set_option maxRecDepth 20000
namespace Go.Proofs.Ytijmkfnmdhpakaa.Am
open Go Go.RowKit Go.Proofs Go.Proofs.Ytijmkfnmdhpakaa.Pl
/-- The cells of a list that is written from left to right: the first i of them are done. -/
structure Wr (xs ys : List Int) (n i : Nat) (cs : List Value) : Prop where
  len : cs.length = n
  done : ∀ (j : Nat) y, j < i → ys[j]? = some y → cs[j]? = some (.int .i64 y)
  rest : ∀ (j : Nat) x, i ≤ j → xs[j]? = some x → cs[j]? = some (.int .i64 x)
theorem Wr.next {xs ys : List Int} {n i : Nat} {cs : List Value} {v : Value} {y : Int} (h : Wr xs ys n i cs) (hi : i < n) (hy : ys[i]? = some y) (hv : v = .int .i64 y) : Wr xs ys n (i + 1) (cs.set (0 + i * 1) v) := by
  have hl := h.len
  rw [Nat.zero_add, Nat.mul_one]
  refine ⟨by simp [hl], fun j z hj hz => ?_, fun j x hj hx => ?_⟩
  · by_cases e : i = j
    · subst e
      rw [hy] at hz
      cases hz
      rw [List.getElem?_set_self (by omega), hv]
    · rw [List.getElem?_set_ne e]
      exact h.done j z (by omega) hz
  · rw [List.getElem?_set_ne (by omega)]
    exact h.rest j x (by omega) hx
theorem mul_in {x y : Int} (hx : 0 ≤ x ∧ x ≤ 31) (hy : 0 ≤ y ∧ y ≤ 31) : 0 ≤ x * y ∧ x * y ≤ 961 :=
  ⟨Int.mul_nonneg hx.1 hy.1, Int.le_trans (Int.mul_le_mul_of_nonneg_right hx.2 hy.1) (by omega)⟩
section
variable {S : Ids} {H0 : AH}
theorem l03Power (p a z : Int) (hp : 2 ≤ p ∧ p ≤ 31) (ha : 0 ≤ a ∧ a < p) (hz : 0 ≤ z ∧ z ≤ 1000) : Spec Try.prog S H0 268 [.int .i64 p, .int .i64 a, .int .i64 z] (fun v => v = .int .i64 (pw p a z.toNat)) := by
  refine Spec.of1 Try.func268 rfl (by kernel_rfl) rfl (fun H _ => ?_)
  obtain ⟨q, rfl⟩ : ∃ q : Nat, z = q := ⟨z.toNat, by omega⟩
  refine KW.lp rfl rfl (fun i : Nat => [(0, .int .i64 p), (1, .int .i64 a), (2, .int .i64 ((q : Int) - i)), (7, .int .i64 (pw p a i))]) (fun i => i ≤ q) (fun i => q - i) (0) (Nat.zero_le _) ⟨rfl, rfl, congrArg (Value.int .i64) (by simp), rfl, trivial⟩ (fun i hi bE n => ?_)
  refine KW.cnd rfl rfl (fun h => ?_) (fun h => ?_)
  · have h : (0 : Int) < (q : Int) - i := h
    have hw := pw_ok (a := a) hp.1 i
    have hm := mul_in (x := pw p a i) (y := a) (by omega) (by omega)
    refine KW.rem rfl rfl rfl rfl rfl rfl (by rw [wr (by omega) (by omega)]; exact hm.1) (by omega) ?_
    refine KW.nxt rfl rfl (fun H' g => ⟨i + 1, by omega, by first | omega | (simp only; omega), ⟨rfl, rfl, vI (by omega) (by omega) (by omega), congrArg (fun z => Value.int .i64 (z % p)) (wr (by omega) (by omega)), trivial⟩, g⟩)
  · obtain rfl : i = q := by have h : ¬ (0 : Int) < (q : Int) - i := h; omega
    exact KW.ret rfl rfl rfl rfl (rfl)
end
end Go.Proofs.Ytijmkfnmdhpakaa.Am
/- Slices of elements of several cells: literals, appends (also in place), cuts, clearing. For every program. No condition beyond each theorem's own. -/
set_option linter.unusedSimpArgs false
set_option linter.unusedVariables false
namespace Go.Proofs.Ytijmkfnmdhpakaa.Am
open Go Go.RowKit
theorem fold_put (cs : List Value) : ∀ (pre rest : List Value), cs.length ≤ rest.length → List.foldl (fun (a : Array Value) (p : Value × Nat) => a.setIfInBounds (0 + p.2) p.1) (pre ++ rest).toArray (cs.zipIdx pre.length) = (pre ++ cs ++ rest.drop cs.length).toArray := by
  induction cs with
  | nil => intro pre rest _; simp
  | cons c cs ih =>
    intro pre rest h
    match rest, h with
    | r :: rest, h =>
      rw [List.zipIdx_cons, List.foldl_cons]
      have e : (pre ++ r :: rest).toArray.setIfInBounds (0 + pre.length) c = ((pre ++ [c]) ++ rest).toArray := by
        rw [Nat.zero_add]
        simp
      simp only at e ⊢
      rw [e]
      have := ih (pre ++ [c]) rest (by simpa using h)
      rw [List.length_append, List.length_singleton] at this
      rw [this]
      simp
theorem fill_one {z : Array Value} {cs : List Value} {s : Nat} (hz : z.size = s) (hs : cs.length = s) : Instr.fill (fun j => some (j * s, s)) z [(0, .agg cs.toArray)] = some cs.toArray := by
  have hc : (Value.agg cs.toArray).cells = cs.toArray := rfl
  simp only [Instr.fill, hc]
  rw [if_neg (by simp; omega)]
  congr 1
  have h := fold_put cs [] z.toList (by simp; omega)
  simp only [List.nil_append, List.length_nil] at h
  have e : z.toList.drop cs.length = [] := List.drop_eq_nil_of_le (by simp; omega)
  rw [e, List.append_nil] at h
  refine Eq.trans ?_ h
  simp [Nat.zero_mul]
section
variable {P : Program} {S : Ids} {H0 : AH} {Q : PostC} {k k1 : List It} {e e1 : Env} {T T1 : List Var} {n n1 : Nat} {l1 r1 : List Nat} {d1 : Tmp}
/-- The empty literal. -/
theorem KW.litS0 {o : Oper} {dr : Bool} {t el : TypeId} {m : Nat} {parts : Array (Nat × Operand)} {inf : TypeInfo} {z : Value} (h : Go1 P k e T n (.op o dr) k1 e1 T1 n1 l1 r1) (hlr : l1 = r1) (ho : o.op = .buildSlice t m parts) (hd : o.dst = some d1)
    (hu : P.underlying t = some (.slice el)) (hi : P.info? el = some inf) (hz : inf.zero = some z) (hzo : zeroOkL P el = true) (hp : (parts.toList.map fun p => (p.1, ev e1 p.2)) = []) (hm : m = 0)
    (hk : KW P S H0 Q (n1 + 1) (T1 ++ [(n1, ⟨el, true, []⟩)]) k1 (put1 e1 d1 (.slice (some ⟨n1, 0, some inf.size⟩) 0 0))) : KW P S H0 Q n T k e := by
  refine KW.go h hlr (KEvt.heap (c := ⟨_, _, _, _, _, _⟩) _ _ _ (by rw [ho]; exact .inl rfl) (fun H g => ⟨none, _, ?_, g.push _⟩) (by rw [hd, put1_eq]; exact hk))
  rw [ho]
  subst hm
  have h1 : (zarr z 0).size = 0 := by simp [zarr]
  simp only [hop, hp, alit, hu, hi, hz, Nat.zero_mul, Instr.fill, g.n_]
  rw [if_pos ⟨zeroOkL_ok hzo, by omega⟩]
  simp only [h1, if_true]
  have h2 : (zarr z 0).toList = [] := List.eq_nil_of_length_eq_zero (by simpa using h1)
  rw [h2]
/-- A literal of one element. -/
theorem KW.litS1 {o : Oper} {dr : Bool} {t el : TypeId} {m : Nat} {parts : Array (Nat × Operand)} {inf : TypeInfo} {z : Value} {cs : List Value} (h : Go1 P k e T n (.op o dr) k1 e1 T1 n1 l1 r1) (hlr : l1 = r1) (ho : o.op = .buildSlice t m parts) (hd : o.dst = some d1)
    (hu : P.underlying t = some (.slice el)) (hi : P.info? el = some inf) (hz : inf.zero = some z) (hzo : zeroOkL P el = true) (hp : (parts.toList.map fun p => (p.1, ev e1 p.2)) = [(0, .agg cs.toArray)]) (hm : m = 1) (hs : inf.size = cs.length) (hle : Nat.ble cs.length 16777216 = true)
    (hk : KW P S H0 Q (n1 + 1) (T1 ++ [(n1, ⟨el, true, cs⟩)]) k1 (put1 e1 d1 (.slice (some ⟨n1, 0, some inf.size⟩) 1 1))) : KW P S H0 Q n T k e := by
  refine KW.go h hlr (KEvt.heap (c := ⟨_, _, _, _, _, _⟩) _ _ _ (by rw [ho]; exact .inl rfl) (fun H g => ⟨none, _, ?_, g.push _⟩) (by rw [hd, put1_eq]; exact hk))
  rw [ho]
  subst hm
  have hle := Nat.le_of_ble_eq_true hle
  have h1 : (zarr z (1 * inf.size)).size = inf.size := by simp [zarr]
  simp only [hop, hp, alit, hu, hi, hz, fill_one h1 hs.symm, g.n_]
  rw [if_pos ⟨zeroOkL_ok hzo, by omega⟩]
  simp [hs]
/-- append to what is one's own; what stood behind the slice is left. -/
theorem KW.appTS {o : Oper} {dr : Bool} {t el : TypeId} {x y : Operand} {inf : TypeInfo} {m len c id off : Nat} {xs ys : List Value} (j : Nat) (h : Go1 P k e T n (.op o dr) k1 e1 T1 n1 l1 r1) (hlr : l1 = r1) (ho : o.op = .call { callee := .builtin .append, args := #[x, y], argTypes := #[t, t] }) (hd : o.dst = some d1) (hu : P.underlying t = some (.slice el)) (hi : P.info? el = some inf) (hx : ev e1 x = .slice (some ⟨id, off, some inf.size⟩) len c) (hT : T1[j]? = some (id, ⟨el, true, xs⟩))
    (hs : 0 < inf.size) (hzo : zeroOkL P el = true) (hy : ∀ H, Good S H0 T1 n1 H → acells H (ev e1 y) inf.size = some (m, ys)) (hlen : off + len * inf.size ≤ xs.length) (hone : ys.all Value.oneCell' = true) (hm : m ≠ 0) (hb : (len + m) * inf.bytes ≤ 140737488355328) (hml : len + m ≤ 9223372036854775807)
    (hk : KW P S H0 Q (n1 + 1) (T1.set j (n1, ⟨el, true, (xs.drop off).take (len * inf.size) ++ ys⟩)) k1 (put1 e1 d1 (.slice (some ⟨n1, 0, some inf.size⟩) (len + m) (len + m)))) : KW P S H0 Q n T k e := by
  refine KW.go h hlr (KEvt.heap (c := ⟨_, _, _, _, _, _⟩) _ _ _ (by rw [ho]; exact .inr rfl) (fun H g => ⟨none, _, ?_, g.move hT _⟩) (by rw [hd, put1_eq]; exact hk))
  rw [ho]
  have h1 := hy H g
  have h2 := (g.blk hT).1
  simp only [hop, aapp, aappend, hu, hi, hx, h1, h2]
  rw [if_pos trivial, if_pos ⟨zeroOkL_ok hzo, hs, hone⟩, if_neg hm, if_pos ⟨trivial, trivial, trivial, hlen, hml, hb⟩]
  simp only [AH.kill, g.n_]
theorem acells_seg {H : AH} {id off m c es : Nat} {b : Blk} (hb : H.m id = some b) (hl : off + m * es ≤ b.cells.length) : acells H (.slice (some ⟨id, off, some es⟩) m c) es = some (m, (b.cells.drop off).take (m * es)) := by
  cases m with
  | zero => simp [acells]
  | succ m =>
    simp only [acells, if_true, hb]
    rw [if_pos hl]
end
end Go.Proofs.Ytijmkfnmdhpakaa.Am
/- Contracts: ValidDeal, as the law asks them. Each holds under its own conditions. -/
set_option linter.unusedVariables false
set_option maxRecDepth 20000
namespace Go.Proofs.Ytijmkfnmdhpakaa.Am
open Go Go.RowKit Go.Proofs
/-- A deal that is valid. -/
def DealOk (x : T_Deal) : Prop := OkDeal x.1.1 x.1.2.1 x.1.2.2.1 x.1.2.2.2.1 x.1.2.2.2.2 x.2.1 x.2.2.1 x.2.2.2
section
variable {S : Ids} {H0 : AH}
theorem split2_Deal {x : T_Deal} {cs : List Value} (h : K_Deal.R S H0 x cs) : ∃ a1 c1 a2 c2 a3 c3 a4 c4, cs = [.int .i64 x.1.1, .slice a1 x.1.2.1.length c1, .int .i64 x.1.2.2.1, .int .i64 x.1.2.2.2.1, .slice a2 x.1.2.2.2.2.length c2, .int .i64 x.2.1, .slice a3 x.2.2.1.length c3, .slice a4 x.2.2.2.length c4] ∧
    KI.Sl S H0 (.slice a1 x.1.2.1.length c1) x.1.2.1 ∧ KI.sl.Sl S H0 (.slice a2 x.1.2.2.2.2.length c2) x.1.2.2.2.2 ∧ KI.sl.Sl S H0 (.slice a3 x.2.2.1.length c3) x.2.2.1 ∧ KI.sl.sl.Sl S H0 (.slice a4 x.2.2.2.length c4) x.2.2.2 := by
  obtain ⟨a1, c1, a2, c2, a3, c3, a4, c4, rfl, h0, h2, h3⟩ := split_Deal h
  obtain ⟨b1, d1, b2, d2, e0, k1, k2⟩ := split_Scheme h0
  cases e0
  obtain ⟨b3, d3, e1, k3⟩ := split_Matrix k2
  cases e1
  exact ⟨a1, c1, a2, c2, a3, c3, a4, c4, rfl, sl1 k1, sl1 k3, sl1 h2, sl1 h3⟩
theorem impl_ValidDeal {x : T_Deal} {cs : List Value} (hB : B_Deal x) (h : K_Deal.R S H0 x cs) : Spec Try.prog S H0 173 [.agg cs.toArray] (fun v => v = .bool (tv (DealOk x))) := by
  obtain ⟨a1, c1, a2, c2, a3, c3, a4, c4, rfl, h1, h2, h3, h4⟩ := split2_Deal h
  exact validDeal _ _ _ _ hB.1.2.2.1 hB.1.2.1 hB.1.2.2.2.2 hB.2.2.1 hB.2.2.2 h1 h2 h3 h4
end
end Go.Proofs.Ytijmkfnmdhpakaa.Am
/- Contracts: families and their validity. Each holds under its own conditions. -/
set_option linter.unusedVariables false
set_option maxRecDepth 20000
namespace Go.Proofs.Ytijmkfnmdhpakaa.Am
open Go Go.RowKit Go.Proofs
section
variable {S : Ids} {H0 : AH}
end
end Go.Proofs.Ytijmkfnmdhpakaa.Am
/- Contracts: valid families. Each holds under its own conditions. -/
set_option linter.unusedVariables false
set_option maxRecDepth 20000
namespace Go.Proofs.Ytijmkfnmdhpakaa.Am
open Go Go.RowKit Go.Proofs
section
variable {S : Ids} {H0 : AH}
theorem Sml.at_ {gs : List (List Int)} (h : Sml gs) {i : Nat} {g : List Int} (hg : gs[i]? = some g) : g.length ≤ 1048576 := h.each g (List.mem_of_getElem? hg)
end
end Go.Proofs.Ytijmkfnmdhpakaa.Am
/- Contracts: the program's check of families, and the codes. Each holds under its own conditions. -/
set_option linter.unusedVariables false
set_option maxRecDepth 20000
namespace Go.Proofs.Ytijmkfnmdhpakaa.Am
open Go Go.RowKit Go.Proofs
section
variable {S : Ids} {H0 : AH}
/-- The code of a family. -/
noncomputable def codeF (h : Int) (gs : List (List Int)) : Int := if tv (FamOk h gs) = true then (if h > 5 then 3 else if gs.length = 0 then 4 else if (gs.getD 0 []).length = 0 then 4 else 0) else 1
noncomputable def fitC (m u : Int) (l : List Int) (h : Int) (gs : List (List Int)) : Int := if tv (OkR m u l) = true then (if codeF h gs = 0 then (if m = h then 0 else 2) else codeF h gs) else 1
end
end Go.Proofs.Ytijmkfnmdhpakaa.Am
/- Contracts: which sets open, and the program's search for a misfit. Each holds under its own conditions. -/
set_option linter.unusedVariables false
set_option maxRecDepth 20000
namespace Go.Proofs.Ytijmkfnmdhpakaa.Am
open Go Go.RowKit Go.Proofs
theorem Fz.trans {S : Ids} {H0 H H' : AH} (h : Fz S H0 H) (k : Fz (Low H.n) H H') : Fz S H0 H' := fun id hid => by
  obtain ⟨h1, h2⟩ := h id hid
  obtain ⟨h3, h4⟩ := k id h1
  exact ⟨h3, h4.trans h2⟩
section
variable {S : Ids} {H0 : AH}
/-- A function value that tells something of each element. -/
def Tells {α : Type} (P : Program) (S : Ids) (H0 : AH) (d : Kn α) (xs : List (List α)) (g : FuncId) (cap : List Value) (p : List α → Bool) : Prop :=
  ∀ H', Fz S H0 H' → ∀ x a c, x ∈ xs → d.Sl (Low H'.n) H' (.slice a x.length c) x → Spec P (Low H'.n) H' g (.slice a x.length c :: cap) (fun v => v = .bool (p x))
theorem Tells.to {α : Type} {P : Program} {d : Kn α} {xs : List (List α)} {g : FuncId} {cap : List Value} {p : List α → Bool} {H : AH} (h : Tells P S H0 d xs g cap p) (hf : Fz S H0 H) : Tells P (Low H.n) H d xs g cap p := fun H' hf' => h H' (hf.trans hf')
theorem indexFunc2 {a c} {xs : List (List Int)} {g : FuncId} {id k : Nat} {sp : Option Nat} {p : List Int → Bool} (hl : xs.length ≤ 1048576) (hs : (Kn.int .i64).sl.Sl S H0 (.slice a xs.length c) xs) (hp : Tells Try.prog S H0 (Kn.int .i64) xs g [.pointer (some ⟨id, k, none⟩)] p) :
    Spec Try.prog S H0 197 [.slice a xs.length c, .func (.func g) #[] #[.pointer (some ⟨id, k, sp⟩)]] (fun v => ∃ r : Int, v = .int .i64 r ∧ (r ≥ 0 ↔ ∃ x ∈ xs, p x = true)) := by
  refine Spec.of Try.func197 rfl (by kernel_rfl) rfl (fun H hfin hfz => ?_)
  have hs := hs.to hfz
  have hp := hp.to hfz
  refine KW.lp rfl rfl (fun i : Nat => [(0, .slice a xs.length c), (1, .func (.func g) #[] #[.pointer (some ⟨id, k, sp⟩)]), (7, .int .i64 xs.length), (8, .int .i64 i)]) (fun i => i ≤ xs.length ∧ ∀ j, j < i → ∀ x, xs[j]? = some x → p x = false) (fun i => xs.length - i) 0 ⟨by omega, fun j h => absurd h (by omega)⟩ ⟨rfl, rfl, rfl, rfl, trivial⟩ (fun i hi b n => ?_)
  obtain ⟨hi, hj⟩ := hi
  refine KW.cnd rfl rfl (fun h => ?_) (fun h => KW.ret rfl rfl rfl rfl ⟨-1, rfl, ?_⟩)
  · refine KW.getL hs rfl rfl rfl rfl rfl rfl rfl rfl rfl rfl rfl rfl rfl rfl rfl rfl (by omega) h (fun x ax cx hx hsx => ?_)
    have hx : xs[i]? = some x := hx
    have hmem := List.mem_of_getElem? hx
    refine KW.callE rfl rfl rfl rfl rfl (hp H (fun id h => ⟨h, rfl⟩) x ax cx hmem hsx) (fun _ _ => ?_)
    refine KW.cndB rfl rfl (fun h2 => KW.ret rfl rfl rfl rfl ⟨(i : Int), rfl, ?_⟩) (fun h2 => ?_)
    · exact ⟨fun _ => ⟨x, hmem, h2⟩, fun _ => by omega⟩
    · exact KW.nxt rfl rfl (fun H g' => ⟨i + 1, ⟨by omega, upto hj (fun y hy => by rw [hx] at hy; cases hy; exact h2)⟩, by omega, ⟨rfl, rfl, rfl, congrArg (Value.int .i64) (inc64 (by omega)), trivial⟩, g'⟩)
  · refine ⟨fun h => absurd h (by decide), fun ⟨x, hx, hpx⟩ => ?_⟩
    obtain ⟨j, hjx⟩ := List.getElem?_of_mem hx
    have := hj j (by have := (List.getElem?_eq_some_iff.1 hjx).1; omega) x hjx
    rw [hpx] at this; cases this
theorem containsFunc2 {a c} {xs : List (List Int)} {g : FuncId} {id k : Nat} {sp : Option Nat} {p : List Int → Bool} (hl : xs.length ≤ 1048576) (hs : (Kn.int .i64).sl.Sl S H0 (.slice a xs.length c) xs) (hp : Tells Try.prog S H0 (Kn.int .i64) xs g [.pointer (some ⟨id, k, none⟩)] p) :
    Spec Try.prog S H0 156 [.slice a xs.length c, .func (.func g) #[] #[.pointer (some ⟨id, k, sp⟩)]] (fun v => v = .bool (tv (∃ x ∈ xs, p x = true))) := by
  refine Spec.of Try.func156 rfl (by kernel_rfl) rfl (fun H hfin hfz => ?_)
  refine KW.call rfl rfl rfl rfl rfl (indexFunc2 hl (hs.to hfz) (hp.to hfz)) (fun v n' _ hv => ?_)
  obtain ⟨r, rfl, hr⟩ := hv
  refine KW.ret rfl rfl rfl rfl ?_
  show Value.bool (decide (r ≥ 0)) = _
  rw [tv_dec, tv_congr hr]
/-- The set c has all holders of a group. -/
def Opens (gs : List (List Int)) (c : Nat) : Prop := ∃ g ∈ gs, c &&& bitsOf g = bitsOf g
/-- All groups are of holders below m. -/
def Below' (m : Nat) (gs : List (List Int)) : Prop := ∀ g ∈ gs, ∀ x ∈ g, 0 ≤ x ∧ x < (m : Int)
theorem FamOk.below {m : Int} {gs : List (List Int)} (h : FamOk m gs) : Below' m.toNat gs := fun g hg x hx => by
  obtain ⟨i, hi⟩ := List.getElem?_of_mem hg
  have h1 := (h.grp i (List.getElem?_eq_some_iff.1 hi).1).1
  rw [getDL_of hi] at h1
  exact rises_bound h.h1 h1 x hx
theorem opens1 {m : Nat} (hm : m ≤ 7) {q : Nat} (hq : q < 4611686018427387904) {g : List Int} (hg : ∀ x ∈ g, 0 ≤ x ∧ x < (m : Int)) (hl : g.length ≤ 1048576) {a c} {id : Nat} {ty : TypeId} {rw : Bool} (hS : S id) (hm' : H0.m id = some ⟨ty, rw, [.int .u64 q]⟩) (hs : (Kn.int .i64).Sl S H0 (.slice a g.length c) g) :
    Spec Try.prog S H0 157 [.slice a g.length c, .pointer (some ⟨id, 0, none⟩)] (fun v => v = .bool (tv (q &&& bitsOf g = bitsOf g))) := by
  refine Spec.of Try.func157 rfl (by kernel_rfl) rfl (fun H hfin hfz => ?_)
  have hm' := ((hfz id hS).2).trans hm'
  have hS : Low H.n id := (hfz id hS).1
  have hb : bitsOf g < 2 ^ m := bitsOf_lt (fun x h => by have := hg x h; omega)
  have hp := small_pow (m := m) (by omega)
  refine KW.ldP hS hm' rfl rfl rfl rfl rfl rfl ?_
  refine KW.callE rfl rfl rfl rfl rfl (crowdOf (m := m) (by omega) (by omega) hg (hs.to hfz)) (fun _ _ => ?_)
  refine KW.callE rfl rfl rfl rfl rfl (contains hq (by omega)) (fun _ _ => ?_)
  exact KW.ret rfl rfl rfl rfl rfl
theorem opens {m : Nat} (hm : m ≤ 7) (h : Int) {q : Nat} (hq : q < 4611686018427387904) {gs : List (List Int)} (hsm : Sml gs) (hb : Below' m gs) {a c} (hs : (Kn.int .i64).sl.Sl S H0 (.slice a gs.length c) gs) :
    Spec Try.prog S H0 86 [familyV h (.slice a gs.length c), .int .u64 q] (fun v => v = .bool (tv (Opens gs q))) := by
  refine Spec.of Try.func86 rfl (by kernel_rfl) rfl (fun H hfin hfz => ?_)
  refine KW.callV rfl rfl rfl rfl rfl (fun H1 g => containsFunc2 (p := fun x => tv (q &&& bitsOf x = bitsOf x)) hsm.len ((hs.to hfz).on (fun id hid => (g.froz id hid).2) (fun id hid => by have := (g.froz id hid).1; have := g.n_; show id < H1.n; omega)) (fun H' hf' x ax cx hx hsx => ?_)) (fun _ _ => ?_)
  · have hb1 := g.blk (j := 1) rfl
    obtain ⟨h1, h2⟩ := hf' _ hb1.2
    exact opens1 hm hq (hb x hx) (hsm.each x hx) h1 (h2.trans hb1.1) hsx
  · refine KW.ret rfl rfl rfl rfl ?_
    show Value.bool (tv _) = _
    congr 1
    exact tv_congr ⟨fun ⟨x, h1, h2⟩ => ⟨x, h1, tv_iff.1 h2⟩, fun ⟨x, h1, h2⟩ => ⟨x, h1, tv_iff.2 h2⟩⟩
end
end Go.Proofs.Ytijmkfnmdhpakaa.Am
/- Contracts: the program's search for a misfit. Each holds under its own conditions. -/
set_option linter.unusedVariables false
set_option maxRecDepth 20000
namespace Go.Proofs.Ytijmkfnmdhpakaa.Am
open Go Go.RowKit Go.Proofs
def Grow (l : List Int) (u : Int) (gs : List (List Int)) (a b : Nat) : Prop := a &&& b = a ∧ ¬ Opens gs a ∧ Opens gs b ∧ l.getD b 0 < l.getD a 0 + u
def Meet (l : List Int) (u : Int) (gs : List (List Int)) (a b : Nat) : Prop := Opens gs a ∧ Opens gs b ∧ ¬ Opens gs (a &&& b) ∧ l.getD a 0 + l.getD b 0 < l.getD (a ||| b) 0 + l.getD (a &&& b) 0 + u
def Mis (l : List Int) (u : Int) (gs : List (List Int)) (a b : Nat) : Prop := Grow l u gs a b ∨ Meet l u gs a b
/-- The first misfit, or that there is none. -/
def Fst (l : List Int) (u : Int) (gs : List (List Int)) (a b : Nat) (f : Bool) : Prop :=
  (f = true ∧ a < l.length ∧ b < l.length ∧ Mis l u gs a b ∧ (∀ a', a' < a → ∀ b', b' < l.length → ¬ Mis l u gs a' b') ∧ ∀ b', b' < b → ¬ Mis l u gs a b') ∨
  (f = false ∧ a = 0 ∧ b = 0 ∧ ∀ a', a' < l.length → ∀ b', b' < l.length → ¬ Mis l u gs a' b')
theorem Fst.one {l : List Int} {u : Int} {gs : List (List Int)} {a b a' b' : Nat} {f f' : Bool} (h : Fst l u gs a b f) (k : Fst l u gs a' b' f') : a = a' ∧ b = b' ∧ f = f' := by
  rcases h with ⟨rfl, h1, h2, h3, h4, h5⟩ | ⟨rfl, rfl, rfl, h4⟩ <;> rcases k with ⟨rfl, k1, k2, k3, k4, k5⟩ | ⟨rfl, rfl, rfl, k4⟩
  · have ha : a = a' := by
      rcases Nat.lt_trichotomy a a' with h | h | h
      · exact absurd h3 (k4 a h b h2)
      · exact h
      · exact absurd k3 (h4 a' h b' k2)
    subst ha
    refine ⟨rfl, ?_, rfl⟩
    rcases Nat.lt_trichotomy b b' with h | h | h
    · exact absurd h3 (k5 b h)
    · exact h
    · exact absurd k3 (h5 b' h)
  · exact absurd h3 (k4 a h1 b h2)
  · exact absurd k3 (h4 a' k1 b' k2)
  · exact ⟨rfl, rfl, rfl⟩
section
variable {S : Ids} {H0 : AH}
end
end Go.Proofs.Ytijmkfnmdhpakaa.Am
/- Contracts: the reference's table of what opens, and its search for a misfit. Each holds under its own conditions. -/
set_option linter.unusedVariables false
set_option maxRecDepth 20000
namespace Go.Proofs.Ytijmkfnmdhpakaa.Am
open Go Go.RowKit Go.Proofs
section
variable {S : Ids} {H0 : AH}
end
end Go.Proofs.Ytijmkfnmdhpakaa.Am
/- Contracts: FitsFamily, of the program and of the reference. Each holds under its own conditions. -/
set_option linter.unusedVariables false
set_option maxRecDepth 20000
namespace Go.Proofs.Ytijmkfnmdhpakaa.Am
open Go Go.RowKit Go.Proofs
theorem Fst.none_ {l : List Int} {u : Int} {gs : List (List Int)} {a b : Nat} {f : Bool} (h : Fst l u gs a b f) : (!f) = tv (∀ a, a < l.length → ∀ b, b < l.length → ¬ Mis l u gs a b) := by
  rcases h with ⟨rfl, h1, h2, h3, _⟩ | ⟨rfl, _, _, h4⟩
  · rw [tv_false (fun hc => hc a h1 b h2 h3)]; rfl
  · rw [tv_true h4]; rfl
section
variable {S : Ids} {H0 : AH}
end
end Go.Proofs.Ytijmkfnmdhpakaa.Am
/- Contracts: sets as groups, marks on ranks and families. Each holds under its own conditions. -/
set_option linter.unusedVariables false
set_option maxRecDepth 20000
namespace Go.Proofs.Ytijmkfnmdhpakaa.Am
open Go Go.RowKit Go.Proofs
section
variable {P : Program} {S : Ids} {H0 : AH} {Q : PostC} {k k1 : List It} {e e1 : Env} {T T1 : List Var} {n n1 : Nat} {l1 r1 : List Nat} {d1 : Tmp}
theorem KW.shr {o : Oper} {dr : Bool} {t u : TypeId} {x y : Operand} {ik kk : IntKind} {j : Int} {v : Int} (h : Go1 P k e T n (.op o dr) k1 e1 T1 n1 l1 r1) (hlr : l1 = r1) (ho : o.op = .binOp .shr t x y u) (hd : o.dst = some d1) (hx : ev e1 x = .int ik v) (hy : ev e1 y = .int kk j) (hb : ik.bits = 64) (a m : Nat) (hv : v = a) (hj : j = m) (hm : m ≤ 63)
    (hk : KW P S H0 Q n1 T1 k1 (put1 e1 d1 (.int ik ((a / 2 ^ m : Nat) : Int)))) : KW P S H0 Q n T k e := by
  refine KW.pure h hlr ho hd rfl _ ?_ hk
  subst hj hv
  simp only [pop, hx, hy, abin, ashift]
  rw [if_neg (by omega), hb]
  have e1 : min (m : Int).toNat 64 = m := by omega
  rw [e1]
  congr 2
  rw [Int.fdiv_eq_ediv_of_nonneg _ (by exact Int.pow_nonneg (by decide))]
  exact_mod_cast rfl
end
/-- The holders below n that are in a set. -/
def hold (x n : Nat) : List Int := ((List.range n).filter fun i => x.testBit i).map fun (i : Nat) => (i : Int)
theorem hold_next (x n : Nat) : hold x (n + 1) = if x.testBit n = true then hold x n ++ [(n : Int)] else hold x n := by
  unfold hold
  rw [List.range_succ, List.filter_append, List.map_append]
  by_cases h : x.testBit n = true
  · simp [h]
  · have h : x.testBit n = false := by simpa using h
    simp [h]
theorem hold_len (x n : Nat) : (hold x n).length ≤ n := by
  unfold hold
  rw [List.length_map]
  exact Nat.le_trans (List.length_filter_le _ _) (by simp)
theorem bit_is {x h : Nat} : (((x / 2 ^ h) &&& 1 : Nat) == 1) = x.testBit h := by
  rw [Nat.testBit_eq_decide_div_mod_eq, Nat.and_one_is_mod]
  rfl
section
variable {S : Ids} {H0 : AH}
theorem has {x h : Nat} (hx : x < 4611686018427387904) (hh : h ≤ 63) : Spec Try.prog S H0 159 [.int .u64 x, .int .i64 h] (fun v => v = .bool (x.testBit h)) := by
  refine Spec.of Try.func159 rfl (by kernel_rfl) rfl (fun H hfin hfz => ?_)
  refine KW.shr rfl rfl rfl rfl rfl rfl rfl x h rfl rfl hh ?_
  refine KW.ret rfl rfl rfl rfl ?_
  show Value.bool (IntKind.u64.wrap ((BitVec.ofInt IntKind.u64.bits ((x / 2 ^ h : Nat) : Int) &&& BitVec.ofInt IntKind.u64.bits ((1 : Nat) : Int)).toNat : Int) == ((1 : Nat) : Int)) = _
  rw [and_u64 (Nat.lt_of_le_of_lt (Nat.div_le_self _ _) hx) (by decide), ← bit_is]
  congr 1
  generalize x / 2 ^ h &&& 1 = q
  by_cases e : q = 1
  · subst e; rfl
  · rw [show (q == 1) = false from by simpa using e]
    simp only [beq_eq_false_iff_ne, ne_eq]
    omega
theorem group {x : Nat} (hx : x < 4611686018427387904) : SpecM Try.prog S H0 88 [.int .u64 x] (fun n v H1 => ∃ a c, v = .slice a (hold x 7).length c ∧ KI.Ml (New n H1.n) H1 (.slice a (hold x 7).length c) (hold x 7)) := by
  refine SpecM.of Try.func88 rfl (by kernel_rfl) rfl (fun H hfin hfz => ?_)
  refine KW.lit rfl rfl rfl rfl rfl rfl rfl rfl rfl rfl [] rfl rfl (fun v hv => by simp at hv) rfl ?_
  refine KW.lpM rfl rfl (fun s : Nat × Nat => [(0, .int .u64 x), (3, .slice (some ⟨s.2, 0, some 1⟩) (hold x s.1).length (hold x s.1).length), (4, .int .i64 s.1)]) (fun _ => Low H.n) (fun _ => H) (fun s => [(s.2, ⟨_, true, (hold x s.1).map (Value.int .i64)⟩)]) (fun s => s.1 ≤ 7) (fun s => 7 - s.1) (0, H.n) (by simp) ⟨rfl, rfl, rfl, trivial⟩ rfl rfl rfl (fun s hi b n => ?_)
  obtain ⟨q, o⟩ := s
  simp only at hi
  refine KW.fact (p := ¬ o < H.n) (fun _ g => (g.vars 0 _ rfl).2.2) (fun ho => ?_)
  have hq := hold_len x q
  refine KW.cnd rfl rfl (fun h => ?_) (fun h => ?_)
  · refine KW.callE rfl rfl rfl rfl rfl (has hx (by omega)) (fun _ _ => ?_)
    refine KW.cndB rfl rfl (fun h2 => ?_) (fun h2 => ?_)
    · refine KW.lit rfl rfl rfl rfl rfl rfl rfl rfl rfl rfl [.int .i64 q] rfl rfl (fun v hv => by simp at hv; subst hv; rfl) rfl ?_
      refine KW.appT (len := (hold x q).length) (ys := [.int .i64 q]) (m := 1) 0 rfl rfl rfl rfl rfl rfl rfl rfl rfl rfl (fun H g => acells_T (g.blk (j := 1) rfl).1 rfl rfl) (by simp) (fun v hv => by simp at hv; subst hv; rfl) (by decide) (by show ((hold x q).length + 1) * 8 ≤ _; omega) (by omega) ?_
      have e := hold_next x q
      rw [if_pos h2] at e
      refine KW.nxt rfl rfl (fun H g' => ⟨(q + 1, _), by simp only; omega, by simp only; omega, ⟨rfl, by simp only [e, List.length_append, List.length_singleton]; rfl, congrArg (Value.int .i64) (inc64 (by omega)), trivial⟩, (g'.take 1).eqT ?_⟩)
      simp only [e, List.map_append]
      rfl
    · have e := hold_next x q
      rw [if_neg (by rw [h2]; decide)] at e
      exact KW.nxt rfl rfl (fun H g' => ⟨(q + 1, o), by simp only; omega, by simp only; omega, ⟨rfl, by simp only [e]; rfl, congrArg (Value.int .i64) (inc64 (by omega)), trivial⟩, g'.eqT (by simp only [e])⟩)
  · obtain rfl : q = 7 := by omega
    refine KW.retM rfl rfl rfl rfl (fun id hid => ⟨hid, rfl⟩) (fun H1 g => ?_)
    have hb := g.blk (j := 0) rfl
    exact ⟨_, _, rfl, int_ml ⟨by omega, hb.2⟩ hb.1 rfl rfl (Nat.le_refl _)⟩
end
end Go.Proofs.Ytijmkfnmdhpakaa.Am
/- Contracts: rows held, products, shares, values and tags, of the program and of the reference. Each holds under its own conditions. -/
set_option linter.unusedVariables false
set_option maxRecDepth 20000
namespace Go.Proofs.Ytijmkfnmdhpakaa.Am
open Go Go.RowKit Go.Proofs
/-- The places below n of which q tells true. -/
def rowsP (q : Nat → Bool) (n : Nat) : List Int := ((List.range n).filter q).map fun (i : Nat) => (i : Int)
theorem rowsP_next (q : Nat → Bool) (n : Nat) : rowsP q (n + 1) = if q n = true then rowsP q n ++ [(n : Int)] else rowsP q n := by
  unfold rowsP
  rw [List.range_succ, List.filter_append, List.map_append]
  by_cases hc : q n = true
  · simp [hc]
  · have hc : q n = false := by simpa using hc
    simp [hc]
theorem rowsP_len (q : Nat → Bool) (n : Nat) : (rowsP q n).length ≤ n := by
  unfold rowsP
  rw [List.length_map]
  exact Nat.le_trans (List.length_filter_le _ _) (by simp)
theorem rowsP_mem {q : Nat → Bool} {n : Nat} {x : Int} (hx : x ∈ rowsP q n) : 0 ≤ x ∧ x < n := by
  unfold rowsP at hx
  obtain ⟨i, hi, rfl⟩ := List.mem_map.1 hx
  have := List.mem_range.1 (List.mem_filter.1 hi).1
  omega
theorem rowsP_congr {q q' : Nat → Bool} {n : Nat} (h : ∀ i, i < n → q i = q' i) : rowsP q n = rowsP q' n := by
  unfold rowsP
  congr 1
  exact List.filter_congr fun i hi => h i (List.mem_range.1 hi)
abbrev rowsOf (ow : List Int) (h : Int) : List Int := rowsP (fun i => decide (ow.getD i 0 = h)) ow.length
/-- Sums of products. -/
def dotN (a b : List Int) : Nat → Int
  | 0 => 0
  | n + 1 => dotN a b n + a.getD n 0 * b.getD n 0
def dotS (p : Int) (a b : List Int) : Int := dotN a b a.length % p
theorem elem_at {p : Int} {a : List Int} (h : Elems p a) (hp : 2 ≤ p) (i : Nat) : 0 ≤ a.getD i 0 ∧ a.getD i 0 ≤ p - 1 := by
  rcases Nat.lt_or_ge i a.length with hi | hi
  · rw [List.getD_eq_getElem?_getD, List.getElem?_eq_getElem hi]
    exact h _ (List.getElem_mem hi)
  · rw [List.getD_eq_getElem?_getD, List.getElem?_eq_none hi]
    show 0 ≤ (0 : Int) ∧ (0 : Int) ≤ p - 1
    omega
theorem mul_small {p x y : Int} (hp : p ≤ 31) (hx : 0 ≤ x ∧ x ≤ p - 1) (hy : 0 ≤ y ∧ y ≤ p - 1) : 0 ≤ x * y ∧ x * y ≤ 900 := by
  refine ⟨Int.mul_nonneg hx.1 hy.1, ?_⟩
  have h1 : x * y ≤ 30 * 30 := Int.mul_le_mul (by omega) (by omega) hy.1 (by omega)
  omega
theorem dotN_in {p : Int} {a b : List Int} (hp : PrimeP p) (ha : Elems p a) (hb : Elems p b) : ∀ n, 0 ≤ dotN a b n ∧ dotN a b n ≤ 900 * n
  | 0 => by simp [dotN]
  | n + 1 => by
    have h1 := dotN_in hp ha hb n
    have h2 := mul_small hp.2.1 (elem_at ha hp.1 n) (elem_at hb hp.1 n)
    simp only [dotN]
    omega
def shares (p : Int) (rows : List (List Int)) (all : List Int) : List Int := rows.map fun r => dotS p r all
theorem map_take_succ {α β : Type} (f : α → β) {xs : List α} {i : Nat} {x : α} (h : xs[i]? = some x) : (xs.take (i + 1)).map f = (xs.take i).map f ++ [f x] := by
  obtain ⟨hi, rfl⟩ := List.getElem?_eq_some_iff.1 h
  rw [List.take_succ_eq_append_getElem hi, List.map_append]; rfl
section
variable {S : Ids} {H0 : AH}
theorem dot (p : Int) (hp : PrimeP p) {a1 c1 a2 c2} {a b : List Int} (hl : a.length = b.length) (h12 : a.length ≤ 1048576) (ea : Elems p a) (eb : Elems p b) (ha : KI.Sl S H0 (.slice a1 a.length c1) a) (hb : KI.Sl S H0 (.slice a2 b.length c2) b) :
    Spec Try.prog S H0 124 [.int .i64 p, .slice a1 a.length c1, .slice a2 b.length c2] (fun v => v = .int .i64 (dotS p a b)) := by
  refine Spec.of1 Try.func124 rfl (by kernel_rfl) rfl (fun H _ => ?_)
  refine KW.lp rfl rfl (fun i : Nat => [(0, .int .i64 p), (2, .slice a2 b.length c2), (7, .int .i64 (dotN a b i)), (10, .slice a1 a.length c1), (11, .int .i64 a.length), (12, .int .i64 i)]) (fun i => i ≤ a.length) (fun i => a.length - i) (0) (by omega) ⟨rfl, rfl, rfl, rfl, rfl, rfl, trivial⟩ (fun i hi bE n => ?_)
  refine KW.cnd rfl rfl (fun h => ?_) (fun h => ?_)
  · refine KW.getI ha.up rfl rfl rfl rfl rfl rfl rfl rfl rfl rfl rfl rfl rfl rfl rfl rfl (by omega) (h) (fun x hx => ?_)
    refine KW.getI hb.up rfl rfl rfl rfl rfl rfl rfl rfl rfl rfl rfl rfl rfl rfl rfl rfl (by omega) (by omega) (fun y hy => ?_)
    have hx : a.getD i 0 = x := getD_of hx
    have hy : b.getD i 0 = y := getD_of hy
    have h1 := dotN_in hp ea eb i
    have h2 := mul_small hp.2.1 (elem_at ea hp.1 i) (elem_at eb hp.1 i)
    have e : dotN a b (i + 1) = dotN a b i + a.getD i 0 * b.getD i 0 := rfl
    rw [hx, hy] at h2 e
    have e2 : Value.int .i64 (IntKind.i64.wrap (dotN a b i + IntKind.i64.wrap (x * y))) = .int .i64 (dotN a b (i + 1)) := by
      rw [wr (x := x * y) (by omega) (by omega), wr (by omega) (by omega), e]
    refine KW.nxt rfl rfl (fun H' g => ⟨i + 1, by omega, by first | omega | (simp only; omega), ⟨rfl, rfl, e2, rfl, rfl, congrArg (Value.int .i64) (inc64 (by omega)), trivial⟩, g⟩)
  · obtain rfl : i = a.length := by omega
    have h1 := dotN_in hp ea eb a.length
    refine KW.rem rfl rfl rfl rfl rfl rfl (h1.1) (by have := hp.1; omega) ?_
    exact KW.ret rfl rfl rfl rfl (rfl)
/-- What a maker of a list of numbers yields. -/
def MkL (xs : List Int) (n : Nat) (v : Value) (H1 : AH) : Prop := ∃ a c, v = .slice a xs.length c ∧ KI.Ml (New n H1.n) H1 (.slice a xs.length c) xs
theorem MkL.of {S0 : Ids} {H0 H1 : AH} {T : List Var} {n j id n0 : Nat} {ty : TypeId} {xs : List Int} (g : Good S0 H0 T n H1) (hj : T[j]? = some (id, ⟨ty, true, xs.map (Value.int .i64)⟩)) (hn : n0 ≤ id) : MkL xs n0 (.slice (some ⟨id, 0, some 1⟩) xs.length xs.length) H1 :=
  ⟨_, _, rfl, int_ml ⟨hn, (g.blk hj).2⟩ (g.blk hj).1 rfl rfl (Nat.le_refl _)⟩
theorem rowsHeld (h p c : Int) (x : Nat) (hx : x < 4611686018427387904) {a1 c1} {v2 : Option Addr} {n2 c2 : Nat} {ow : List Int} (hO : B_Int64S ow) (hown : ∀ x ∈ ow, 0 ≤ x ∧ x ≤ h - 1) (hh : h ≤ 7) (ho : KI.Sl S H0 (.slice a1 ow.length c1) ow) :
    SpecM Try.prog S H0 121 [.agg #[.int .i64 h, .slice a1 ow.length c1, .int .i64 p, .int .i64 c, .slice v2 n2 c2], .int .u64 (x : Int)] (MkL (rowsP (fun i => x.testBit (ow.getD i 0).toNat) ow.length)) := by
  refine SpecM.of1 Try.func121 rfl (by kernel_rfl) rfl (fun H _ => ?_)
  have hO' : ow.length ≤ 1048576 := hO
  refine KW.lit rfl rfl rfl rfl rfl rfl rfl rfl rfl rfl [] rfl rfl (fun v hv => by simp at hv) rfl ?_
  refine KW.lpM rfl rfl (fun s : Nat × Nat => [(1, .int .u64 (x : Int)), (5, .slice (some ⟨s.2, 0, some 1⟩) (rowsP (fun i => x.testBit (ow.getD i 0).toNat) s.1).length (rowsP (fun i => x.testBit (ow.getD i 0).toNat) s.1).length), (10, .slice a1 ow.length c1), (11, .int .i64 ow.length), (12, .int .i64 s.1)]) (fun s => Low H.n) (fun s => H) (fun s => [(H.n, ⟨_, true, _⟩), (s.2, ⟨_, true, (rowsP (fun i => x.testBit (ow.getD i 0).toNat) s.1).map (Value.int .i64)⟩)]) (fun s => s.1 ≤ ow.length) (fun s => ow.length - s.1) ((0, H.n + 1)) (by simp) ⟨rfl, rfl, rfl, rfl, rfl, trivial⟩ rfl rfl (rfl) (fun s hi bE n => ?_)
  obtain ⟨q, o⟩ := s
  simp only at hi
  have hq : (rowsP (fun i => x.testBit (ow.getD i 0).toNat) q).length ≤ q := rowsP_len _ q
  refine KW.cnd rfl rfl (fun k1 => ?_) (fun k1 => ?_)
  · refine KW.getI ho.up rfl rfl rfl rfl rfl rfl rfl rfl rfl rfl rfl rfl rfl rfl rfl rfl (by omega) (k1) (fun y hy => ?_)
    have hy' : ow[q]? = some y := hy
    have hyb := hown y (List.mem_of_getElem? hy')
    obtain ⟨z, rfl⟩ : ∃ z : Nat, y = z := ⟨y.toNat, by omega⟩
    have hyd : ow.getD q 0 = z := getD_of hy'
    have e := rowsP_next (fun i => x.testBit (ow.getD i 0).toNat) q
    simp only [hyd, Int.toNat_natCast] at e
    refine KW.callE rfl rfl rfl rfl rfl (has (x := x) (h := z) hx (by omega)) (fun _ _ => ?_)
    refine KW.cndB rfl rfl (fun k2 => ?_) (fun k2 => ?_)
    · rw [if_pos k2] at e
      refine KW.app1 (xs := (rowsP (fun i => x.testBit (ow.getD i 0).toNat) q).map (Value.int .i64)) (v := .int .i64 q) 1 2 rfl rfl rfl rfl rfl rfl rfl rfl rfl rfl rfl rfl rfl rfl rfl rfl rfl rfl rfl rfl rfl rfl rfl (by simp) (by show (_ + 1) * 8 ≤ _; first | omega | (simp only; omega)) (by first | omega | (simp only; omega)) ?_
      refine KW.nxt rfl rfl (fun H' g => ⟨(q + 1, _), by simp only; omega, by first | omega | (simp only; omega), ⟨rfl, by simp only [e, List.length_append, List.length_singleton]; rfl, rfl, rfl, congrArg (Value.int .i64) (inc64 (by omega)), trivial⟩, g.eqT (by simp only [e, List.map_append]; rfl)⟩)
    · rw [if_neg (by rw [k2]; decide)] at e
      refine KW.nxt rfl rfl (fun H' g => ⟨(q + 1, o), by simp only; omega, by first | omega | (simp only; omega), ⟨rfl, by simp only [e]; rfl, rfl, rfl, congrArg (Value.int .i64) (inc64 (by omega)), trivial⟩, g.eqT (by simp only [e])⟩)
  · obtain rfl : q = ow.length := by simp only at k1; omega
    refine KW.retM1 rfl rfl rfl rfl (fun H1 g => MkL.of g (j := 1) rfl (g.ge (H1 := H) (j := 1) rfl))
end
end Go.Proofs.Ytijmkfnmdhpakaa.Am
/- Contracts: shares, values, tags; copies and equality of rows. Each holds under its own conditions. -/
set_option linter.unusedVariables false
set_option maxRecDepth 20000
namespace Go.Proofs.Ytijmkfnmdhpakaa.Am
open Go Go.RowKit Go.Proofs
theorem elems_cons {p s : Int} {bl : List Int} (hs : 0 ≤ s ∧ s ≤ p - 1) (hb : Elems p bl) : Elems p (s :: bl) := fun x hx => by
  rcases List.mem_cons.1 hx with rfl | h
  · exact hs
  · exact hb x h
section
variable {S : Ids} {H0 : AH}
theorem sharesOf (h p c s : Int) {a1 c1 a2 c2 a3 c3} {ow bl : List Int} {rows : List (List Int)} (hO : B_Int64S ow) (hB : B_Int64SS rows) (hk : OkSch h ow p c rows) (hs : 0 ≤ s ∧ s ≤ p - 1) (hbl : (bl.length : Int) = c - 1) (hbe : Elems p bl)
    (h1 : KI.Sl S H0 (.slice a1 ow.length c1) ow) (h2 : KI.sl.Sl S H0 (.slice a2 rows.length c2) rows) (h3 : KI.Sl S H0 (.slice a3 bl.length c3) bl) :
    SpecM Try.prog S H0 52 [.agg #[.int .i64 h, .slice a1 ow.length c1, .int .i64 p, .int .i64 c, .slice a2 rows.length c2], .int .i64 s, .slice a3 bl.length c3] (fun n v H1 => ∃ v', v = .tuple #[v', .int .i64 0] ∧ MkL (shares p rows (s :: bl)) n v' H1) := by
  refine SpecM.of1 Try.func52 rfl (by kernel_rfl) rfl (fun H _ => ?_)
  have hp : I64 p := by unfold I64; have := hk.mat.pr.1; have := hk.mat.pr.2.1; omega
  have hc12 := hk.mat.c1
  have hc1 := hk.c1
  have hrl := hk.mat.len
  have ec : IntKind.i64.wrap (c - 1) = c - 1 := wr (by omega) (by omega)
  refine KW.callE rfl rfl rfl rfl rfl (validScheme h p c hp hO hB h1.up h2.up) (fun _ _ => ?_)
  rw [tv_true hk]
  refine KW.cF rfl rfl (by first | (simp; done) | decide) ?_
  refine KW.lit rfl rfl rfl rfl rfl rfl rfl rfl rfl rfl [.int .i64 s] rfl rfl (fun v hv => by simp at hv; subst hv; rfl) rfl ?_
  refine KW.callV1 rfl rfl rfl rfl rfl (fun H1 g _ => areElements p hp (xs := [s]) (by simp) (g.ints (j := 1) rfl rfl (by simp))) (fun _ _ => ?_)
  rw [tv_true (p := PrimeP p ∧ Elems p [s]) ⟨hk.mat.pr, fun x hx => by rw [List.mem_singleton.1 hx]; exact hs⟩]
  refine KW.tF rfl rfl (by first | (simp; done) | decide) ?_
  refine KW.callE rfl rfl rfl rfl rfl (areElements p hp (by omega) h3.up) (fun _ _ => ?_)
  rw [tv_true (p := PrimeP p ∧ Elems p bl) ⟨hk.mat.pr, hbe⟩]
  refine KW.tF rfl rfl (by first | (simp; done) | decide) ?_
  refine KW.cndB rfl rfl (fun k1 => ?_) (fun k1 => ?_)
  · rw [ec, hbl] at k1; simp at k1
  refine KW.lit rfl rfl rfl rfl rfl rfl rfl rfl rfl rfl [.int .i64 s] rfl rfl (fun v hv => by simp at hv; subst hv; rfl) rfl ?_
  refine KW.appV 2 rfl rfl rfl rfl rfl rfl rfl rfl rfl rfl (fun H1 g => acells_I h3.up g) (by simp) (by simp) (fun v hv => by obtain ⟨_, _, rfl⟩ := List.mem_map.1 hv; rfl) (by show (_ + _) * 8 ≤ _; simp only [List.length_cons, List.length_nil]; omega) (by simp only [List.length_cons, List.length_nil]; omega) (show 1 + bl.length = (s :: bl).length from by simp; omega) (fun oa _ _ => ?_)
  refine KW.lit rfl rfl rfl rfl rfl rfl rfl rfl rfl rfl [] rfl rfl (fun v hv => by simp at hv) rfl ?_
  refine KW.fact (p := ¬ oa < H.n) (fun _ g => (g.vars 2 _ rfl).2.2) (fun hoa => ?_)
  refine KW.lpM rfl rfl (fun q : Nat × Nat => [(3, .pointer (some ⟨H.n, 0, some 0⟩)), (8, .slice (some ⟨oa, 0, some 1⟩) (s :: bl).length (s :: bl).length), (9, .slice (some ⟨q.2, 0, some 1⟩) (shares p (rows.take q.1) (s :: bl)).length (shares p (rows.take q.1) (s :: bl)).length), (46, .slice a2 rows.length c2), (47, .int .i64 rows.length), (48, .int .i64 q.1)]) (fun q => Low H.n) (fun q => H) (fun q => [_, _, (oa, ⟨_, true, (s :: bl).map (Value.int .i64)⟩), (q.2, ⟨_, true, (shares p (rows.take q.1) (s :: bl)).map (Value.int .i64)⟩)]) (fun q => q.1 ≤ rows.length) (fun q => rows.length - q.1) ((0, _)) (by simp) ⟨rfl, rfl, rfl, rfl, rfl, rfl, trivial⟩ rfl rfl (rfl) (fun q hi bE n => ?_)
  obtain ⟨q, o⟩ := q
  simp only at hi
  have hq : (shares p (rows.take q) (s :: bl)).length ≤ q := by unfold shares; rw [List.length_map, List.length_take]; omega
  refine KW.cnd rfl rfl (fun k2 => ?_) (fun k2 => ?_)
  · refine KW.getL h2.up rfl rfl rfl rfl rfl rfl rfl rfl rfl rfl rfl rfl rfl rfl rfl rfl (by omega) (k2) (fun y a' m' hy hsy => ?_)
    have hy : rows[q]? = some y := hy
    have hym := hk.mat.row y (List.mem_of_getElem? hy)
    refine KW.callV1 rfl rfl rfl rfl rfl (fun H1 g _ => dot p hk.mat.pr (by simp; omega) (by omega) hym.2 (elems_cons hs hbe) hsy.up (g.ints (j := 2) rfl rfl (Nat.le_refl _))) (fun _ _ => ?_)
    have e : shares p (rows.take (q + 1)) (s :: bl) = shares p (rows.take q) (s :: bl) ++ [dotS p y (s :: bl)] := map_take_succ _ hy
    refine KW.app1 (xs := (shares p (rows.take q) (s :: bl)).map (Value.int .i64)) (v := .int .i64 (dotS p y (s :: bl))) 3 4 rfl rfl rfl rfl rfl rfl rfl rfl rfl rfl rfl rfl rfl rfl rfl rfl rfl rfl rfl rfl rfl rfl rfl (by simp) (by show (_ + 1) * 8 ≤ _; first | omega | (simp only; omega)) (by first | omega | (simp only; omega)) ?_
    refine KW.nxt rfl rfl (fun H' g => ⟨(q + 1, _), by simp only; omega, by first | omega | (simp only; omega), ⟨rfl, rfl, by simp only [e, List.length_append, List.length_singleton]; rfl, rfl, rfl, congrArg (Value.int .i64) (inc64 (by omega)), trivial⟩, g.eqT (by simp only [e, List.map_append]; rfl)⟩)
  · obtain rfl : q = rows.length := by simp only at k2; omega
    rw [List.take_of_length_le (Nat.le_refl _)]
    refine KW.retM1 rfl rfl rfl rfl (fun H1 g => ⟨_, rfl, MkL.of g (j := 3) rfl (g.ge (H1 := H) (j := 3) rfl)⟩)
end
/-- The shares of the rows of a holder. -/
def valsOf (p : Int) (rows : List (List Int)) (ow : List Int) (s : Int) (bl : List Int) (j : Int) : List Int := (rowsOf ow j).map fun i => (shares p rows (s :: bl)).getD i.toNat 0
theorem rows_bit {ow : List Int} (h : ∀ x ∈ ow, 0 ≤ x) (j : Nat) : rowsP (fun i => (2 ^ j : Nat).testBit (ow.getD i 0).toNat) ow.length = rowsOf ow j := rowsP_congr fun i hi => by
  have h1 : 0 ≤ ow.getD i 0 := by rw [List.getD_eq_getElem?_getD, List.getElem?_eq_getElem hi]; exact h _ (List.getElem_mem hi)
  rw [Nat.testBit_two_pow]
  exact decide_eq_decide.2 ⟨fun h => by omega, fun h => by omega⟩
theorem rows_one (ow : List Int) (j : Int) : rowsP (fun i => decide (ow.getD i 0 ∈ [j])) ow.length = rowsOf ow j := rowsP_congr fun i hi => by simp
theorem dotS_in {p : Int} {a b : List Int} (hp : PrimeP p) : 0 ≤ dotS p a b ∧ dotS p a b ≤ p - 1 := by
  unfold dotS
  have h1 := hp.1
  have := Int.emod_nonneg (dotN a b a.length) (show p ≠ 0 by omega)
  have := Int.emod_lt_of_pos (dotN a b a.length) (show 0 < p by omega)
  omega
theorem shares_in {p : Int} {rows : List (List Int)} {all : List Int} (hp : PrimeP p) : Elems p (shares p rows all) := fun x hx => by
  obtain ⟨r, _, rfl⟩ := List.mem_map.1 hx
  exact dotS_in hp
theorem vals_in {p s j : Int} {rows : List (List Int)} {ow bl : List Int} (hp : PrimeP p) : Elems p (valsOf p rows ow s bl j) := fun x hx => by
  obtain ⟨i, _, rfl⟩ := List.mem_map.1 hx
  exact elem_at (shares_in hp) hp.1 _
theorem vals_len {p s j : Int} {rows : List (List Int)} {ow bl : List Int} : (valsOf p rows ow s bl j).length = (rowsOf ow j).length := by simp [valsOf]
/-- The tags of values for the rows R, by the keys kk. -/
def tagAt (p : Int) (kk : List (List Int)) (R vals : List Int) (k : Nat) : Int := ((kk.getD (R.getD k 0).toNat []).getD 0 0 * vals.getD k 0 + (kk.getD (R.getD k 0).toNat []).getD 1 0) % p
def tagsOf (p : Int) (kk : List (List Int)) (R vals : List Int) : List Int := (List.range R.length).map (tagAt p kk R vals)
theorem range_map_succ {α : Type} (f : Nat → α) (n : Nat) : (List.range (n + 1)).map f = (List.range n).map f ++ [f n] := by rw [List.range_succ, List.map_append]; rfl
section
variable {S : Ids} {H0 : AH}
theorem values (h p c s : Int) (e j : Nat) {a1 c1 a2 c2 a3 c3} {a4 : Option Addr} {n4 c4 : Nat} {ow bl : List Int} {rows bs : List (List Int)} (hO : B_Int64S ow) (hB : B_Int64SS rows) (hk : OkSch h ow p c rows) (hs : 0 ≤ s ∧ s ≤ p - 1) (he : bs[e]? = some bl) (hbl : (bl.length : Int) = c - 1) (hbe : Elems p bl) (hj : j ≤ 6)
    (h1 : KI.Sl S H0 (.slice a1 ow.length c1) ow) (h2 : KI.sl.Sl S H0 (.slice a2 rows.length c2) rows) (h3 : KI.sl.Sl S H0 (.slice a3 bs.length c3) bs) :
    SpecM Try.prog S H0 117 [.agg #[.int .i64 h, .slice a1 ow.length c1, .int .i64 p, .int .i64 c, .slice a2 rows.length c2, .int .i64 s, .slice a3 bs.length c3, .slice a4 n4 c4], .int .i64 e, .int .i64 j] (MkL (valsOf p rows ow s bl j)) := by
  refine SpecM.of1 Try.func117 rfl (by kernel_rfl) rfl (fun H _ => ?_)
  have hrl := hk.mat.len
  have hol := hk.len
  have hel := (List.getElem?_eq_some_iff.1 he).1
  refine KW.getL h3.up rfl rfl rfl rfl rfl rfl rfl rfl rfl rfl rfl rfl rfl rfl rfl rfl (by omega) (by omega) (fun y a' m' hy hsy => ?_)
  have hy : bs[e]? = some y := hy
  rw [he] at hy
  cases hy
  refine KW.callN1 rfl rfl rfl rfl rfl (sharesOf h p c s hO hB hk hs hbl hbe h1.up h2.up hsy) (fun v HA SA mA _ _ hv => ?_)
  obtain ⟨v', rfl, a5, c5, rfl, hA⟩ := hv
  refine KW.lit rfl rfl rfl rfl rfl rfl rfl rfl rfl rfl [] rfl rfl (fun v hv => by simp at hv) rfl ?_
  refine KW.shlU rfl rfl rfl rfl rfl rfl j rfl (by omega) ?_
  have hp := small_pow (m := j) (by omega)
  refine KW.callN1 rfl rfl rfl rfl rfl (rowsHeld h p c (2 ^ j) (by omega) hO hk.own hk.h7 h1.up) (fun v HR SR mR _ _ hv => ?_)
  obtain ⟨a6, c6, rfl, hR⟩ := hv
  rw [rows_bit (fun x hx => (hk.own x hx).1)] at hR ⊢
  have hRl : (rowsOf ow j).length ≤ ow.length := rowsP_len _ _
  have hRm : ∀ x ∈ rowsOf ow j, 0 ≤ x ∧ x < ow.length := fun x hx => rowsP_mem hx
  have hval : valsOf p rows ow s bl j = (rowsOf ow j).map fun i => (shares p rows (s :: bl)).getD i.toNat 0 := rfl
  rw [hval]
  have hsl : (shares p rows (s :: bl)).length = rows.length := by simp [shares]
  obtain ⟨R, hRe⟩ : ∃ R, rowsOf ow j = R := ⟨_, rfl⟩
  rw [hRe] at hR hRl hRm ⊢
  obtain ⟨A, hAe⟩ : ∃ A, shares p rows (s :: bl) = A := ⟨_, rfl⟩
  rw [hAe] at hA hsl ⊢
  refine KW.lpM rfl rfl (fun q : Nat × Nat => [(7, .slice a5 A.length c5), (9, .slice (some ⟨q.2, 0, some 1⟩) ((R.take q.1).map fun i => A.getD i.toNat 0).length ((R.take q.1).map fun i => A.getD i.toNat 0).length), (30, .slice a6 R.length c6), (31, .int .i64 R.length), (32, .int .i64 q.1)]) (fun q => SR) (fun q => HR) (fun q => [_, (q.2, ⟨_, true, ((R.take q.1).map fun i => A.getD i.toNat 0).map (Value.int .i64)⟩)]) (fun q => q.1 ≤ R.length) (fun q => R.length - q.1) ((0, _)) (by simp) ⟨rfl, rfl, rfl, rfl, rfl, trivial⟩ rfl rfl (rfl) (fun q hi bE n => ?_)
  obtain ⟨q, o⟩ := q
  simp only at hi
  have hq : ((R.take q).map fun i => A.getD i.toNat 0).length ≤ q := by rw [List.length_map, List.length_take]; omega
  refine KW.cnd rfl rfl (fun k2 => ?_) (fun k2 => ?_)
  · refine KW.getI hR.ups rfl rfl rfl rfl rfl rfl rfl rfl rfl rfl rfl rfl rfl rfl rfl rfl (by omega) (k2) (fun x hx => ?_)
    have hx : R[q]? = some x := hx
    have hxm := hRm x (List.mem_of_getElem? hx)
    refine KW.getI hA.ups rfl rfl rfl rfl rfl rfl rfl rfl rfl rfl rfl rfl rfl rfl rfl rfl (by omega) (by omega) (fun y hy => ?_)
    have hy : A.getD x.toNat 0 = y := getD_of hy
    have e1 := map_take_succ (fun i : Int => A.getD i.toNat 0) hx
    rw [hy] at e1
    refine KW.app1 (xs := ((R.take q).map fun i => A.getD i.toNat 0).map (Value.int .i64)) (v := .int .i64 y) 1 2 rfl rfl rfl rfl rfl rfl rfl rfl rfl rfl rfl rfl rfl rfl rfl rfl rfl rfl rfl rfl rfl rfl rfl (by simp) (by show (_ + 1) * 8 ≤ _; first | omega | (simp only; omega)) (by first | omega | (simp only; omega)) ?_
    refine KW.nxt rfl rfl (fun H' g => ⟨(q + 1, _), by simp only; omega, by first | omega | (simp only; omega), ⟨rfl, by simp only [e1, List.length_append, List.length_singleton]; rfl, rfl, rfl, congrArg (Value.int .i64) (inc64 (by omega)), trivial⟩, g.eqT (by simp only [e1, List.map_append]; rfl)⟩)
  · obtain rfl : q = R.length := by simp only at k2; omega
    rw [List.take_of_length_le (Nat.le_refl _)]
    refine KW.retM1 rfl rfl rfl rfl (fun H1 g => MkL.of g (j := 1) rfl (g.ge (H1 := H) (j := 1) rfl))
theorem tag_val {p k0 k1 v : Int} (hp : PrimeP p) (h0 : 0 ≤ k0 ∧ k0 ≤ p - 1) (h1 : 0 ≤ k1 ∧ k1 ≤ p - 1) (hv : 0 ≤ v ∧ v ≤ p - 1) : IntKind.i64.wrap (IntKind.i64.wrap (k0 * v) + k1) = k0 * v + k1 ∧ 0 ≤ k0 * v + k1 := by
  have h2 := mul_small hp.2.1 h0 hv
  have h3 := hp.2.1
  rw [wr (x := k0 * v) (by omega) (by omega), wr (by omega) (by omega)]
  exact ⟨rfl, by omega⟩
theorem tags (h p c s : Int) (e j : Nat) {a1 c1 a2 c2 a4 c4 a5 c5} {a3 : Option Addr} {n3 c3 : Nat} {ow vals : List Int} {rows kk : List (List Int)} {ks : List (List (List Int))} (hO : B_Int64S ow) (hBk : B_Int64SSS ks) (hk : OkSch h ow p c rows) (he : ks[e]? = some kk) (hkk : KeysOk p rows.length kk) (hj : j ≤ 6) (hvl : vals.length = (rowsOf ow j).length) (hve : Elems p vals)
    (h1 : KI.Sl S H0 (.slice a1 ow.length c1) ow) (h4 : KI.sl.sl.Sl S H0 (.slice a4 ks.length c4) ks) (h5 : KI.Sl S H0 (.slice a5 vals.length c5) vals) :
    SpecM Try.prog S H0 118 [.agg #[.int .i64 h, .slice a1 ow.length c1, .int .i64 p, .int .i64 c, .slice a2 rows.length c2, .int .i64 s, .slice a3 n3 c3, .slice a4 ks.length c4], .int .i64 e, .int .i64 j, .slice a5 vals.length c5] (MkL (tagsOf p kk (rowsOf ow j) vals)) := by
  refine SpecM.of1 Try.func118 rfl (by kernel_rfl) rfl (fun H _ => ?_)
  have hrl := hk.mat.len
  have hol := hk.len
  have hel := (List.getElem?_eq_some_iff.1 he).1
  have hpr := hk.mat.pr
  refine KW.lit rfl rfl rfl rfl rfl rfl rfl rfl rfl rfl [] rfl rfl (fun v hv => by simp at hv) rfl ?_
  refine KW.shlU rfl rfl rfl rfl rfl rfl j rfl (by omega) ?_
  have hp := small_pow (m := j) (by omega)
  refine KW.callN1 rfl rfl rfl rfl rfl (rowsHeld h p c (2 ^ j) (by omega) hO hk.own hk.h7 h1.up) (fun v HR SR mR _ _ hv => ?_)
  obtain ⟨a6, c6, rfl, hR⟩ := hv
  rw [rows_bit (fun x hx => (hk.own x hx).1)] at hR ⊢
  have hRl : (rowsOf ow j).length ≤ ow.length := rowsP_len _ _
  have hRm : ∀ x ∈ rowsOf ow j, 0 ≤ x ∧ x < ow.length := fun x hx => rowsP_mem hx
  obtain ⟨R, hRe⟩ : ∃ R, rowsOf ow j = R := ⟨_, rfl⟩
  rw [hRe] at hR hRl hRm hvl ⊢
  refine KW.lpM rfl rfl (fun q : Nat × Nat => [(1, .int .i64 e), (3, .slice a5 vals.length c5), (4, .pointer (some ⟨H.n, 0, some 0⟩)), (9, .slice (some ⟨q.2, 0, some 1⟩) ((List.range q.1).map (tagAt p kk R vals)).length ((List.range q.1).map (tagAt p kk R vals)).length), (18, .slice a6 R.length c6), (19, .int .i64 R.length), (20, .int .i64 q.1)]) (fun q => SR) (fun q => HR) (fun q => [(H.n, ⟨71, true, [.int .i64 h, .slice a1 ow.length c1, .int .i64 p, .int .i64 c, .slice a2 rows.length c2, .int .i64 s, .slice a3 n3 c3, .slice a4 ks.length c4]⟩), (q.2, ⟨_, true, ((List.range q.1).map (tagAt p kk R vals)).map (Value.int .i64)⟩)]) (fun q => q.1 ≤ R.length) (fun q => R.length - q.1) ((0, _)) (by simp) ⟨rfl, rfl, rfl, rfl, rfl, rfl, rfl, trivial⟩ rfl rfl (rfl) (fun q hi bE n => ?_)
  obtain ⟨q, o⟩ := q
  simp only at hi
  have hq : ((List.range q).map (tagAt p kk R vals)).length ≤ q := by simp
  refine KW.cnd rfl rfl (fun k2 => ?_) (fun k2 => ?_)
  · refine KW.getI hR.ups rfl rfl rfl rfl rfl rfl rfl rfl rfl rfl rfl rfl rfl rfl rfl rfl (by omega) (k2) (fun x hx => ?_)
    have hx : R[q]? = some x := hx
    have hxm := hRm x (List.mem_of_getElem? hx)
    refine KW.getL h4.up rfl rfl rfl rfl rfl rfl rfl rfl rfl rfl rfl rfl rfl rfl rfl rfl (by omega) (by omega) (fun kk' b1 d1 hk1 hs1 => ?_)
    have hk1 : ks[e]? = some kk' := hk1
    rw [he] at hk1
    cases hk1
    have hkl := hkk.1
    refine KW.getL hs1 rfl rfl rfl rfl rfl rfl rfl rfl rfl rfl rfl rfl rfl rfl rfl rfl (by omega) (by omega) (fun ky b2 d2 hk2 hs2 => ?_)
    have hk2 : kk[x.toNat]? = some ky := hk2
    have hky := hkk.2 ky (List.mem_of_getElem? hk2)
    have hkyl := hky.1
    refine KW.getI hs2 rfl rfl rfl rfl rfl rfl rfl rfl rfl rfl rfl rfl rfl rfl rfl rfl (by omega) (by omega) (fun k0 hk0 => ?_)
    refine KW.getI h5.up rfl rfl rfl rfl rfl rfl rfl rfl rfl rfl rfl rfl rfl rfl rfl rfl (by omega) (by omega) (fun v hv => ?_)
    refine KW.getI hs2 rfl rfl rfl rfl rfl rfl rfl rfl rfl rfl rfl rfl rfl rfl rfl rfl (by omega) (by omega) (fun k1 hk1' => ?_)
    have ek0 : ky.getD 0 0 = k0 := getD_of hk0
    have ek1 : ky.getD 1 0 = k1 := getD_of hk1'
    have ev : vals.getD q 0 = v := getD_of hv
    have eR : R.getD q 0 = x := getD_of hx
    have ekk : kk.getD x.toNat [] = ky := by rw [List.getD_eq_getElem?_getD, hk2]; rfl
    have et : tagAt p kk R vals q = (k0 * v + k1) % p := by unfold tagAt; rw [eR, ekk, ek0, ek1, ev]
    obtain ⟨ew, e0⟩ := tag_val hpr (ek0 ▸ elem_at hky.2 hpr.1 0) (ek1 ▸ elem_at hky.2 hpr.1 1) (ev ▸ elem_at hve hpr.1 q)
    refine KW.rem rfl rfl rfl rfl rfl rfl (by rw [ew]; exact e0) (by have := hpr.1; omega) ?_
    rw [ew, ← et]
    have e1 := range_map_succ (tagAt p kk R vals) q
    refine KW.app1 (xs := ((List.range q).map (tagAt p kk R vals)).map (Value.int .i64)) (v := .int .i64 (tagAt p kk R vals q)) 1 2 rfl rfl rfl rfl rfl rfl rfl rfl rfl rfl rfl rfl rfl rfl rfl rfl rfl rfl rfl rfl rfl rfl rfl (by simp) (by show (_ + 1) * 8 ≤ _; first | omega | (simp only; omega)) (by first | omega | (simp only; omega)) ?_
    refine KW.nxt rfl rfl (fun H' g => ⟨(q + 1, _), by simp only; omega, by first | omega | (simp only; omega), ⟨rfl, rfl, rfl, by simp only [e1, List.length_append, List.length_singleton]; rfl, rfl, rfl, congrArg (Value.int .i64) (inc64 (by omega)), trivial⟩, g.eqT (by simp only [e1, List.map_append]; rfl)⟩)
  · obtain rfl : q = R.length := by simp only at k2; omega
    refine KW.retM1 rfl rfl rfl rfl (fun H1 g => MkL.of g (j := 1) rfl (g.ge (H1 := H) (j := 1) rfl))
end
end Go.Proofs.Ytijmkfnmdhpakaa.Am
/- Contracts: values, tags and lies of a deal, of the program and of the reference. Each holds under its own conditions. -/
set_option linter.unusedVariables false
set_option maxRecDepth 20000
namespace Go.Proofs.Ytijmkfnmdhpakaa.Am
open Go Go.RowKit Go.Proofs
/-- The code of a deal, an epoch and a holder. -/
noncomputable def codeD (x : T_Deal) (e j : Int) : Int := if tv (DealOk x) = true then (if (0 ≤ e ∧ e ≤ (x.2.2.1.length : Int) - 1) ∧ (0 ≤ j ∧ j ≤ x.1.1 - 1) then 0 else 2) else 1
abbrev blD (x : T_Deal) (e : Int) : List Int := x.2.2.1.getD e.toNat []
abbrev kkD (x : T_Deal) (e : Int) : List (List Int) := x.2.2.2.getD e.toNat []
/-- A deal at an epoch and a holder. -/
structure DealAt (x : T_Deal) (e j : Int) (E J : Nat) : Prop where
  ee : e = E
  jj : j = J
  j6 : J ≤ 6
  sch : OkSch x.1.1 x.1.2.1 x.1.2.2.1 x.1.2.2.2.1 x.1.2.2.2.2
  sec : 0 ≤ x.2.1 ∧ x.2.1 ≤ x.1.2.2.1 - 1
  hb : x.2.2.1[E]? = some (blD x e)
  hk : x.2.2.2[E]? = some (kkD x e)
  bl : ((blD x e).length : Int) = x.1.2.2.2.1 - 1 ∧ Elems x.1.2.2.1 (blD x e)
  key : KeysOk x.1.2.2.1 x.1.2.2.2.2.length (kkD x e)
theorem codeD_ok {x : T_Deal} {e j : Int} (h : codeD x e j = 0) : ∃ E J, DealAt x e j E J := by
  unfold codeD at h
  split at h
  · rename_i hd
    have hd : DealOk x := tv_iff.1 hd
    split at h
    · rename_i hr
      have hbl := hd.bl
      have hkl := hd.kl
      have h7 := hd.sch.h7
      have h1 : x.2.2.1[e.toNat]? = some (blD x e) := by
        show _ = some (x.2.2.1.getD e.toNat [])
        rw [List.getD_eq_getElem?_getD, List.getElem?_eq_getElem (by omega)]; rfl
      have h2 : x.2.2.2[e.toNat]? = some (kkD x e) := by
        show _ = some (x.2.2.2.getD e.toNat [])
        rw [List.getD_eq_getElem?_getD, List.getElem?_eq_getElem (by omega)]; rfl
      have h3 := hd.bk _ _ _ h1 h2
      exact ⟨e.toNat, j.toNat, by omega, by omega, by omega, hd.sch, hd.sec, h1, h2, h3.1, h3.2⟩
    · cases h
  · cases h
def valsD (x : T_Deal) (e j : Int) : List Int := valsOf x.1.2.2.1 x.1.2.2.2.2 x.1.2.1 x.2.1 (blD x e) j
def tagsD (x : T_Deal) (e j : Int) (vals : List Int) : List Int := tagsOf x.1.2.2.1 (kkD x e) (rowsOf x.1.2.1 j) vals
def lieOf (p : Int) (vals : List Int) (lie : Int) : List Int := match vals with
  | [] => []
  | v :: vs => ((v + lie) % p) :: vs
theorem lie_len {p : Int} {vals : List Int} {lie : Int} : (lieOf p vals lie).length = vals.length := by cases vals <;> rfl
theorem lie_in {p : Int} {vals : List Int} {lie : Int} (hp : PrimeP p) (h : Elems p vals) : Elems p (lieOf p vals lie) := fun x hx => by
  cases vals with
  | nil => exact h x hx
  | cons v vs =>
    rcases List.mem_cons.1 hx with rfl | hx
    · have h1 := hp.1
      have := Int.emod_nonneg (v + lie) (show p ≠ 0 by omega)
      have := Int.emod_lt_of_pos (v + lie) (show 0 < p by omega)
      omega
    · exact h x (List.mem_cons_of_mem _ hx)
section
variable {S : Ids} {H0 : AH}
theorem dealCode (x : T_Deal) (e j : Int) {cs : List Value} (hB : B_Deal x) (h : K_Deal.R S H0 x cs) : Spec Try.prog S H0 116 [.agg cs.toArray, .int .i64 e, .int .i64 j] (fun v => v = .int .i64 (codeD x e j)) := by
  obtain ⟨a1, c1, a2, c2, a3, c3, a4, c4, rfl, h1, h2, h3, h4⟩ := split2_Deal h
  refine Spec.of1 Try.func116 rfl (by kernel_rfl) rfl (fun H _ => ?_)
  have hbl := hB.2.2.1.len
  refine KW.callE rfl rfl rfl rfl rfl (impl_ValidDeal hB (On.R h)) (fun _ _ => ?_)
  by_cases hd : DealOk x
  · rw [tv_true hd]
    refine KW.cF rfl rfl (by first | (simp; done) | decide) ?_
    have h7 := hd.sch.h7
    have h1 := hd.sch.h1
    refine KW.callE rfl rfl rfl rfl rfl (within _ _ _) (fun _ _ => ?_)
    rw [wr (x := (x.2.2.1.length : Int) - 1) (by omega) (by omega)]
    refine KW.tstB rfl rfl (fun k1 => ?_) (fun k1 => ?_)
    · refine KW.cT rfl rfl (by first | (simp; done) | decide) ?_
      exact KW.ret rfl rfl rfl rfl (by unfold codeD; rw [if_pos (tv_true hd), if_neg (fun hc => by simp at k1; omega)]; rfl)
    have k1 : 0 ≤ e ∧ e ≤ (x.2.2.1.length : Int) - 1 := by simpa using k1
    refine KW.callE rfl rfl rfl rfl rfl (within _ _ _) (fun _ _ => ?_)
    rw [wr (x := x.1.1 - 1) (by omega) (by omega)]
    refine KW.cndB rfl rfl (fun k2 => ?_) (fun k2 => ?_)
    · exact KW.ret rfl rfl rfl rfl (by unfold codeD; rw [if_pos (tv_true hd), if_neg (fun hc => by simp at k2; omega)]; rfl)
    have k2 : 0 ≤ j ∧ j ≤ x.1.1 - 1 := by simpa using k2
    exact KW.ret rfl rfl rfl rfl (by unfold codeD; rw [if_pos (tv_true hd), if_pos ⟨k1, k2⟩]; rfl)
  · rw [tv_false hd]
    refine KW.cT rfl rfl (by first | (simp; done) | decide) ?_
    exact KW.ret rfl rfl rfl rfl (by unfold codeD; rw [if_neg (by rw [tv_false hd]; decide)]; rfl)
theorem valuesD (x : T_Deal) (e j : Int) {E J : Nat} (hd : DealAt x e j E J) {cs : List Value} (hB : B_Deal x) (h : K_Deal.R S H0 x cs) : SpecM Try.prog S H0 117 [.agg cs.toArray, .int .i64 e, .int .i64 j] (MkL (valsD x e j)) := by
  obtain ⟨a1, c1, a2, c2, a3, c3, a4, c4, rfl, h1, h2, h3, h4⟩ := split2_Deal h
  have := values x.1.1 x.1.2.2.1 x.1.2.2.2.1 x.2.1 E J (c2 := c2) (a4 := a4) (n4 := x.2.2.2.length) (c4 := c4) hB.1.2.1 hB.1.2.2.2.2 hd.sch hd.sec hd.hb hd.bl.1 hd.bl.2 hd.j6 h1 h2 h3
  rw [hd.ee, hd.jj]
  rw [hd.ee] at this
  exact this
theorem tagsDD (x : T_Deal) (e j : Int) {E J : Nat} (hd : DealAt x e j E J) {cs : List Value} (hB : B_Deal x) (h : K_Deal.R S H0 x cs) {vals : List Int} {a c} (hl : vals.length = (rowsOf x.1.2.1 j).length) (he : Elems x.1.2.2.1 vals) (hs : KI.Sl S H0 (.slice a vals.length c) vals) : SpecM Try.prog S H0 118 [.agg cs.toArray, .int .i64 e, .int .i64 j, .slice a vals.length c] (MkL (tagsD x e j vals)) := by
  obtain ⟨a1, c1, a2, c2, a3, c3, a4, c4, rfl, h1, h2, h3, h4⟩ := split2_Deal h
  have := tags x.1.1 x.1.2.2.1 x.1.2.2.2.1 x.2.1 E J (a2 := a2) (c2 := c2) (a3 := a3) (n3 := x.2.2.1.length) (c3 := c3) hB.1.2.1 hB.2.2.2 hd.sch hd.hk hd.key hd.j6 (by rw [← hd.jj]; exact hl) he h1 h4 hs
  unfold tagsD
  rw [hd.ee, hd.jj]
  rw [hd.ee] at this
  exact this
/-- A list and a code. -/
def MkLC (xs : List Int) (code : Int) (n : Nat) (v : Value) (H1 : AH) : Prop := ∃ a c, v = .tuple #[.slice a xs.length c, .int .i64 code] ∧ M_Int64S.R (New n H1.n) H1 xs [.slice a xs.length c]
theorem MkLC.nil {code : Int} {n : Nat} {H1 : AH} {v : Value} (hv : v = .tuple #[.slice none 0 0, .int .i64 code]) : MkLC [] code n v H1 := ⟨none, 0, hv, ml1' (.inl ⟨rfl, _, _, rfl, fun _ => rfl⟩)⟩
/-- What a callee has made is handed on. -/
theorem Good.made {S0 : Ids} {H0 H1 H2 : AH} {T : List Var} {n lo m : Nat} {xs : List Int} {a : Option Addr} {c : Nat} (g : Good S0 H0 T n H2) [o : On (New m H1.n) H1 S0 H0] (hm : lo ≤ m) (h : KI.Ml (New m H1.n) H1 (.slice a xs.length c) xs) : KI.Ml (New lo H2.n) H2 (.slice a xs.length c) xs :=
  Kn.Ml.st h (g.out (fun id hid => by have := hid.1; omega)).st
noncomputable def r0_DealValues (x : T_Deal) (e j : Int) : List Int := if codeD x e j = 0 then valsD x e j else []
theorem impl_DealValues {x : T_Deal} (e j : Int) (he : I64 e) (hj : I64 j) {cs : List Value} (hB : B_Deal x) (h : K_Deal.R S H0 x cs) : SpecM Try.prog S H0 47 [.agg cs.toArray, .int .i64 e, .int .i64 j] (MkLC (r0_DealValues x e j) (codeD x e j)) := by
  obtain ⟨a1, c1, a2, c2, a3, c3, a4, c4, rfl, h1, h2, h3, h4⟩ := split2_Deal h
  refine SpecM.of1 Try.func47 rfl (by kernel_rfl) rfl (fun H _ => ?_)
  refine KW.callE rfl rfl rfl rfl rfl (dealCode x e j hB (On.R h)) (fun _ _ => ?_)
  unfold r0_DealValues
  by_cases hc : codeD x e j = 0
  · obtain ⟨E, J, hd⟩ := codeD_ok hc
    rw [if_pos hc, hc]
    refine KW.cF rfl rfl (by first | (simp; done) | decide) ?_
    refine KW.callN1 rfl rfl rfl rfl rfl (valuesD x e j hd hB (On.R h)) (fun v HA SA mA _ _ hv => ?_)
    obtain ⟨a5, c5, rfl, hA⟩ := hv
    refine KW.retM1 rfl rfl rfl rfl (fun H1 g => ⟨_, _, rfl, ml1' (g.made (by omega) hA)⟩)
  · rw [if_neg hc]
    refine KW.cndB rfl rfl (fun k1 => ?_) (fun k1 => ?_)
    · refine KW.retM1 rfl rfl rfl rfl (fun H1 g => MkLC.nil rfl)
    · exact absurd (by simpa using k1) hc
noncomputable def r0_DealTags (x : T_Deal) (e j : Int) : List Int := if codeD x e j = 0 then tagsD x e j (valsD x e j) else []
theorem impl_DealTags {x : T_Deal} (e j : Int) (he : I64 e) (hj : I64 j) {cs : List Value} (hB : B_Deal x) (h : K_Deal.R S H0 x cs) : SpecM Try.prog S H0 48 [.agg cs.toArray, .int .i64 e, .int .i64 j] (MkLC (r0_DealTags x e j) (codeD x e j)) := by
  obtain ⟨a1, c1, a2, c2, a3, c3, a4, c4, rfl, h1, h2, h3, h4⟩ := split2_Deal h
  refine SpecM.of1 Try.func48 rfl (by kernel_rfl) rfl (fun H _ => ?_)
  refine KW.callE rfl rfl rfl rfl rfl (dealCode x e j hB (On.R h)) (fun _ _ => ?_)
  unfold r0_DealTags
  by_cases hc : codeD x e j = 0
  · obtain ⟨E, J, hd⟩ := codeD_ok hc
    rw [if_pos hc, hc]
    refine KW.cF rfl rfl (by first | (simp; done) | decide) ?_
    refine KW.fact (fun _ g => g.nle (H1 := H)) (fun hn0 => ?_)
    refine KW.callN1 rfl rfl rfl rfl rfl (valuesD x e j hd hB (On.R h)) (fun v HA SA mA _ _ hv => ?_)
    obtain ⟨a5, c5, rfl, hA⟩ := hv
    refine KW.callN1 rfl rfl rfl rfl rfl (tagsDD x e j hd hB (On.R h) vals_len (vals_in hd.sch.mat.pr) hA.ups) (fun v HC SC mC _ _ hv => ?_)
    obtain ⟨a6, c6, rfl, hC⟩ := hv
    refine KW.retM1 rfl rfl rfl rfl (fun H1 g => ⟨_, _, rfl, ml1' (g.made (by omega) hC)⟩)
  · rw [if_neg hc]
    refine KW.cndB rfl rfl (fun k1 => ?_) (fun k1 => ?_)
    · refine KW.retM1 rfl rfl rfl rfl (fun H1 g => MkLC.nil rfl)
    · exact absurd (by simpa using k1) hc
theorem bound_DealValues {x : T_Deal} (e j : Int) (he : I64 e) (hj : I64 j) (hB : B_Deal x) : B_Int64S (r0_DealValues x e j) := by
  unfold r0_DealValues
  split
  · rename_i hc
    obtain ⟨E, J, hd⟩ := codeD_ok hc
    show (valsD x e j).length ≤ 1048576
    have h1 : (valsD x e j).length = (rowsOf x.1.2.1 j).length := vals_len
    have h2 : (rowsOf x.1.2.1 j).length ≤ x.1.2.1.length := rowsP_len _ _
    have h3 : x.1.2.1.length ≤ 1048576 := hB.1.2.1
    omega
  · show 0 ≤ _; omega
end
end Go.Proofs.Ytijmkfnmdhpakaa.Am
/- Contracts: copies and equality of rows; lies. Each holds under its own conditions. -/
set_option linter.unusedVariables false
set_option linter.unusedSimpArgs false
set_option maxRecDepth 20000
namespace Go.Proofs.Ytijmkfnmdhpakaa.Am
open Go Go.RowKit Go.Proofs
section
variable {S : Ids} {H0 : AH}
theorem cloneI {a c} {xs : List Int} (hl : xs.length ≤ 1048576) (hs : KI.Sl S H0 (.slice a xs.length c) xs) : SpecM Try.prog S H0 130 [.slice a xs.length c] (MkL xs) := by
  refine SpecM.of1 Try.func130 rfl (by kernel_rfl) rfl (fun H _ => ?_)
  refine KW.cndB rfl rfl (fun h => ?_) (fun h => ?_)
  · have ha : a = none := by cases a with
      | none => rfl
      | some a => simp at h
    have hx : xs = [] := by
      rcases hs with ⟨hx, _⟩ | ⟨id, k, c1, b, h1, _⟩
      · exact hx
      · rw [ha] at h1; cases h1
    subst hx
    refine KW.retM1 rfl rfl rfl rfl (fun H1 g => ⟨none, 0, rfl, .inl ⟨rfl, _, _, rfl, fun _ => rfl⟩⟩)
  · refine KW.lit rfl rfl rfl rfl rfl rfl rfl rfl rfl rfl [] rfl rfl (fun v hv => by simp at hv) rfl ?_
    refine KW.appV 0 rfl rfl rfl rfl rfl rfl rfl rfl rfl rfl (fun H1 g => acells_I hs.up g) (by simp) (by simp) (fun v hv => by obtain ⟨_, _, rfl⟩ := List.mem_map.1 hv; rfl) (by show (_ + _) * 8 ≤ _; simp only [List.length_cons, List.length_nil]; omega) (by simp only [List.length_cons, List.length_nil]; omega) (show 0 + xs.length = xs.length from by omega) (fun oa _ _ => ?_)
    refine KW.retM1 rfl rfl rfl rfl (fun H1 g => MkL.of g (j := 0) rfl (g.ge (H1 := H) (j := 0) rfl))
theorem equalI {a c a' c'} {xs ys : List Int} (hl : xs.length ≤ 1048576) (hs : KI.Sl S H0 (.slice a xs.length c) xs) (hs' : KI.Sl S H0 (.slice a' ys.length c') ys) : Spec Try.prog S H0 119 [.slice a xs.length c, .slice a' ys.length c'] (fun v => v = .bool (tv (xs = ys))) := by
  refine Spec.of1 Try.func119 rfl (by kernel_rfl) rfl (fun H _ => ?_)
  refine KW.cndB rfl rfl (fun h => ?_) (fun h => ?_)
  · exact KW.ret rfl rfl rfl rfl (by rw [tv_false (fun hc => by rw [hc] at h; simp at h)]; rfl)
  have h : xs.length = ys.length := by simp at h; omega
  refine KW.lp rfl rfl (fun i : Nat => [(0, .slice a xs.length c), (1, .slice a' ys.length c'), (12, .int .i64 xs.length), (13, .int .i64 i)]) (fun i => i ≤ xs.length ∧ ∀ j, j < i → xs[j]? = ys[j]?) (fun i => xs.length - i) (0) (⟨by omega, fun j h => absurd h (by omega)⟩) ⟨rfl, rfl, rfl, rfl, trivial⟩ (fun i hi bE n => ?_)
  obtain ⟨hi, hj⟩ := hi
  refine KW.cnd rfl rfl (fun h2 => ?_) (fun h2 => ?_)
  · refine KW.getI hs.up rfl rfl rfl rfl rfl rfl rfl rfl rfl rfl rfl rfl rfl rfl rfl rfl (by omega) (h2) (fun x hx => ?_)
    refine KW.getI hs'.up rfl rfl rfl rfl rfl rfl rfl rfl rfl rfl rfl rfl rfl rfl rfl rfl (by omega) (by omega) (fun y hy => ?_)
    have hx : xs[i]? = some x := hx
    have hy : ys[i]? = some y := hy
    refine KW.cndB rfl rfl (fun h3 => ?_) (fun h3 => ?_)
    · exact KW.ret rfl rfl rfl rfl (by rw [tv_false (fun hc => by subst hc; rw [hx] at hy; cases hy; simp at h3)]; rfl)
    have h3 : x = y := by simpa using h3
    refine KW.nxt rfl rfl (fun H' g => ⟨i + 1, ⟨by omega, upto hj (by rw [hx, hy, h3])⟩, by first | omega | (simp only; omega), ⟨rfl, rfl, rfl, congrArg (Value.int .i64) (inc64 (by omega)), trivial⟩, g⟩)
  · have : xs = ys := List.ext_getElem? fun j => by
      rcases Nat.lt_or_ge j i with h | h
      · exact hj j h
      · rw [List.getElem?_eq_none (by omega), List.getElem?_eq_none (by omega)]
    exact KW.ret rfl rfl rfl rfl (by rw [tv_true this]; rfl)
theorem lie_at {p : Int} {vals : List Int} {lie : Int} {i : Nat} {x : Int} (hi : (lieOf p vals lie)[i]? = some x) : (i = 0 ∧ x = (vals.getD 0 0 + lie) % p) ∨ (0 < i ∧ vals[i]? = some x) := by
  cases vals with
  | nil => simp [lieOf] at hi
  | cons v vs =>
    cases i with
    | zero => exact .inl ⟨rfl, by simpa [lieOf] using hi.symm⟩
    | succ i => exact .inr ⟨by omega, by simpa [lieOf] using hi⟩
theorem lied (h p c s : Int) (hp : PrimeP p) (lie : Int) (hlie : 0 ≤ lie ∧ lie ≤ p) {a1 c1 a2 c2 a3 c3 a4 c4 a5 c5} {n1 n2 n3 n4 : Nat} {vals : List Int} (hl : vals.length ≤ 1048576) (hv : Elems p vals) (hs : KI.Sl S H0 (.slice a5 vals.length c5) vals) :
    SpecM Try.prog S H0 120 [.agg #[.int .i64 h, .slice a1 n1 c1, .int .i64 p, .int .i64 c, .slice a2 n2 c2, .int .i64 s, .slice a3 n3 c3, .slice a4 n4 c4], .slice a5 vals.length c5, .int .i64 lie] (MkL (lieOf p vals lie)) := by
  refine SpecM.of1 Try.func120 rfl (by kernel_rfl) rfl (fun H _ => ?_)
  refine KW.fact (fun _ g => g.nle (H1 := H)) (fun hn0 => ?_)
  refine KW.callN1 rfl rfl rfl rfl rfl (cloneI hl hs.up) (fun v HA SA mA _ _ hv => ?_)
  obtain ⟨a6, c6, rfl, hA⟩ := hv
  refine KW.cnd rfl rfl (fun k1 => ?_) (fun k1 => ?_)
  · have k1 : 0 < vals.length := by have : (0 : Int) < vals.length := k1; omega
    obtain ⟨o, c7, b, e1, e2, e3, e4, e5, e6, e7⟩ := hA.ints (fun hx => by rw [hx] at k1; simp at k1)
    cases e1
    obtain ⟨ty, rw, cells⟩ := b
    obtain rfl : rw = true := e5
    obtain ⟨v0, hv0⟩ : ∃ v, vals[0]? = some v := ⟨vals[0], List.getElem?_eq_getElem k1⟩
    have hvd : vals.getD 0 0 = v0 := getD_of hv0
    have hvb := hv v0 (List.mem_of_getElem? hv0)
    have hp2 := hp.1
    have hp31 := hp.2.1
    have oS := (inferInstance : On (New _ HA.n) HA SA HA).st o e3
    refine KW.thaw o ⟨ty, true, cells⟩ oS.1 e4 ?_
    haveI : On (Low H.n) H (fun id => SA id ∧ id ≠ o) HA := On.thaw (fun id hid => by have : id < H.n := hid; have := e3.1; omega)
    refine KW.idx0 rfl rfl rfl rfl rfl rfl rfl rfl rfl (by omega) (by omega) ?_
    refine KW.ldT 1 rfl rfl rfl rfl rfl rfl (bload_at (e7 0 v0 hv0) rfl rfl) ?_
    refine KW.rem rfl rfl rfl rfl rfl rfl (by rw [wr (by omega) (by omega)]; omega) (by omega) ?_
    rw [wr (by omega) (by omega), ← hvd]
    refine KW.idx0 rfl rfl rfl rfl rfl rfl rfl rfl rfl (by omega) (by omega) ?_
    refine KW.st1 1 rfl rfl rfl rfl rfl rfl rfl rfl rfl rfl rfl rfl (by simp only; simp only at e6; omega) ?_
    refine KW.retM1 rfl rfl rfl rfl (fun H1 g => ?_)
    have hb := g.blk (j := 1) rfl
    have el : (lieOf p vals lie).length = vals.length := lie_len
    refine ⟨_, _, by rw [el]; rfl, ?_⟩
    refine mlI_of ⟨by have := e3.1; omega, hb.2⟩ hb.1 rfl (by rw [el]; exact e2) (by rw [el]; simp only [List.length_set]; exact e6) (fun i x hi => ?_)
    rcases lie_at hi with ⟨rfl, rfl⟩ | ⟨h0, h1⟩
    · show (cells.set 0 (Value.int .i64 _))[0]? = _
      rw [List.getElem?_set_self (by simp only at e6; omega)]
    · show (cells.set 0 (Value.int .i64 _))[i]? = _
      rw [List.getElem?_set_ne (by omega)]; exact e7 i x h1
  · have hx : vals = [] := List.eq_nil_of_length_eq_zero (by have k1 : ¬ (0 : Int) < vals.length := k1; omega)
    subst hx
    refine KW.retM1 rfl rfl rfl rfl (fun H1 g => ⟨_, _, rfl, g.made (by omega) hA⟩)
end
end Go.Proofs.Ytijmkfnmdhpakaa.Am
/- The ceremony, plain: its state, what a deed does to it, and what always holds of it. Each holds under its own conditions. -/
set_option linter.unusedVariables false
set_option maxRecDepth 20000
namespace Go.Proofs.Ytijmkfnmdhpakaa.Am
open Go Go.RowKit Go.Proofs
abbrev T_Deed : Type := Int × Int × Int
abbrev T_Purse : Type := Int × List Int × List Int
abbrev T_Seat : Type := T_Purse × T_Purse × Int
abbrev T_Packet : Type := Bool × Int × Int × List Int × List Int
/-- The state of a ceremony. -/
structure Cer where
  ep : Int
  seats : List T_Seat
  oe : Int
  got : List (List Int)
  has : List Bool
  named : List Bool
  wire : List T_Packet
def purse0 : T_Purse := (-1, [], [])
def seat0 : T_Seat := (purse0, purse0, 0)
def cer0 (n : Nat) : Cer := ⟨0, List.replicate n seat0, -1, List.replicate n [], List.replicate n false, List.replicate n false, []⟩
abbrev Cer.seat (c : Cer) (h : Int) : T_Seat := c.seats.getD h.toNat seat0
/-- A packet comes in. -/
def fresh (c : Cer) (e : Int) : Cer := if c.oe < e then ⟨c.ep, c.seats, e, List.replicate c.got.length [], List.replicate c.has.length false, c.named, c.wire⟩ else c
noncomputable def comeO (x : T_Deal) (c : Cer) (p : T_Packet) : Cer :=
  if p.2.2.1 = c.oe ∧ c.named.getD p.2.1.toNat false = false ∧ c.has.getD p.2.1.toNat false = false then
    (if tv (tagsD x p.2.2.1 p.2.1 p.2.2.2.1 = p.2.2.2.2) = true then ⟨c.ep, c.seats, c.oe, c.got.set p.2.1.toNat p.2.2.2.1, c.has.set p.2.1.toNat true, c.named, c.wire⟩
    else ⟨c.ep, c.seats, c.oe, c.got, c.has, c.named.set p.2.1.toNat true, c.wire⟩)
  else c
def comeS (c : Cer) (p : T_Packet) : Cer :=
  if (c.seat p.2.1).1.1 < p.2.2.1 then ⟨c.ep, c.seats.set p.2.1.toNat ((p.2.2.1, p.2.2.2.1, p.2.2.2.2), (c.seat p.2.1).2), c.oe, c.got, c.has, c.named, c.wire⟩ else c
noncomputable def come (x : T_Deal) (c : Cer) (p : T_Packet) : Cer := if p.1 = true then comeO x (fresh c p.2.2.1) p else comeS c p
/-- A packet is sent. -/
def send (c : Cer) (p : T_Packet) : Cer × Int := if c.wire.length = 12 then (c, 3) else (⟨c.ep, c.seats, c.oe, c.got, c.has, c.named, c.wire ++ [p]⟩, 0)
def dropW (c : Cer) (i : Nat) : Cer := ⟨c.ep, c.seats, c.oe, c.got, c.has, c.named, c.wire.eraseIdx i⟩
def setS (c : Cer) (h : Int) (s : T_Seat) : Cer := ⟨c.ep, c.seats.set h.toNat s, c.oe, c.got, c.has, c.named, c.wire⟩
abbrev Cer.pk (c : Cer) (a : Int) : T_Packet := c.wire.getD a.toNat (false, 0, 0, [], [])
/-- What a deed does, and its code. -/
noncomputable def doIt (x : T_Deal) (c : Cer) (d : T_Deed) : Cer × Int :=
  if d.1 = 3 ∨ d.1 = 4 ∨ d.1 = 5 then
    (if (c.wire.length : Int) ≤ d.2.1 then (c, 2) else
      ((if d.1 = 5 then (if d.1 = 4 then c else dropW c d.2.1.toNat) else come x (if d.1 = 4 then c else dropW c d.2.1.toNat) (c.pk d.2.1)), 0))
  else if d.1 = 9 then (if c.ep + 1 = (x.2.2.1.length : Int) then (c, 3) else (⟨c.ep + 1, c.seats, c.oe, c.got, c.has, c.named, c.wire⟩, 0))
  else if x.1.1 ≤ d.2.1 then (c, 2)
  else if d.1 = 1 then send c (false, d.2.1, c.ep, valsD x c.ep d.2.1, tagsD x c.ep d.2.1 (valsD x c.ep d.2.1))
  else if d.1 = 2 then (if (c.seat d.2.1).1.1 = -1 then (c, 4) else send c (true, d.2.1, (c.seat d.2.1).1.1, lieOf x.1.2.2.1 (c.seat d.2.1).1.2.1 (c.seat d.2.1).2.2, (c.seat d.2.1).1.2.2))
  else if d.1 = 6 then (if x.1.2.2.1 ≤ d.2.2 then (c, 2) else (setS c d.2.1 ((c.seat d.2.1).1, (c.seat d.2.1).2.1, d.2.2), 0))
  else if d.1 = 7 then (setS c d.2.1 ((c.seat d.2.1).1, (c.seat d.2.1).1, (c.seat d.2.1).2.2), 0)
  else (setS c d.2.1 ((c.seat d.2.1).2.1, (c.seat d.2.1).2.1, (c.seat d.2.1).2.2), 0)
noncomputable def codes (x : T_Deal) (c : Cer) : List T_Deed → List Int
  | [] => []
  | d :: ds => (doIt x c d).2 :: codes x (doIt x c d).1 ds
/-- A deed that is valid. -/
def cntD (k : Int) : Int := if k = 6 then 2 else if k = 9 then 0 else 1
def DeedP (d : T_Deed) : Prop := (1 ≤ d.1 ∧ d.1 ≤ 9) ∧ (0 ≤ d.2.1 ∧ d.2.1 ≤ 999) ∧ (0 ≤ d.2.2 ∧ d.2.2 ≤ 999) ∧ (0 < cntD d.1 ∨ d.2.1 = 0) ∧ (1 < cntD d.1 ∨ d.2.2 = 0)
/-- Values and tags of a holder are as many as its rows, and elements. -/
structure RowsH (x : T_Deal) (h : Int) (vs ts : List Int) : Prop where
  vl : vs.length = (rowsOf x.1.2.1 h).length
  tl : ts.length = (rowsOf x.1.2.1 h).length
  ve : Elems x.1.2.2.1 vs
def EpOk (x : T_Deal) (e : Int) : Prop := 0 ≤ e ∧ e < (x.2.2.1.length : Int)
def HoOk (x : T_Deal) (h : Int) : Prop := 0 ≤ h ∧ h < x.1.1
structure PkOk (x : T_Deal) (p : T_Packet) : Prop where
  ho : HoOk x p.2.1
  ep : EpOk x p.2.2.1
  rw : RowsH x p.2.1 p.2.2.2.1 p.2.2.2.2
def PuOk (x : T_Deal) (h : Int) (p : T_Purse) : Prop := (p.1 = -1 ∧ p.2.1 = [] ∧ p.2.2 = []) ∨ (EpOk x p.1 ∧ RowsH x h p.2.1 p.2.2)
structure SeOk (x : T_Deal) (h : Int) (s : T_Seat) : Prop where
  pu : PuOk x h s.1
  sa : PuOk x h s.2.1
  lie : 0 ≤ s.2.2 ∧ s.2.2 ≤ x.1.2.2.1 - 1
structure CerOk (x : T_Deal) (c : Cer) : Prop where
  ep : EpOk x c.ep
  sl : (c.seats.length : Int) = x.1.1
  se : ∀ (j : Nat) s, c.seats[j]? = some s → SeOk x j s
  oe : c.oe = -1 ∨ EpOk x c.oe
  gl : c.got.length = c.seats.length
  hl : c.has.length = c.seats.length
  nl : c.named.length = c.seats.length
  go : ∀ (j : Nat) g, c.got[j]? = some g → g = [] ∧ c.has.getD j false = false ∨ g.length = (rowsOf x.1.2.1 j).length ∧ Elems x.1.2.2.1 g
  wl : c.wire.length ≤ 12
  wi : ∀ p ∈ c.wire, PkOk x p
theorem getD_mem {α : Type} {l : List α} {i : Nat} {d : α} (h : i < l.length) : l[i]? = some (l.getD i d) := by
  rw [List.getD_eq_getElem?_getD, List.getElem?_eq_getElem h]; rfl
section
variable {x : T_Deal} {c : Cer}
theorem CerOk.seat (h : CerOk x c) {a : Int} (ha : HoOk x a) : c.seats[a.toNat]? = some (c.seat a) ∧ SeOk x a (c.seat a) := by
  have h1 := h.sl
  have h2 := ha.1
  have h3 := ha.2
  have h4 : c.seats[a.toNat]? = some (c.seat a) := getD_mem (by omega)
  have h5 := h.se _ _ h4
  rw [show ((a.toNat : Nat) : Int) = a from by omega] at h5
  exact ⟨h4, h5⟩
theorem CerOk.setS (h : CerOk x c) {a : Int} (ha : HoOk x a) {s : T_Seat} (hs : SeOk x a s) : CerOk x (setS c a s) := by
  have h2 := ha.1
  refine ⟨h.ep, by simp [Am.setS, h.sl], fun j t hj => ?_, h.oe, by simp [Am.setS, h.gl], by simp [Am.setS, h.hl], by simp [Am.setS, h.nl], h.go, h.wl, h.wi⟩
  simp only [Am.setS] at hj
  rw [List.getElem?_set] at hj
  split at hj
  · rename_i e
    split at hj
    · cases hj
      rw [← e, show ((a.toNat : Nat) : Int) = a from by omega]
      exact hs
    · cases hj
  · exact h.se j t hj
theorem CerOk.send (h : CerOk x c) {p : T_Packet} (hp : PkOk x p) : CerOk x (send c p).1 := by
  unfold Am.send
  split
  · exact h
  · rename_i hw
    have := h.wl
    refine ⟨h.ep, h.sl, h.se, h.oe, h.gl, h.hl, h.nl, h.go, by simp; omega, fun q hq => ?_⟩
    rcases List.mem_append.1 hq with hq | hq
    · exact h.wi q hq
    · rw [List.mem_singleton.1 hq]; exact hp
theorem CerOk.drop (h : CerOk x c) (i : Nat) : CerOk x (dropW c i) := by
  refine ⟨h.ep, h.sl, h.se, h.oe, h.gl, h.hl, h.nl, h.go, ?_, fun q hq => h.wi q (List.mem_of_mem_eraseIdx hq)⟩
  have := List.length_eraseIdx_le c.wire i
  have := h.wl
  show (c.wire.eraseIdx i).length ≤ 12
  omega
theorem CerOk.pk (h : CerOk x c) {a : Int} (h0 : 0 ≤ a) (h1 : a < (c.wire.length : Int)) : c.wire[a.toNat]? = some (c.pk a) ∧ PkOk x (c.pk a) := by
  have h4 : c.wire[a.toNat]? = some (c.pk a) := getD_mem (by omega)
  exact ⟨h4, h.wi _ (List.mem_of_getElem? h4)⟩
theorem CerOk.fresh (h : CerOk x c) {e : Int} (he : EpOk x e) : CerOk x (fresh c e) := by
  unfold Am.fresh
  split
  · refine ⟨h.ep, h.sl, h.se, .inr he, by simp [h.gl], by simp [h.hl], h.nl, fun j g hj => ?_, h.wl, h.wi⟩
    refine .inl ⟨?_, ?_⟩
    · exact List.eq_of_mem_replicate (List.mem_of_getElem? hj)
    · simp only [List.getD_eq_getElem?_getD, List.getElem?_replicate]
      split <;> rfl
  · exact h
theorem CerOk.comeO (h : CerOk x c) {p : T_Packet} (hp : PkOk x p) : CerOk x (comeO x c p) := by
  unfold Am.comeO
  split
  · split
    · refine ⟨h.ep, h.sl, h.se, h.oe, by simp [h.gl], by simp [h.hl], h.nl, fun j g hj => ?_, h.wl, h.wi⟩
      simp only at hj
      rw [List.getElem?_set] at hj
      split at hj
      · rename_i e
        split at hj
        · cases hj
          have h1 := hp.ho.1
          rw [← e, show ((p.2.1.toNat : Nat) : Int) = p.2.1 from by omega]
          exact .inr ⟨hp.rw.vl, hp.rw.ve⟩
        · cases hj
      · rename_i e
        rcases h.go j g hj with ⟨h1, h2⟩ | h1
        · refine .inl ⟨h1, ?_⟩
          simp only [List.getD_eq_getElem?_getD] at h2 ⊢
          rw [List.getElem?_set_ne e]
          exact h2
        · exact .inr h1
    · exact ⟨h.ep, h.sl, h.se, h.oe, h.gl, h.hl, by simp [h.nl], h.go, h.wl, h.wi⟩
  · exact h
theorem CerOk.comeS (h : CerOk x c) {p : T_Packet} (hp : PkOk x p) : CerOk x (comeS c p) := by
  unfold Am.comeS
  split
  · have hs := (h.seat hp.ho).2
    exact h.setS hp.ho (s := ((p.2.2.1, p.2.2.2.1, p.2.2.2.2), (c.seat p.2.1).2)) ⟨.inr ⟨hp.ep, hp.rw⟩, hs.sa, hs.lie⟩
  · exact h
theorem CerOk.come (h : CerOk x c) {p : T_Packet} (hp : PkOk x p) : CerOk x (come x c p) := by
  unfold Am.come
  split
  · exact (h.fresh hp.ep).comeO hp
  · exact h.comeS hp
theorem HoOk.at (hd : DealOk x) {e a : Int} (ha : HoOk x a) (he : EpOk x e) : ∃ E J, DealAt x e a E J := by
  refine codeD_ok ?_
  unfold codeD
  rw [tv_true hd, if_pos rfl, if_pos ⟨⟨he.1, by have := he.2; omega⟩, ha.1, by have := ha.2; omega⟩]
theorem DealOk.prime (hd : DealOk x) : PrimeP x.1.2.2.1 := hd.sch.mat.pr
theorem RowsH.given (hd : DealOk x) {e a : Int} : RowsH x a (valsD x e a) (tagsD x e a (valsD x e a)) :=
  ⟨vals_len, by simp [tagsD, tagsOf], vals_in hd.prime⟩
theorem CerOk.doIt (hd : DealOk x) {d : T_Deed} (hp : DeedP d) (h : CerOk x c) : CerOk x (doIt x c d).1 := by
  obtain ⟨h1, h2, h3, h4, h5⟩ := hp
  unfold Am.doIt
  split
  · split
    · exact h
    · have hpk := (h.pk (a := d.2.1) h2.1 (by omega)).2
      have hc : CerOk x (if d.1 = 4 then c else dropW c d.2.1.toNat) := by
        split
        · exact h
        · exact h.drop _
      show CerOk x (if d.1 = 5 then _ else _)
      split
      · exact hc
      · exact hc.come hpk
  split
  · split
    · exact h
    · rename_i he
      have := h.ep.1
      have := h.ep.2
      exact ⟨⟨by show 0 ≤ c.ep + 1; omega, by show c.ep + 1 < _; omega⟩, h.sl, h.se, h.oe, h.gl, h.hl, h.nl, h.go, h.wl, h.wi⟩
  split
  · exact h
  rename_i hr
  have ha : HoOk x d.2.1 := ⟨h2.1, by omega⟩
  have hs := (h.seat ha).2
  split
  · exact h.send ⟨ha, h.ep, RowsH.given hd⟩
  split
  · split
    · exact h
    · rename_i hne
      refine h.send ⟨ha, ?_, ?_⟩
      · exact (hs.pu.resolve_left (fun q => hne q.1)).1
      · have := (hs.pu.resolve_left (fun q => hne q.1)).2
        exact ⟨by rw [lie_len]; exact this.vl, this.tl, lie_in hd.prime this.ve⟩
  split
  · split
    · exact h
    · exact h.setS ha (s := ((c.seat d.2.1).1, (c.seat d.2.1).2.1, d.2.2)) ⟨hs.pu, hs.sa, h3.1, by show d.2.2 ≤ _; omega⟩
  split
  · exact h.setS ha (s := ((c.seat d.2.1).1, (c.seat d.2.1).1, (c.seat d.2.1).2.2)) ⟨hs.pu, hs.pu, hs.lie⟩
  · exact h.setS ha (s := ((c.seat d.2.1).2.1, (c.seat d.2.1).2.1, (c.seat d.2.1).2.2)) ⟨hs.sa, hs.sa, hs.lie⟩
theorem CerOk.start (hd : DealOk x) : CerOk x (cer0 x.1.1.toNat) := by
  have h7 := hd.sch.h7
  have hb := hd.bl
  have h2 := hd.prime.1
  refine ⟨⟨Int.le_refl _, by show (0 : Int) < _; omega⟩, by have := hd.sch.h1; simp [cer0]; omega, fun j s hj => ?_, .inl rfl, by simp [cer0], by simp [cer0], by simp [cer0], fun j g hj => ?_, by simp [cer0], fun p hp => by simp [cer0] at hp⟩
  · rw [List.eq_of_mem_replicate (List.mem_of_getElem? hj)]
    exact ⟨.inl ⟨rfl, rfl, rfl⟩, .inl ⟨rfl, rfl, rfl⟩, by show (0 : Int) ≤ 0; omega, by show (0 : Int) ≤ _; omega⟩
  · refine .inl ⟨List.eq_of_mem_replicate (List.mem_of_getElem? hj), ?_⟩
    simp only [cer0, List.getD_eq_getElem?_getD, List.getElem?_replicate]
    split <;> rfl
end
end Go.Proofs.Ytijmkfnmdhpakaa.Am
/- The ceremony in memory: blocks of elements, a hall and what it leads to. For every program. No condition beyond each theorem's own. -/
set_option linter.unusedSimpArgs false
set_option linter.unusedVariables false
namespace Go.Proofs.Ytijmkfnmdhpakaa.Am
open Go Go.RowKit
/-- Cells bear a list's elements. -/
def Cl {α : Type} (d : Kn α) (X : Ids) (A : AH) (xs : List α) (cs : List Value) : Prop := xs.length * d.es ≤ cs.length ∧ ∀ (i : Nat) x, xs[i]? = some x → d.R X A x ((cs.drop (i * d.es)).take d.es)
section
variable {α : Type} {d : Kn α} {X X' S : Ids} {A A' : AH} {xs : List α} {cs : List Value}
theorem Cl.mv (h : Cl d X A xs cs) (hA : ∀ id, X id → A'.m id = A.m id) (hX : ∀ id, X id → X' id) : Cl d X' A' xs cs :=
  ⟨h.1, fun i x hx => d.more hX (d.same hA (h.2 i x hx))⟩
theorem Cl.nil (d : Kn α) (X : Ids) (A : AH) (cs : List Value) : Cl d X A [] cs := ⟨by simp, fun i x h => by simp at h⟩
theorem Cl.sl {id c : Nat} {b : Blk} (h : Cl d X A xs cs) (hS : S id) (hm : A.m id = some b) (hb : b.cells = cs) (hX : ∀ id, X id → S id) (hc : xs.length ≤ c) : d.Sl S A (.slice (some ⟨id, 0, some d.es⟩) xs.length c) xs :=
  .inr ⟨id, 0, c, b, rfl, hc, hS, hm, by rw [hb, Nat.zero_add]; exact h.1, fun i x hx => by rw [hb, Nat.zero_add]; exact d.more hX (h.2 i x hx)⟩
theorem seg_splice {l ys : List Value} {k q n : Nat} (hk : k + ys.length ≤ l.length) (h : q + n ≤ k ∨ k + ys.length ≤ q) : ((splice l k ys).drop q).take n = (l.drop q).take n := by
  refine List.ext_getElem? fun j => ?_
  rw [List.getElem?_take, List.getElem?_take]
  split
  · rename_i hj
    rw [List.getElem?_drop, List.getElem?_drop, splice_get l k ys hk]
    rcases h with h | h
    · rw [if_pos (by omega)]
    · rw [if_neg (by omega), if_neg (by omega)]
  · rfl
theorem seg_in {l ys : List Value} {k : Nat} (hk : k + ys.length ≤ l.length) : ((splice l k ys).drop k).take ys.length = ys := by
  refine List.ext_getElem? fun j => ?_
  rw [List.getElem?_take]
  by_cases hj : j < ys.length
  · rw [if_pos hj, List.getElem?_drop, splice_get l k ys hk, if_neg (by omega), if_pos (by omega)]
    congr 1
    omega
  · rw [if_neg hj, List.getElem?_eq_none (by omega)]
theorem mul_le' {i n e : Nat} (h : i < n) : i * e + e ≤ n * e := by rw [← Nat.succ_mul]; exact Nat.mul_le_mul_right _ h
/-- An element is written. -/
theorem Cl.set {i : Nat} {y : α} {ys : List Value} (h : Cl d X A xs cs) (hi : i < xs.length) (hy : d.R X A y ys) : Cl d X A (xs.set i y) (splice cs (i * d.es) ys) ∧ (splice cs (i * d.es) ys).length = cs.length := by
  have hl := d.len hy
  have h1 := mul_le' (e := d.es) hi
  have hk : i * d.es + ys.length ≤ cs.length := by have := h.1; omega
  have hlen := splice_length cs (i * d.es) ys hk
  refine ⟨⟨by rw [hlen, List.length_set]; exact h.1, fun j x hx => ?_⟩, hlen⟩
  rw [List.getElem?_set] at hx
  split at hx
  · rename_i e
    subst e
    cases hx
    have := seg_in hk
    rw [hl] at this
    rw [this]
    exact hy
  · rename_i e
    rw [seg_splice hk]
    · exact h.2 j x hx
    · rcases Nat.lt_or_gt_of_ne e with h2 | h2
      · right; have := mul_le' (e := d.es) h2; omega
      · left; have := mul_le' (e := d.es) h2; omega
/-- A part of an element is written. -/
theorem Cl.part {i : Nat} {x y : α} {a b b' r : List Value} (h : Cl d X A xs cs) (hx : xs[i]? = some x) (hseg : (cs.drop (i * d.es)).take d.es = a ++ (b ++ r)) (hb : b'.length = b.length) (hXX : ∀ id, X id → X' id) (hy : d.R X' A y (a ++ (b' ++ r))) : Cl d X' A (xs.set i y) (splice cs (i * d.es + a.length) b') ∧ (splice cs (i * d.es + a.length) b').length = cs.length := by
  have hi := (List.getElem?_eq_some_iff.1 hx).1
  have hl := d.len hy
  have h1 := mul_le' (e := d.es) hi
  have h0 := h.1
  simp only [List.length_append] at hl
  have hk : i * d.es + (a ++ (b' ++ r)).length ≤ cs.length := by simp only [List.length_append]; omega
  have hk2 : i * d.es + a.length + b'.length ≤ cs.length := by omega
  have e : splice cs (i * d.es + a.length) b' = splice cs (i * d.es) (a ++ (b' ++ r)) := by
    refine List.ext_getElem? fun j => ?_
    rw [splice_get _ _ _ hk, splice_get _ _ _ hk2]
    simp only [List.length_append]
    by_cases c1 : j < i * d.es
    · rw [if_pos (by omega), if_pos c1]
    · rw [if_neg c1]
      by_cases c2 : j < i * d.es + (a.length + (b'.length + r.length))
      · rw [if_pos c2]
        have old : ∀ (v : Value), (a ++ (b ++ r))[j - i * d.es]? = some v → cs[j]? = some v := fun v hv => by
          have := seg_at hseg hv
          rwa [show i * d.es + (j - i * d.es) = j by omega] at this
        by_cases c3 : j < i * d.es + a.length
        · rw [if_pos c3, List.getElem?_append_left (by omega)]
          have hg : a[j - i * d.es]? = some (a[j - i * d.es]'(by omega)) := List.getElem?_eq_getElem (by omega)
          rw [hg]
          exact old _ (by rw [List.getElem?_append_left (by omega)]; exact hg)
        · rw [if_neg c3]
          by_cases c4 : j < i * d.es + a.length + b'.length
          · rw [if_pos c4, List.getElem?_append_right (by omega), List.getElem?_append_left (by omega)]
            congr 1; omega
          · rw [if_neg c4, List.getElem?_append_right (by omega), List.getElem?_append_right (by omega)]
            have hg : r[j - i * d.es - a.length - b'.length]? = some (r[j - i * d.es - a.length - b'.length]'(by omega)) := List.getElem?_eq_getElem (by omega)
            rw [hg]
            exact old _ (by rw [List.getElem?_append_right (by omega), List.getElem?_append_right (by omega), ← hb]; exact hg)
      · rw [if_neg c2, if_neg (by omega), if_neg (by omega)]
  rw [e]
  exact (h.mv (fun _ _ => rfl) hXX).set hi hy
/-- An element more. -/
theorem Cl.snoc {y : α} {ys : List Value} (h : Cl d X A xs cs) (hy : d.R X A y ys) : Cl d X A (xs ++ [y]) ((cs.drop 0).take (xs.length * d.es) ++ ys) := by
  have hl := d.len hy
  have h1 := h.1
  have ht : ((cs.drop 0).take (xs.length * d.es)).length = xs.length * d.es := by rw [List.length_take, List.drop_zero]; omega
  refine ⟨by rw [List.length_append, List.length_append, List.length_singleton, ht, hl, Nat.add_mul]; omega, fun j x hx => ?_⟩
  by_cases hj : j < xs.length
  · rw [List.getElem?_append_left hj] at hx
    have h2 := mul_le' (e := d.es) hj
    have e : ((((cs.drop 0).take (xs.length * d.es)) ++ ys).drop (j * d.es)).take d.es = (cs.drop (j * d.es)).take d.es := by
      rw [List.drop_append_of_le_length (by omega), List.take_append_of_le_length (by rw [List.length_drop]; omega), List.drop_zero, List.drop_take, List.take_take]
      congr 1
      omega
    rw [e]
    exact h.2 j x hx
  · have hjl := (List.getElem?_eq_some_iff.1 hx).1
    simp at hjl
    obtain rfl : j = xs.length := by omega
    simp at hx
    subst hx
    have e : ((((cs.drop 0).take (xs.length * d.es)) ++ ys).drop (xs.length * d.es)).take d.es = ys := by
      have e1 := List.drop_left (l₁ := (cs.drop 0).take (xs.length * d.es)) (l₂ := ys)
      rw [ht] at e1
      rw [e1, List.take_of_length_le (by omega)]
    rw [e]
    exact hy
theorem Cl.one {y : α} {ys : List Value} (hy : d.R X A y ys) : Cl d X A [y] ys := by
  have hl := d.len hy
  refine ⟨by simp [hl], fun j x hx => ?_⟩
  cases j with
  | zero => cases hx; rw [Nat.zero_mul, List.drop_zero, List.take_of_length_le (by omega)]; exact hy
  | succ j => simp at hx
end
abbrev KBo : Kn Bool := Kn.bool
abbrev K_Purse : Kn T_Purse := Kn.pair KI (Kn.pair K_Int64S K_Int64S)
abbrev K_Seat : Kn T_Seat := Kn.pair K_Purse (Kn.pair K_Purse KI)
abbrev K_Packet : Kn T_Packet := Kn.pair KBo (Kn.pair KI (Kn.pair KI (Kn.pair K_Int64S K_Int64S)))
section
variable {S X : Ids} {A : AH} {cs : List Value}
end
/-- The types of a hall's blocks. -/
structure HT where
  h : TypeId
  s : TypeId
  g : TypeId
  b : TypeId
  p : TypeId
/-- Where a hall's blocks lie; the wire's, with its room, if there is one. -/
structure HD where
  hid : Nat
  sid : Nat
  gid : Nat
  bid : Nat
  nid : Nat
  w : Option (Nat × Nat)
def HD.L (d : HD) : List Nat := [d.hid, d.sid, d.gid, d.bid, d.nid] ++ (match d.w with | some (i, _) => [i] | none => [])
def HD.W (d : HD) : Ids := fun id => id ∈ d.L
def HD.wv (d : HD) (n : Nat) : Value := match d.w with | some (i, c) => .slice (some ⟨i, 0, some 5⟩) n c | none => .slice none 0 0
/-- The hall's cells. -/
def HD.cells (d : HD) (pre post : List Value) (c : Cer) : List Value :=
  pre ++ ([.int .i64 c.ep, .slice (some ⟨d.sid, 0, some 7⟩) c.seats.length c.seats.length, .int .i64 c.oe, .slice (some ⟨d.gid, 0, some 1⟩) c.got.length c.got.length, .slice (some ⟨d.bid, 0, some 1⟩) c.has.length c.has.length, .slice (some ⟨d.nid, 0, some 1⟩) c.named.length c.named.length, d.wv c.wire.length] ++ post)
def SeatsB (t : HT) (S : Ids) (A : AH) (X : Ids) (id : Nat) (xs : List T_Seat) : Prop := S id ∧ ∃ cs, A.m id = some ⟨t.s, true, cs⟩ ∧ Cl K_Seat X A xs cs
def GotB (t : HT) (S : Ids) (A : AH) (X : Ids) (id : Nat) (xs : List (List Int)) : Prop := S id ∧ ∃ cs, A.m id = some ⟨t.g, true, cs⟩ ∧ cs.length = xs.length ∧ Cl KI.sl X A xs cs
def BoolB (t : HT) (S : Ids) (A : AH) (id : Nat) (xs : List Bool) : Prop := S id ∧ A.m id = some ⟨t.b, true, xs.map Value.bool⟩
def WireB (t : HT) (S : Ids) (A : AH) (X : Ids) : Option (Nat × Nat) → List T_Packet → Prop
  | none, xs => xs = []
  | some (i, q), xs => S i ∧ xs.length ≤ q ∧ ∃ cs, A.m i = some ⟨t.p, true, cs⟩ ∧ Cl K_Packet X A xs cs
/-- A ceremony stands in memory, its rows in X. -/
structure Hl (t : HT) (pre post : List Value) (S : Ids) (A : AH) (X : Ids) (d : HD) (c : Cer) : Prop where
  sx : ∀ id, X id → S id
  hall : S d.hid ∧ A.m d.hid = some ⟨t.h, true, d.cells pre post c⟩
  seats : SeatsB t S A X d.sid c.seats
  got : GotB t S A X d.gid c.got
  has : BoolB t S A d.bid c.has
  named : BoolB t S A d.nid c.named
  wire : WireB t S A X d.w c.wire
  dist : d.L.Nodup
  out : ∀ id, X id → ¬ d.W id
section
variable {t : HT} {S S' X X' : Ids} {A A' : AH} {i : Nat}
theorem SeatsB.mv {xs : List T_Seat} (h : SeatsB t S A X i xs) (hi : S' i ∧ A'.m i = A.m i) (hX : ∀ id, X id → A'.m id = A.m id) (hXX : ∀ id, X id → X' id) : SeatsB t S' A' X' i xs := by
  obtain ⟨_, cs, s1, s2⟩ := h
  exact ⟨hi.1, cs, hi.2.trans s1, s2.mv hX hXX⟩
theorem GotB.mv {xs : List (List Int)} (h : GotB t S A X i xs) (hi : S' i ∧ A'.m i = A.m i) (hX : ∀ id, X id → A'.m id = A.m id) (hXX : ∀ id, X id → X' id) : GotB t S' A' X' i xs := by
  obtain ⟨_, cs, s1, s2, s3⟩ := h
  exact ⟨hi.1, cs, hi.2.trans s1, s2, s3.mv hX hXX⟩
theorem BoolB.mv {xs : List Bool} (h : BoolB t S A i xs) (hi : S' i ∧ A'.m i = A.m i) : BoolB t S' A' i xs := ⟨hi.1, hi.2.trans h.2⟩
theorem WireB.mv {w : Option (Nat × Nat)} {xs : List T_Packet} (h : WireB t S A X w xs) (hi : ∀ i q, w = some (i, q) → S' i ∧ A'.m i = A.m i) (hX : ∀ id, X id → A'.m id = A.m id) (hXX : ∀ id, X id → X' id) : WireB t S' A' X' w xs := by
  match w, h with
  | none, h => exact h
  | some (i, q), h =>
    obtain ⟨_, w1, cs, w2, w3⟩ := h
    exact ⟨(hi i q rfl).1, w1, cs, (hi i q rfl).2.trans w2, w3.mv hX hXX⟩
end
section
variable {t : HT} {pre post : List Value} {S S' X X' : Ids} {A A' : AH} {d : HD} {c : Cer}
theorem HD.Win {d : HD} : d.W d.hid ∧ d.W d.sid ∧ d.W d.gid ∧ d.W d.bid ∧ d.W d.nid ∧ ∀ i q, d.w = some (i, q) → d.W i := by
  refine ⟨by simp [HD.W, HD.L], by simp [HD.W, HD.L], by simp [HD.W, HD.L], by simp [HD.W, HD.L], by simp [HD.W, HD.L], fun i q e => by simp [HD.W, HD.L, e]⟩
/-- What S and A speak of goes over. -/
theorem Hl.mv (h : Hl t pre post S A X d c) (hA : ∀ id, (d.W id ∨ X id) → S' id ∧ A'.m id = A.m id) : Hl t pre post S' A' X d c := by
  obtain ⟨l1, l2, l3, l4, l5, l6⟩ := HD.Win (d := d)
  have L : ∀ id, d.W id → S' id ∧ A'.m id = A.m id := fun id hid => hA id (.inl hid)
  have hX : ∀ id, X id → A'.m id = A.m id := fun id hid => (hA id (.inr hid)).2
  exact ⟨fun id hid => (hA id (.inr hid)).1, ⟨(L _ l1).1, (L _ l1).2.trans h.hall.2⟩, h.seats.mv (L _ l2) hX (fun _ p => p), h.got.mv (L _ l3) hX (fun _ p => p), h.has.mv (L _ l4), h.named.mv (L _ l5), h.wire.mv (fun i q e => L _ (l6 i q e)) hX (fun _ p => p), h.dist, h.out⟩
theorem Hl.w (h : Hl t pre post S A X d c) : ∀ id, d.W id → S id := fun id hid => by
  have hw := h.wire
  have hid : id ∈ d.L := hid
  simp only [HD.L, List.mem_append, List.mem_cons, List.not_mem_nil, or_false] at hid
  rcases hid with (e | e | e | e | e) | e
  · rw [e]; exact h.hall.1
  · rw [e]; exact h.seats.1
  · rw [e]; exact h.got.1
  · rw [e]; exact h.has.1
  · rw [e]; exact h.named.1
  · split at e
    · rename_i i q e2
      rw [e2] at hw
      rw [List.mem_singleton.1 e]
      exact hw.1
    · simp at e
theorem Hl.on [o : On S A S' A'] (h : Hl t pre post S A X d c) : Hl t pre post S' A' X d c := h.mv fun id hid => o.st id (hid.elim (h.w id) (h.sx id))
end
end Go.Proofs.Ytijmkfnmdhpakaa.Am
/- Contracts: rows copied. Each holds under its own conditions. -/
set_option linter.unusedVariables false
set_option linter.unusedSimpArgs false
set_option maxRecDepth 20000
namespace Go.Proofs.Ytijmkfnmdhpakaa.Am
open Go Go.RowKit Go.Proofs Go.Proofs.Ytijmkfnmdhpakaa.Pl
theorem RowsB.on {S S' V : Ids} {A A' : AH} {rows : List (List Int)} {cs : List Value} (h : RowsB KI.ml S A V rows cs) (hs : ∀ id, V id → S' id ∧ A'.m id = A.m id) : RowsB KI.ml S' A' V rows cs := by
  obtain ⟨W, h1, h2, h3⟩ := h.rows
  refine ⟨h.len, fun id hid => (hs id hid).1, W, h1, h2, fun j x hx => ?_⟩
  obtain ⟨v, h4, h5⟩ := h3 j x hx
  exact ⟨v, h4, KI.ml.same (fun id hid => (hs id (h1 j id hid)).2) h5⟩
section
variable {S : Ids} {H0 : AH}
end
end Go.Proofs.Ytijmkfnmdhpakaa.Am
/- Contract: the echelon of the program. It holds under its own conditions. -/
set_option linter.unusedVariables false
set_option linter.unusedSimpArgs false
set_option maxRecDepth 20000
namespace Go.Proofs.Ytijmkfnmdhpakaa.Am
open Go Go.RowKit Go.Proofs Go.Proofs.Ytijmkfnmdhpakaa.Pl
structure EcS where
  c : Nat
  S : Ids
  A : AH
  cs : List Value
  po : Nat
structure EcI (p : Int) (k : Nat) (L : List (List Int)) (H : AH) (V : Ids) (s : EcS) : Prop where
  le : s.c ≤ k
  old : St (Low H.n) H s.S s.A
  b : RowsB KI.ml s.S s.A V (ech p L s.c).1 s.cs
section
variable {S : Ids} {H0 : AH}
end
end Go.Proofs.Ytijmkfnmdhpakaa.Am
/- Contracts: the rank of the program. Each holds under its own conditions. -/
set_option linter.unusedVariables false
set_option linter.unusedSimpArgs false
set_option maxRecDepth 20000
namespace Go.Proofs.Ytijmkfnmdhpakaa.Am
open Go Go.RowKit Go.Proofs Go.Proofs.Ytijmkfnmdhpakaa.Pl
theorem OkMat.rect {p c : Int} {L : List (List Int)} (h : OkMat p c L) {k : Nat} (hk : c = k) : Rect p k L := fun r hr => by
  have h1 := h.row r hr
  exact ⟨by have := h1.1; omega, fun x hx => by have := h1.2 x hx; omega⟩
section
variable {S : Ids} {H0 : AH}
end
end Go.Proofs.Ytijmkfnmdhpakaa.Am
/- Contract: a matrix copied by the reference. It holds under its own conditions. -/
set_option linter.unusedVariables false
set_option linter.unusedSimpArgs false
set_option maxRecDepth 20000
namespace Go.Proofs.Ytijmkfnmdhpakaa.Am
open Go Go.RowKit Go.Proofs Go.Proofs.Ytijmkfnmdhpakaa.Pl
theorem built_Matrix2 (p c : Int) : Try.prog.built 67 [(0, .int .i64 p), (1, .int .i64 c)] = some #[.int .i64 p, .int .i64 c, .slice none 0 0] := by kernel_rfl
structure CpS where
  i : Nat
  S : Ids
  A : AH
  V : Ids
  cs : List Value
  l : Value
  tail : List Var
structure CpI (xs : List (List Int)) (H HB : AH) (SB : Ids) (s : CpS) : Prop where
  rw : RwI (fun x => x) xs H SB HB ⟨s.i, s.S, s.A, s.V, s.cs, 0⟩
  form : (s.i = 0 ∧ s.l = .slice none 0 0 ∧ s.tail = [] ∧ s.cs = []) ∨ (0 < s.i ∧ ∃ o, s.l = .slice (some ⟨o, 0, some 1⟩) s.i s.i ∧ s.tail = [(o, ⟨28, true, s.cs⟩)])
section
variable {S : Ids} {H0 : AH}
end
end Go.Proofs.Ytijmkfnmdhpakaa.Am
/- Contract: the echelon of the reference. It holds under its own conditions. -/
set_option linter.unusedVariables false
set_option linter.unusedSimpArgs false
set_option maxRecDepth 20000
namespace Go.Proofs.Ytijmkfnmdhpakaa.Am
open Go Go.RowKit Go.Proofs Go.Proofs.Ytijmkfnmdhpakaa.Pl
section
variable {S : Ids} {H0 : AH}
end
end Go.Proofs.Ytijmkfnmdhpakaa.Am
/- Contracts: the rank of the reference; what both answer. Each holds under its own conditions. -/
set_option linter.unusedVariables false
set_option linter.unusedSimpArgs false
set_option maxRecDepth 20000
namespace Go.Proofs.Ytijmkfnmdhpakaa.Am
open Go Go.RowKit Go.Proofs Go.Proofs.Ytijmkfnmdhpakaa.Pl
section
variable {S : Ids} {H0 : AH}
end
end Go.Proofs.Ytijmkfnmdhpakaa.Am
/- Contracts: rows chosen by indices; the matrix of what a group holds. Each holds under its own conditions. -/
set_option linter.unusedVariables false
set_option linter.unusedSimpArgs false
set_option maxRecDepth 20000
namespace Go.Proofs.Ytijmkfnmdhpakaa.Am
open Go Go.RowKit Go.Proofs Go.Proofs.Ytijmkfnmdhpakaa.Pl
/-- A matrix that has been made, to be read. -/
def MkMx (p c : Int) (xs : List (List Int)) (n : Nat) (v : Value) (H1 : AH) : Prop := ∃ a m, v = .agg #[.int .i64 p, .int .i64 c, .slice a xs.length m] ∧ KI.sl.Sl (New n H1.n) H1 (.slice a xs.length m) xs
structure CqI {α : Type} (f : α → List Int) (xs : List α) (H HB : AH) (SB : Ids) (s : CpS) : Prop where
  rw : RwI f xs H SB HB ⟨s.i, s.S, s.A, s.V, s.cs, 0⟩
  form : (s.i = 0 ∧ s.l = .slice none 0 0 ∧ s.tail = [] ∧ s.cs = []) ∨ (0 < s.i ∧ ∃ o, s.l = .slice (some ⟨o, 0, some 1⟩) s.i s.i ∧ s.tail = [(o, ⟨28, true, s.cs⟩)])
section
variable {S : Ids} {H0 : AH}
end
end Go.Proofs.Ytijmkfnmdhpakaa.Am
/- Contracts: the matrix of what a group holds, of the program and of the reference. Each holds under its own conditions. -/
set_option linter.unusedVariables false
set_option linter.unusedSimpArgs false
set_option maxRecDepth 20000
namespace Go.Proofs.Ytijmkfnmdhpakaa.Am
open Go Go.RowKit Go.Proofs Go.Proofs.Ytijmkfnmdhpakaa.Pl
theorem rect_sml {p : Int} {k : Nat} {L : List (List Int)} (hL : Rect p k L) (hk : k ≤ 1000) (hl : L.length ≤ 1000) : B_Int64SS L := by
  have h : ∀ M : List (List Int), (∀ r ∈ M, r.length = k) → sum (lens M) = M.length * k := by
    intro M
    induction M with
    | nil => intro _; simp [lens, sum]
    | cons x M ih =>
      intro hM
      have h1 := ih (fun r hr => hM r (List.mem_cons_of_mem _ hr))
      have h2 := hM x List.mem_cons_self
      simp only [lens, List.map_cons, sum] at h1 ⊢
      rw [h1, h2, List.length_cons, Nat.add_mul]
      omega
  have h1 := h L (fun r hr => (hL r hr).1)
  have h2 : L.length * k ≤ 1000 * 1000 := Nat.mul_le_mul hl hk
  exact ⟨by omega, by rw [h1]; omega⟩
section
variable {S : Ids} {H0 : AH}
end
end Go.Proofs.Ytijmkfnmdhpakaa.Am
/- Contracts: the columns of a matrix, of the program and of the reference. Each holds under its own conditions. -/
set_option linter.unusedVariables false
set_option linter.unusedSimpArgs false
set_option maxRecDepth 20000
namespace Go.Proofs.Ytijmkfnmdhpakaa.Am
open Go Go.RowKit Go.Proofs Go.Proofs.Ytijmkfnmdhpakaa.Pl
section
variable {S : Ids} {H0 : AH}
end
end Go.Proofs.Ytijmkfnmdhpakaa.Am
/- Contracts: the columns of a matrix of the reference; products of matrices. Each holds under its own conditions. -/
set_option linter.unusedVariables false
set_option linter.unusedSimpArgs false
set_option maxRecDepth 20000
namespace Go.Proofs.Ytijmkfnmdhpakaa.Am
open Go Go.RowKit Go.Proofs Go.Proofs.Ytijmkfnmdhpakaa.Pl
section
variable {S : Ids} {H0 : AH}
end
/-- A matrix that has been made and is one's own. -/
def MkMo (p c : Int) (xs : List (List Int)) (n : Nat) (v : Value) (H1 : AH) : Prop := ∃ a m, v = .agg #[.int .i64 p, .int .i64 c, .slice a xs.length m] ∧ KI.ml.Ml (New n H1.n) H1 (.slice a xs.length m) xs
section
variable {S : Ids} {H0 : AH}
end
end Go.Proofs.Ytijmkfnmdhpakaa.Am
/- Dual ranks, plain: they are ranks if none is too great. No condition beyond each lemma's own. -/
set_option linter.unusedVariables false
namespace Go.Proofs.Ytijmkfnmdhpakaa.Am
open Go Go.RowKit
def dif (a b : Nat) : Nat := a ^^^ (a &&& b)
section
variable {l : List Int} {m : Nat}
end
section
variable {l : List Int} {u : Int} {gs : List (List Int)} {m : Nat}
end
end Go.Proofs.Ytijmkfnmdhpakaa.Am
/- Contracts: FirstMisfit, of the program and of the reference. Each holds under its own conditions. -/
set_option linter.unusedVariables false
set_option maxRecDepth 20000
namespace Go.Proofs.Ytijmkfnmdhpakaa.Am
open Go Go.RowKit Go.Proofs
/-- What both return: two groups and a code. -/
def FmR (m u : Int) (l : List Int) (h : Int) (gs : List (List Int)) (g0 g1 : List Int) (code : Int) : Prop :=
  (¬ fitC m u l h gs = 0 ∧ g0 = [] ∧ g1 = [] ∧ code = fitC m u l h gs) ∨
  (fitC m u l h gs = 0 ∧ ∃ a b f, Fst l u gs a b f ∧ ((f = false ∧ g0 = [] ∧ g1 = [] ∧ code = 6) ∨ (f = true ∧ g0 = hold a 7 ∧ g1 = hold b 7 ∧ code = 0)))
theorem FmR.one {m u : Int} {l : List Int} {h : Int} {gs : List (List Int)} {g0 g1 g0' g1' : List Int} {code code' : Int} (p : FmR m u l h gs g0 g1 code) (q : FmR m u l h gs g0' g1' code') : g0 = g0' ∧ g1 = g1' ∧ code = code' := by
  rcases p with ⟨h0, rfl, rfl, rfl⟩ | ⟨h0, a, b, f, hf, p⟩ <;> rcases q with ⟨k0, rfl, rfl, rfl⟩ | ⟨k0, a', b', f', kf, q⟩
  · exact ⟨rfl, rfl, rfl⟩
  · exact absurd k0 h0
  · exact absurd h0 k0
  · obtain ⟨rfl, rfl, rfl⟩ := hf.one kf
    rcases p with ⟨rfl, rfl, rfl, rfl⟩ | ⟨rfl, rfl, rfl, rfl⟩ <;> rcases q with ⟨e, rfl, rfl, rfl⟩ | ⟨e, rfl, rfl, rfl⟩ <;> first | exact ⟨rfl, rfl, rfl⟩ | cases e
theorem FmR.len {m u : Int} {l : List Int} {h : Int} {gs : List (List Int)} {g0 g1 : List Int} {code : Int} (p : FmR m u l h gs g0 g1 code) : g0.length ≤ 7 ∧ g1.length ≤ 7 := by
  rcases p with ⟨h0, rfl, rfl, rfl⟩ | ⟨h0, a, b, f, hf, ⟨rfl, rfl, rfl, rfl⟩ | ⟨rfl, rfl, rfl, rfl⟩⟩ <;> first | exact ⟨by simp, by simp⟩ | exact ⟨hold_len _ _, hold_len _ _⟩
section
variable {S : Ids} {H0 : AH}
end
end Go.Proofs.Ytijmkfnmdhpakaa.Am
/- What the laws' own functions do at Ranks: sizes, copies, equality, marks. Each holds under its own conditions. -/
set_option linter.unusedVariables false
set_option maxRecDepth 20000
namespace Go.Proofs.Ytijmkfnmdhpakaa.Am
open Go Go.RowKit Go.Proofs
abbrev T_Ranks : Type := (Int) × (Int) × (List Int)
abbrev M_Ranks : Kn T_Ranks := Kn.mp (KI) (Kn.mp (KI) (M_Int64S))
section
variable {S : Ids} {H0 : AH} {W : Ids} {left k : Int}
end
end Go.Proofs.Ytijmkfnmdhpakaa.Am
/- What the laws' own functions do at Family: sizes, copies, equality, marks. Each holds under its own conditions. -/
set_option linter.unusedVariables false
set_option maxRecDepth 20000
namespace Go.Proofs.Ytijmkfnmdhpakaa.Am
open Go Go.RowKit Go.Proofs
section
variable {S : Ids} {H0 : AH} {W : Ids} {left k : Int}
end
end Go.Proofs.Ytijmkfnmdhpakaa.Am
/- Contracts: DualRanks, of the program and of the reference. Each holds under its own conditions. -/
set_option linter.unusedVariables false
set_option linter.unusedSimpArgs false
set_option maxRecDepth 20000
namespace Go.Proofs.Ytijmkfnmdhpakaa.Am
open Go Go.RowKit Go.Proofs
theorem hold_mem {c n : Nat} {x : Int} (h : x ∈ hold c n) : ∃ i : Nat, x = i ∧ i < n ∧ c.testBit i = true := by
  unfold hold at h
  obtain ⟨i, hi, rfl⟩ := List.mem_map.1 h
  obtain ⟨h1, h2⟩ := List.mem_filter.1 hi
  exact ⟨i, rfl, List.mem_range.1 h1, h2⟩
theorem ranksM {X : Ids} {H : AH} {v : Value} {m u : Int} {xs : List Int} (h : KI.Ml X H v xs) : M_Ranks.R X H (m, u, xs) [.int .i64 m, .int .i64 u, v] :=
  mpR (X := None_) (cs := [.int .i64 m]) (show KI.R None_ H m _ from rfl) (mpR (X := None_) (cs := [.int .i64 u]) (show KI.R None_ H u _ from rfl) (ml1' h) (fun _ p => p.elim) (fun _ p => p) (fun _ p _ => p.elim)) (fun _ p => p.elim) (fun _ p => p) (fun _ p _ => p.elim)
/-- Ranks and a code. -/
def MkRC (r : T_Ranks) (code : Int) (n : Nat) (v : Value) (H1 : AH) : Prop := ∃ cs : List Value, v = .tuple #[.agg cs.toArray, .int .i64 code] ∧ M_Ranks.R (New n H1.n) H1 r cs
theorem MkRC.nil {code : Int} {n : Nat} {v : Value} {H1 : AH} (hv : v = .tuple #[.agg #[.int .i64 0, .int .i64 0, .slice none 0 0], .int .i64 code]) : MkRC (0, 0, []) code n v H1 := ⟨_, hv, ranksM (.inl ⟨rfl, _, _, rfl, fun _ => rfl⟩)⟩
section
variable {S : Ids} {H0 : AH}
end
end Go.Proofs.Ytijmkfnmdhpakaa.Am
/- Contracts: the ranks of a scheme, of the program and of the reference. Each holds under its own conditions. -/
set_option linter.unusedVariables false
set_option linter.unusedSimpArgs false
set_option maxRecDepth 20000
namespace Go.Proofs.Ytijmkfnmdhpakaa.Am
open Go Go.RowKit Go.Proofs Go.Proofs.Ytijmkfnmdhpakaa.Pl
def SchOk (x : T_Scheme) : Prop := OkSch x.1 x.2.1 x.2.2.1 x.2.2.2.1 x.2.2.2.2
section
variable {S : Ids} {H0 : AH}
theorem hold_has {y : Int} {x q : Nat} (h0 : 0 ≤ y) (h1 : y < q) : decide (y ∈ hold x q) = x.testBit y.toNat := by
  obtain ⟨j, rfl⟩ : ∃ j : Nat, y = j := ⟨y.toNat, by omega⟩
  rw [Int.toNat_natCast]
  by_cases hb : x.testBit j = true
  · rw [hb, decide_eq_true]
    exact List.mem_map.2 ⟨j, List.mem_filter.2 ⟨List.mem_range.2 (by omega), hb⟩, rfl⟩
  · rw [decide_eq_false (fun hm => by obtain ⟨i, h2, _, h3⟩ := hold_mem hm; exact hb (by rw [show j = i by omega]; exact h3))]
    simpa using hb
end
end Go.Proofs.Ytijmkfnmdhpakaa.Am
/- Contracts: the change of blinds, of the program and of the reference. Each holds under its own conditions. -/
set_option linter.unusedVariables false
set_option linter.unusedSimpArgs false
set_option maxRecDepth 20000
namespace Go.Proofs.Ytijmkfnmdhpakaa.Am
open Go Go.RowKit Go.Proofs Go.Proofs.Ytijmkfnmdhpakaa.Pl
/-- A scheme and a code. -/
def MkSC (r : T_Scheme) (code : Int) (n : Nat) (v : Value) (H1 : AH) : Prop := ∃ cs : List Value, v = .tuple #[.agg cs.toArray, .int .i64 code] ∧ M_Scheme.R (New n H1.n) H1 r cs
theorem schemeM {X X1 X2 : Ids} {H : AH} {h p c : Int} {v w : Value} {ow : List Int} {rows : List (List Int)} (h1 : KI.Ml X1 H v ow) (h2 : KI.ml.Ml X2 H w rows) (i1 : ∀ id, X1 id → X id) (i2 : ∀ id, X2 id → X id) (hd : ∀ id, X1 id → X2 id → False) : M_Scheme.R X H (h, ow, (p, c, rows)) [.int .i64 h, v, .int .i64 p, .int .i64 c, w] :=
  have k2 : M_Matrix.R X2 H (p, c, rows) [.int .i64 p, .int .i64 c, w] := mpR (X := None_) (cs := [.int .i64 p]) (show KI.R None_ H p _ from rfl) (mpR (X := None_) (cs := [.int .i64 c]) (show KI.R None_ H c _ from rfl) (ml1' h2) (fun _ p => p.elim) (fun _ p => p) (fun _ p _ => p.elim)) (fun _ p => p.elim) (fun _ p => p) (fun _ p _ => p.elim)
  mpR (X := None_) (cs := [.int .i64 h]) (show KI.R None_ H h _ from rfl) (mpR (cs := [v]) (ml1' h1) k2 i1 i2 hd) (fun _ p => p.elim) (fun _ p => p) (fun _ p _ => p.elim)
theorem MkSC.nil {code : Int} {n : Nat} {v : Value} {H1 : AH} (hv : v = .tuple #[.agg #[.int .i64 0, .slice none 0 0, .int .i64 0, .int .i64 0, .slice none 0 0], .int .i64 code]) : MkSC (0, [], (0, 0, [])) code n v H1 :=
  ⟨_, hv, schemeM (X1 := None_) (X2 := None_) (.inl ⟨rfl, _, _, rfl, fun _ => rfl⟩) (.inl ⟨rfl, _, _, rfl, fun _ => rfl⟩) (fun _ p => p.elim) (fun _ p => p.elim) (fun _ p _ => p.elim)⟩
theorem built_Scheme0 : Try.prog.built 69 [] = some #[.int .i64 0, .slice none 0 0, .int .i64 0, .int .i64 0, .slice none 0 0] := by kernel_rfl
theorem built_Scheme3 (h p c : Int) (a1 : Option Addr) (n1 c1 : Nat) (a2 : Option Addr) (n2 c2 : Nat) : Try.prog.built 69 [(0, .int .i64 h), (1, .slice a1 n1 c1), (2, .agg #[.int .i64 p, .int .i64 c, .slice a2 n2 c2])] = some #[.int .i64 h, .slice a1 n1 c1, .int .i64 p, .int .i64 c, .slice a2 n2 c2] := by kernel_rfl
section
variable {S : Ids} {H0 : AH}
end
end Go.Proofs.Ytijmkfnmdhpakaa.Am
/- Groups and their bits, plain: a rising group is what its bits hold; chains. No condition beyond each lemma's own. -/
set_option linter.unusedVariables false
namespace Go.Proofs.Ytijmkfnmdhpakaa.Am
open Go Go.RowKit
theorem hold_congr {x y n : Nat} (h : ∀ i, i < n → x.testBit i = y.testBit i) : hold x n = hold y n := by
  unfold hold
  congr 1
  exact List.filter_congr fun i hi => h i (List.mem_range.1 hi)
theorem bitsOf_snoc (g : List Int) (a : Int) : bitsOf (g ++ [a]) = bitsOf g ||| 2 ^ a.toNat := by
  unfold bitsOf
  rw [List.foldl_append]; rfl
theorem rises_front {lo hi : Int} {g : List Int} {a : Int} (h : Rises lo hi (g ++ [a])) : Rises lo hi g ∧ (∀ x ∈ g, x < a) ∧ lo ≤ a ∧ a ≤ hi := by
  have at_ : ∀ i, i < g.length → (g ++ [a]).getD i 0 = g.getD i 0 := fun i hi => by
    rw [List.getD_eq_getElem?_getD, List.getD_eq_getElem?_getD, List.getElem?_append_left hi]
  have last : (g ++ [a]).getD g.length 0 = a := by
    rw [List.getD_eq_getElem?_getD]; simp
  have hr : Rises lo hi g := fun i hi => by
    obtain ⟨h1, h2⟩ := h i (by simp; omega)
    rw [at_ i hi] at h1 h2
    refine ⟨h1, fun h0 => ?_⟩
    have := h2 h0
    rwa [at_ (i - 1) (by omega)] at this
  have hl := h g.length (by simp)
  unfold RiseAt at hl
  rw [last] at hl
  refine ⟨hr, fun x hx => ?_, hl.1.1, hl.1.2⟩
  obtain ⟨i, hi⟩ := List.getElem?_of_mem hx
  have hil := (List.getElem?_eq_some_iff.1 hi).1
  -- each element is at most the last one of g
  have up : ∀ d i, i + d = g.length - 1 → i < g.length → g.getD i 0 ≤ g.getD (g.length - 1) 0 := fun d => by
    induction d with
    | zero => intro i h1 h2; rw [show i = g.length - 1 by omega]; exact Int.le_refl _
    | succ d ih =>
      intro i h1 h2
      have h3 := ih (i + 1) (by omega) (by omega)
      have h4 := (hr (i + 1) (by omega)).2 (by omega)
      simp only [Nat.add_sub_cancel] at h4
      omega
  have h5 := up (g.length - 1 - i) i (by omega) hil
  have h6 := hl.2 (by omega)
  rw [at_ (g.length - 1) (by omega)] at h6
  rw [getD_of hi] at h5
  omega
theorem bitsOf_test {g : List Int} (hg : ∀ x ∈ g, 0 ≤ x) (i : Nat) : (bitsOf g).testBit i = true ↔ (i : Int) ∈ g := by
  have key : ∀ (g : List Int) (a : Nat), (∀ x ∈ g, 0 ≤ x) → ((g.foldl (fun a x => a ||| 2 ^ x.toNat) a).testBit i = true ↔ (a.testBit i = true ∨ (i : Int) ∈ g)) := by
    intro g
    induction g with
    | nil => intro a _; simp
    | cons x g ih =>
      intro a hx
      have h0 := hx x List.mem_cons_self
      simp only [List.foldl_cons]
      rw [ih _ (fun y hy => hx y (List.mem_cons_of_mem _ hy)), Nat.testBit_or, Nat.testBit_two_pow, List.mem_cons]
      have e : x.toNat = i ↔ (i : Int) = x := by omega
      simp only [Bool.or_eq_true, decide_eq_true_eq, e]
      constructor
      · rintro ((h | h) | h)
        · exact .inl h
        · exact .inr (.inl h)
        · exact .inr (.inr h)
      · rintro (h | h | h)
        · exact .inl (.inl h)
        · exact .inl (.inr h)
        · exact .inr h
  have := key g 0 hg
  simpa [bitsOf] using this
theorem hold_bits : ∀ (n : Nat) {g : List Int}, Rises 0 ((n : Int) - 1) g → hold (bitsOf g) n = g
  | 0, g, h => by
    cases g with
    | nil => rfl
    | cons x g => have := (h 0 (by simp)).1; omega
  | n + 1, g, h => by
    rcases List.eq_nil_or_concat g with rfl | ⟨g', a, hga⟩
    · unfold hold bitsOf; simp
    · rw [List.concat_eq_append] at hga
      subst hga
      obtain ⟨h1, h2, h3, h4⟩ := rises_front h
      have hg' : ∀ x ∈ g', 0 ≤ x := fun x hx => (rises_mem h1 x hx).1
      rw [hold_next]
      by_cases ha : a = n
      · subst ha
        have hb : (bitsOf (g' ++ [(n : Int)])).testBit n = true := by rw [bitsOf_snoc, Nat.testBit_or, Nat.testBit_two_pow]; simp
        rw [if_pos hb]
        congr 1
        have h5 : Rises 0 ((n : Int) - 1) g' := fun i hi => by
          obtain ⟨h6, h7⟩ := h1 i hi
          refine ⟨⟨h6.1, ?_⟩, h7⟩
          have := h2 (g'.getD i 0) (by rw [List.getD_eq_getElem?_getD, List.getElem?_eq_getElem hi]; exact List.getElem_mem hi)
          omega
        have ih := hold_bits n h5
        rw [← ih]
        rw [ih]
        refine Eq.trans (hold_congr fun i hi => ?_) ih
        rw [bitsOf_snoc, Nat.testBit_or, Nat.testBit_two_pow]
        have h9 : ¬ n = i := by omega
        simp [h9]
      · have h5 : Rises 0 ((n : Int) - 1) (g' ++ [a]) := fun i hi => by
          obtain ⟨h6, h7⟩ := h i hi
          refine ⟨⟨h6.1, ?_⟩, h7⟩
          have hm : (g' ++ [a]).getD i 0 ∈ g' ++ [a] := by rw [List.getD_eq_getElem?_getD, List.getElem?_eq_getElem hi]; exact List.getElem_mem hi
          rcases List.mem_append.1 hm with h8 | h8
          · have := h2 _ h8; omega
          · have := List.mem_singleton.1 h8; omega
        have hb : ¬ (bitsOf (g' ++ [a])).testBit n = true := fun hc => by
          have := (bitsOf_test (fun x hx => (rises_mem h5 x hx).1) n).1 hc
          have := (rises_mem h5 _ this).2
          omega
        rw [if_neg hb]
        exact hold_bits n h5
end Go.Proofs.Ytijmkfnmdhpakaa.Am
/- How many solutions linear equations have, in plain Lean. Each holds under its own conditions. -/
set_option linter.unusedVariables false
set_option linter.unusedSimpArgs false
namespace Go.Proofs.Ytijmkfnmdhpakaa.Pl
/-- How many columns before c are no pivots. -/
def fr (P : List Nat) : Nat → Nat
  | 0 => 0
  | c + 1 => fr P c + if c ∈ P then 0 else 1
end Go.Proofs.Ytijmkfnmdhpakaa.Pl
/- Solutions of linear equations, counted by the echelon, and by numbers; in plain Lean. Each holds under its own conditions. -/
set_option linter.unusedVariables false
set_option linter.unusedSimpArgs false
namespace Go.Proofs.Ytijmkfnmdhpakaa.Pl
end Go.Proofs.Ytijmkfnmdhpakaa.Pl
/- Contracts: codes of schemes, groups and held shares; products of equal factors. Each holds under its own conditions. -/
set_option linter.unusedVariables false
set_option linter.unusedSimpArgs false
set_option maxRecDepth 20000
namespace Go.Proofs.Ytijmkfnmdhpakaa.Am
open Go Go.RowKit Go.Proofs Go.Proofs.Ytijmkfnmdhpakaa.Pl
/-- The code of a scheme and a group. -/
noncomputable def codeS (x : T_Scheme) (g : List Int) : Int := if tv (SchOk x) = true then (if tv (Rises 0 (x.1 - 1) g) = true then 0 else 2) else 1
noncomputable def rowsG (ow : List Int) (g : List Int) : List Int := rowsP (fun i => (bitsOf g).testBit (ow.getD i 0).toNat) ow.length
theorem rises_small {q : Nat} {g : List Int} (h : Rises 0 ((q : Int) - 1) g) : ∀ x ∈ g, 0 ≤ x ∧ x < (q : Int) := fun x hx => by have := rises_mem h x hx; omega
theorem group_bits {q : Nat} {g : List Int} (h : Rises 0 ((q : Int) - 1) g) {y : Int} (h0 : 0 ≤ y) (h1 : y < q) : decide (y ∈ g) = (bitsOf g).testBit y.toNat := by
  rw [← hold_has h0 h1, hold_bits q h]
theorem rowsG_spec {h p c : Int} {ow g : List Int} {rows : List (List Int)} (hk : OkSch h ow p c rows) (hg : Rises 0 (h - 1) g) : rowsP (fun i => decide (ow.getD i 0 ∈ g)) ow.length = rowsG ow g := by
  obtain ⟨q, rfl⟩ : ∃ q : Nat, h = q := ⟨h.toNat, by have := hk.h1; omega⟩
  unfold rowsG
  refine rowsP_congr fun i hi => ?_
  have hm := hk.own (ow.getD i 0) (by rw [List.getD_eq_getElem?_getD, List.getElem?_eq_getElem hi]; exact List.getElem_mem hi)
  exact group_bits hg hm.1 (by omega)
section
variable {S : Ids} {H0 : AH}
theorem schemeCode (x : T_Scheme) (g : List Int) {a1 c1 a2 c2 a3 c3} (hB : B_Scheme x) (hG : B_Int64S g) (h1 : KI.Sl S H0 (.slice a1 x.2.1.length c1) x.2.1) (h2 : KI.sl.Sl S H0 (.slice a2 x.2.2.2.2.length c2) x.2.2.2.2) (h3 : KI.Sl S H0 (.slice a3 g.length c3) g) :
    Spec Try.prog S H0 125 [.agg #[.int .i64 x.1, .slice a1 x.2.1.length c1, .int .i64 x.2.2.1, .int .i64 x.2.2.2.1, .slice a2 x.2.2.2.2.length c2], .slice a3 g.length c3] (fun v => v = .int .i64 (codeS x g)) := by
  refine Spec.of1 Try.func125 rfl (by kernel_rfl) rfl (fun H _ => ?_)
  have hG' : g.length ≤ 1048576 := hG
  refine KW.callE rfl rfl rfl rfl rfl (validScheme x.1 x.2.2.1 x.2.2.2.1 hB.2.2.1 hB.2.1 hB.2.2.2.2 h1.up h2.up) (fun _ _ => ?_)
  by_cases hk : SchOk x
  · rw [show tv (OkSch x.1 x.2.1 x.2.2.1 x.2.2.2.1 x.2.2.2.2) = true from tv_true hk]
    refine KW.cF rfl rfl (by first | (simp; done) | decide) ?_
    refine KW.callE rfl rfl rfl rfl rfl (isGroup x.1 (by omega) (by have := hk.h1; have := hk.h7; omega) h3.up) (fun _ _ => ?_)
    by_cases hg : Rises 0 (x.1 - 1) g
    · rw [tv_true hg]
      refine KW.cF rfl rfl (by first | (simp; done) | decide) ?_
      exact KW.ret rfl rfl rfl rfl (by unfold codeS; rw [if_pos (tv_true hk), if_pos (tv_true hg)]; rfl)
    · rw [tv_false hg]
      refine KW.cT rfl rfl (by first | (simp; done) | decide) ?_
      exact KW.ret rfl rfl rfl rfl (by unfold codeS; rw [if_pos (tv_true hk), if_neg (by rw [tv_false hg]; decide)]; rfl)
  · rw [show tv (OkSch x.1 x.2.1 x.2.2.1 x.2.2.2.1 x.2.2.2.2) = false from tv_false hk]
    refine KW.cT rfl rfl (by first | (simp; done) | decide) ?_
    exact KW.ret rfl rfl rfl rfl (by unfold codeS; rw [if_neg (by rw [tv_false hk]; decide)]; rfl)
end
end Go.Proofs.Ytijmkfnmdhpakaa.Am
/- Contracts: rows from a place on; copies in blocks of their own; systems of equations solved by the program. Each holds under its own conditions. -/
set_option linter.unusedVariables false
set_option linter.unusedSimpArgs false
set_option maxRecDepth 20000
namespace Go.Proofs.Ytijmkfnmdhpakaa.Am
open Go Go.RowKit Go.Proofs Go.Proofs.Ytijmkfnmdhpakaa.Pl
theorem fer_all : ((List.range 32).all fun p => (List.range p).all fun a => Nat.beq a 0 || !((List.range p).all fun d => Nat.ble d 1 || !Nat.beq (p % d) 0) || Nat.ble p 1 || ((a : Int) * pw p a (p - 2) - 1) % p == 0) = true := by decide +kernel
theorem fer {p : Int} (h : PrimeP p) : Fer p := by
  obtain ⟨h2, h31, hd⟩ := h
  refine ⟨h2, fun a h0 h1 => ?_⟩
  obtain ⟨q, rfl⟩ : ∃ q : Nat, p = q := ⟨p.toNat, by omega⟩
  obtain ⟨b, rfl⟩ : ∃ b : Nat, a = b := ⟨a.toNat, by omega⟩
  have h3 := List.all_eq_true.1 (List.all_eq_true.1 fer_all q (List.mem_range.2 (by omega))) b (List.mem_range.2 (by omega))
  have h4 : ((List.range q).all fun d => Nat.ble d 1 || !Nat.beq (q % d) 0) = true := by
    refine List.all_eq_true.2 fun d hdm => ?_
    have hdq := List.mem_range.1 hdm
    by_cases hd1 : d ≤ 1
    · rw [Nat.ble_eq_true_of_le hd1]; rfl
    · have h5 := hd d (by omega) (by omega)
      have h6 : Nat.beq (q % d) 0 = false := by
        cases hb : Nat.beq (q % d) 0 with
        | false => rfl
        | true => exact absurd (by have := Nat.eq_of_beq_eq_true hb; omega) h5
      rw [h6]; simp
  rw [h4] at h3
  have hb0 : Nat.beq b 0 = false := by
    cases hb : Nat.beq b 0 with
    | false => rfl
    | true => have := Nat.eq_of_beq_eq_true hb; omega
  have hp1 : Nat.ble q 1 = false := by
    cases hb : Nat.ble q 1 with
    | false => rfl
    | true => have := Nat.le_of_ble_eq_true hb; omega
  rw [hb0, hp1] at h3
  simp only [Bool.not_true, Bool.false_or, beq_iff_eq] at h3
  have e : ((q : Int) - 2).toNat = q - 2 := by omega
  rw [e]
  obtain ⟨k, hk⟩ := Int.dvd_of_emod_eq_zero h3
  exact ⟨k, by omega⟩
section
variable {P : Program} {S : Ids} {H0 : AH} {Q : PostC} {k k1 : List It} {e e1 : Env} {T T1 : List Var} {n n1 : Nat} {l1 r1 : List Nat} {d1 : Tmp}
end
section
variable {S : Ids} {H0 : AH}
end
end Go.Proofs.Ytijmkfnmdhpakaa.Am
/- Contracts: the first element that is not 0; what a basis takes off a row. Each holds under its own conditions. -/
set_option linter.unusedVariables false
set_option linter.unusedSimpArgs false
set_option maxRecDepth 20000
namespace Go.Proofs.Ytijmkfnmdhpakaa.Am
open Go Go.RowKit Go.Proofs Go.Proofs.Ytijmkfnmdhpakaa.Pl
section
variable {P : Program} {S : Ids} {H0 : AH} {Q : PostC} {k k1 : List It} {e e1 : Env} {T T1 : List Var} {n n1 : Nat} {l1 r1 : List Nat} {d1 : Tmp}
end
section
variable {S : Ids} {H0 : AH}
end
/-- A round of what a basis takes off. -/
structure LsI (p : Int) (B : List PrT) (x : PrT) (W1 W2 : Ids) (H : AH) (v1 v2 : Value) (i : Nat) (S : Ids) (A : AH) : Prop where
  le : i ≤ B.length
  low : ∀ id, id < H.n → S id ∧ (¬ (W1 id ∨ W2 id) → A.m id = H.m id)
  r1 : KI.Ml W1 A v1 (less p (B.take i) x).1
  r2 : KI.Ml W2 A v2 (less p (B.take i) x).2
structure LsS where
  i : Nat
  S : Ids
  A : AH
section
variable {S : Ids} {H0 : AH}
end
end Go.Proofs.Ytijmkfnmdhpakaa.Am
/- Gates in memory; contracts of what only reads them. Each holds under its own conditions. -/
set_option linter.unusedVariables false
set_option linter.unusedSimpArgs false
set_option maxRecDepth 20000
namespace Go.Proofs.Ytijmkfnmdhpakaa.Am
open Go Go.RowKit Go.Proofs
/-- A gate: its holder, its least number of kids, its kids. -/
inductive Gt where
  | mk (h l : Int) (ks : List Gt)
def Gt.h : Gt → Int | .mk h _ _ => h
def Gt.l : Gt → Int | .mk _ l _ => l
def Gt.ks : Gt → List Gt | .mk _ _ ks => ks
def SlR {α : Type} (es : Nat) (R : Ids → AH → α → List Value → Prop) (S : Ids) (H : AH) (s : Value) (xs : List α) : Prop :=
  (xs = [] ∧ ∃ a c, s = .slice a 0 c ∧ (a = none → c = 0)) ∨ ∃ id k c b, s = .slice (some ⟨id, k, some es⟩) xs.length c ∧ xs.length ≤ c ∧ S id ∧ H.m id = some b ∧ k + xs.length * es ≤ b.cells.length ∧
    ∀ (i : Nat) x, xs[i]? = some x → R S H x ((b.cells.drop (k + i * es)).take es)
/-- How a gate of a depth stands in memory. -/
def RG : Nat → Ids → AH → Gt → List Value → Prop
  | 0, _, _, g, cs => g.ks = [] ∧ ∃ a c, cs = [.int .i64 g.h, .int .i64 g.l, .slice a 0 c] ∧ (a = none → c = 0)
  | d + 1, S, H, g, cs => ∃ s, cs = [.int .i64 g.h, .int .i64 g.l, s] ∧ SlR 3 (RG d) S H s g.ks
theorem RG.len : ∀ (d : Nat) {S : Ids} {H : AH} {g : Gt} {cs : List Value}, RG d S H g cs → cs.length = 3
  | 0, _, _, _, _, ⟨_, _, _, h, _⟩ => by rw [h]; rfl
  | d + 1, _, _, _, _, ⟨_, h, _⟩ => by rw [h]; rfl
theorem RG.same : ∀ (d : Nat) {S : Ids} {H H' : AH} {g : Gt} {cs : List Value}, (∀ id, S id → H'.m id = H.m id) → RG d S H g cs → RG d S H' g cs
  | 0, _, _, _, _, _, _, h => h
  | d + 1, _, _, _, _, _, hs, ⟨s, h, h2⟩ => ⟨s, h, by
    rcases h2 with h2 | ⟨id, k, c, b, e1, e2, e3, e4, e5, e6⟩
    · exact .inl h2
    · exact .inr ⟨id, k, c, b, e1, e2, e3, by rw [hs id e3]; exact e4, e5, fun i x hx => RG.same d hs (e6 i x hx)⟩⟩
theorem RG.more : ∀ (d : Nat) {S S' : Ids} {H : AH} {g : Gt} {cs : List Value}, (∀ id, S id → S' id) → RG d S H g cs → RG d S' H g cs
  | 0, _, _, _, _, _, _, h => h
  | d + 1, _, _, _, _, _, hS, ⟨s, h, h2⟩ => ⟨s, h, by
    rcases h2 with h2 | ⟨id, k, c, b, e1, e2, e3, e4, e5, e6⟩
    · exact .inl h2
    · exact .inr ⟨id, k, c, b, e1, e2, hS id e3, e4, e5, fun i x hx => RG.more d hS (e6 i x hx)⟩⟩
def KG (d : Nat) : Kn Gt where
  es := 3
  R := RG d
  len := RG.len d
  same := RG.same d
  more := RG.more d
theorem RG.form {d : Nat} {S : Ids} {H : AH} {g : Gt} {cs : List Value} (h : RG d S H g cs) : ∃ a c, cs = [.int .i64 g.h, .int .i64 g.l, .slice a g.ks.length c] ∧ (g.ks = [] ∨ ∃ d', d = d' + 1 ∧ (KG d').Sl S H (.slice a g.ks.length c) g.ks) := by
  cases d with
  | zero =>
    obtain ⟨h0, a, c, h1, _⟩ := h
    exact ⟨a, c, by rw [h1, h0]; rfl, .inl h0⟩
  | succ d =>
    obtain ⟨s, h1, h2⟩ := h
    have h2 : (KG d).Sl S H s g.ks := h2
    obtain ⟨a, c, rfl⟩ := h2.form
    exact ⟨a, c, h1, .inr ⟨d, rfl, h2⟩⟩
/-- What a gate that has been drawn looks like. -/
def GF (n : Int) : Nat → Gt → Prop
  | 0, g => g.ks = [] ∧ g.l = 0 ∧ 0 ≤ g.h ∧ g.h < n
  | d + 1, g => (g.ks = [] ∧ g.l = 0 ∧ 0 ≤ g.h ∧ g.h < n) ∨ (g.ks ≠ [] ∧ g.h = -1 ∧ 1 ≤ g.l ∧ g.l ≤ g.ks.length ∧ g.ks.length ≤ 4 ∧ ∀ k ∈ g.ks, GF n d k)
theorem GF.kids {n : Int} {d : Nat} {g : Gt} (h : GF n d g) : g.ks.length ≤ 4 := by
  cases d with
  | zero => rw [h.1]; exact Nat.zero_le _
  | succ d =>
    rcases h with h | h
    · rw [h.1]; exact Nat.zero_le _
    · exact h.2.2.2.2.1
theorem GF.least {n : Int} {d : Nat} {g : Gt} (h : GF n d g) : 0 ≤ g.l ∧ g.l ≤ 4 := by
  cases d with
  | zero => rw [h.2.1]; decide
  | succ d =>
    rcases h with h | h
    · rw [h.2.1]; decide
    · have := h.2.2.2.2.1; have := h.2.2.2.1; have := h.2.2.1; omega
theorem GF.kid {n : Int} {d : Nat} {g k : Gt} (h : GF n (d + 1) g) (hk : k ∈ g.ks) : GF n d k := by
  rcases h with h | h
  · rw [h.1] at hk; cases hk
  · exact h.2.2.2.2.2 k hk
/-- All nodes have fewer kids. -/
def NW (p : Int) : Nat → Gt → Prop
  | 0, g => (g.ks.length : Int) < p
  | d + 1, g => (g.ks.length : Int) < p ∧ ∀ k ∈ g.ks, NW p d k
section
variable {S : Ids} {H0 : AH}
theorem l02Left {n : Int} : ∀ (d : Nat) {S : Ids} {H0 : AH} {g : Gt} {cs : List Value} {id k : Nat} {left : Int}, GF n d g → RG d S H0 g cs → Has3 S H0 id k cs → (0 ≤ left ∧ left ≤ 100) →
    Spec Try.prog S H0 280 [.pointer (some ⟨id, k, none⟩), .int .i64 left] (fun v => ∃ r : Int, v = .int .i64 r ∧ -1 ≤ r ∧ r ≤ left - 1) := by
  intro d
  induction d with
  | zero =>
    intro S H0 g cs id k left hg hR hv hl
    obtain ⟨a, c, rfl, hk⟩ := hR.form
    have hk0 := hg.1
    refine Spec.of1 Try.func280 rfl (by kernel_rfl) rfl (fun H _ => ?_)
    have hv := hv.up (S' := Low H.n) (H' := H)
    have ew : IntKind.i64.wrap (left - 1) = left - 1 := wr (by omega) (by omega)
    refine KW.lp rfl rfl (fun _ : Unit => [(0, .pointer (some ⟨id, k, none⟩)), (1, .int .i64 (left - 1)), (5, .int .i64 0)]) (fun _ => True) (fun _ => 0) (()) (trivial) ⟨rfl, congrArg (Value.int .i64) ew, rfl, trivial⟩ (fun _ hi bE n => ?_)
    refine KW.ldF 2 hv rfl rfl rfl rfl rfl rfl rfl rfl rfl ?_
    refine KW.tno rfl rfl (by rw [hk0]; simp) ?_
    refine KW.cF rfl rfl (by first | (simp; done) | decide) ?_
    exact KW.ret rfl rfl rfl rfl (⟨_, rfl, by omega, Int.le_refl _⟩)
  | succ d ih =>
    intro S H0 g cs id k left hg hR hv hl
    obtain ⟨a, c, rfl, hk⟩ := hR.form
    have h4 := hg.kids
    refine Spec.of1 Try.func280 rfl (by kernel_rfl) rfl (fun H _ => ?_)
    have hv := hv.up (S' := Low H.n) (H' := H)
    have ew : IntKind.i64.wrap (left - 1) = left - 1 := wr (by omega) (by omega)
    refine KW.lp rfl rfl (fun s : Nat × Int => [(0, .pointer (some ⟨id, k, none⟩)), (1, .int .i64 s.2), (5, .int .i64 s.1)]) (fun s => s.1 ≤ g.ks.length ∧ -1 ≤ s.2 ∧ s.2 ≤ left - 1) (fun s => g.ks.length - s.1) ((0, left - 1)) (⟨Nat.zero_le _, by simp only; omega, Int.le_refl _⟩) ⟨rfl, congrArg (Value.int .i64) ew, rfl, trivial⟩ (fun s hi bE n => ?_)
    obtain ⟨i, lf⟩ := s
    obtain ⟨i1, i2, i3⟩ := hi
    simp only at i1 i2 i3
    refine KW.ldF 2 hv rfl rfl rfl rfl rfl rfl rfl rfl rfl ?_
    refine KW.tst rfl rfl (fun k1 => ?_) (fun k1 => ?_)
    · have k1 : (i : Int) < (g.ks.length : Int) := k1
      refine KW.cnd rfl rfl (fun k2 => ?_) (fun k2 => ?_)
      · have k2 : lf ≥ 0 := k2
        rcases hk with hk | ⟨d', e, hk⟩
        · rw [hk] at k1; simp at k1; omega
        obtain rfl : d' = d := by omega
        refine KW.ldF 2 hv rfl rfl rfl rfl rfl rfl rfl rfl rfl ?_
        refine KW.adS hk.up rfl rfl rfl rfl rfl rfl rfl rfl rfl (by omega) (k1) (fun y cy id2 q hy hRy hat => ?_)
        have hy : g.ks[i]? = some y := hy
        have hgy := hg.kid (List.mem_of_getElem? hy)
        refine KW.call rfl rfl rfl rfl rfl (ih hgy hRy hat ⟨k2, by omega⟩) (fun v _ _ hv => ?_)
        obtain ⟨r, rfl, r1, r2⟩ := hv
        refine KW.nxt rfl rfl (fun H' g => ⟨(i + 1, r), ⟨by simp only; omega, r1, by simp only; omega⟩, by first | omega | (simp only; omega), ⟨rfl, rfl, congrArg (Value.int .i64) (inc64 (by omega)), trivial⟩, g⟩)
      · exact KW.ret rfl rfl rfl rfl (⟨_, rfl, i2, i3⟩)
    · refine KW.cF rfl rfl (by first | (simp; done) | decide) ?_
      exact KW.ret rfl rfl rfl rfl (⟨_, rfl, i2, i3⟩)
theorem l00Max (a b : Int) : Spec Try.prog S H0 97 [.int .i64 a, .int .i64 b] (fun v => v = .int .i64 (if a > b then a else b)) := by
  refine Spec.of1 Try.func97 rfl (by kernel_rfl) rfl (fun H _ => ?_)
  refine KW.cnd rfl rfl (fun h => ?_) (fun h => ?_)
  · exact KW.ret rfl rfl rfl rfl (by rw [if_pos h]; rfl)
  · exact KW.ret rfl rfl rfl rfl (by rw [if_neg h]; rfl)
theorem l02Depth {n : Int} : ∀ (d : Nat) {S : Ids} {H0 : AH} {g : Gt} {cs : List Value} {id k : Nat}, d ≤ 100 → GF n d g → RG d S H0 g cs → Has3 S H0 id k cs →
    Spec Try.prog S H0 281 [.pointer (some ⟨id, k, none⟩)] (fun v => ∃ r : Int, v = .int .i64 r ∧ 1 ≤ r ∧ r ≤ d + 1) := by
  intro d
  induction d with
  | zero =>
    intro S H0 g cs id k hd hg hR hv
    obtain ⟨a, c, rfl, hk⟩ := hR.form
    have hk0 := hg.1
    refine Spec.of1 Try.func281 rfl (by kernel_rfl) rfl (fun H _ => ?_)
    have hv := hv.up (S' := Low H.n) (H' := H)
    refine KW.lp rfl rfl (fun _ : Unit => [(0, .pointer (some ⟨id, k, none⟩)), (3, .int .i64 0), (4, .int .i64 0)]) (fun _ => True) (fun _ => 0) (()) (trivial) ⟨rfl, rfl, rfl, trivial⟩ (fun _ hi bE n => ?_)
    refine KW.ldF 2 hv rfl rfl rfl rfl rfl rfl rfl rfl rfl ?_
    refine KW.no rfl rfl (by rw [hk0]; simp) ?_
    exact KW.ret rfl rfl rfl rfl (⟨1, rfl, by omega, by omega⟩)
  | succ d ih =>
    intro S H0 g cs id k hd hg hR hv
    obtain ⟨a, c, rfl, hk⟩ := hR.form
    have h4 := hg.kids
    refine Spec.of1 Try.func281 rfl (by kernel_rfl) rfl (fun H _ => ?_)
    have hv := hv.up (S' := Low H.n) (H' := H)
    refine KW.lp rfl rfl (fun s : Nat × Int => [(0, .pointer (some ⟨id, k, none⟩)), (3, .int .i64 s.2), (4, .int .i64 s.1)]) (fun s => s.1 ≤ g.ks.length ∧ 0 ≤ s.2 ∧ s.2 ≤ d + 1) (fun s => g.ks.length - s.1) ((0, 0)) (⟨Nat.zero_le _, Int.le_refl _, by simp only; omega⟩) ⟨rfl, rfl, rfl, trivial⟩ (fun s hi bE n => ?_)
    obtain ⟨i, m⟩ := s
    obtain ⟨i1, i2, i3⟩ := hi
    simp only at i1 i2 i3
    refine KW.ldF 2 hv rfl rfl rfl rfl rfl rfl rfl rfl rfl ?_
    refine KW.cnd rfl rfl (fun k1 => ?_) (fun k1 => ?_)
    · have k1 : (i : Int) < (g.ks.length : Int) := k1
      rcases hk with hk | ⟨d', e, hk⟩
      · rw [hk] at k1; simp at k1; omega
      obtain rfl : d' = d := by omega
      refine KW.ldF 2 hv rfl rfl rfl rfl rfl rfl rfl rfl rfl ?_
      refine KW.adS hk.up rfl rfl rfl rfl rfl rfl rfl rfl rfl (by omega) (k1) (fun y cy id2 q hy hRy hat => ?_)
      have hy : g.ks[i]? = some y := hy
      have hgy := hg.kid (List.mem_of_getElem? hy)
      refine KW.call rfl rfl rfl rfl rfl (ih (by omega) hgy hRy hat) (fun v _ _ hv => ?_)
      obtain ⟨r, rfl, r1, r2⟩ := hv
      refine KW.callE rfl rfl rfl rfl rfl (l00Max m r) (fun _ _ => ?_)
      refine KW.nxt rfl rfl (fun H' g => ⟨(i + 1, if m > r then m else r), ⟨by simp only; omega, by simp only; split <;> omega, by simp only; split <;> omega⟩, by first | omega | (simp only; omega), ⟨rfl, rfl, congrArg (Value.int .i64) (inc64 (by omega)), trivial⟩, g⟩)
    · have ew : IntKind.i64.wrap (m + 1) = m + 1 := wr (by omega) (by omega)
      exact KW.ret rfl rfl rfl rfl (⟨m + 1, congrArg (Value.int .i64) ew, by omega, by omega⟩)
end
end Go.Proofs.Ytijmkfnmdhpakaa.Am
/- Contracts: whether a gate is right, or too wide. Each holds under its own conditions. -/
set_option linter.unusedVariables false
set_option linter.unusedSimpArgs false
set_option maxRecDepth 20000
namespace Go.Proofs.Ytijmkfnmdhpakaa.Am
open Go Go.RowKit Go.Proofs
section
variable {S : Ids} {H0 : AH}
theorem l02FormLeaf {n h : Int} (hn : 0 ≤ n ∧ n ≤ 1000) {id k : Nat} {a : Option Addr} {c : Nat} (hv : Has3 S H0 id k [.int .i64 h, .int .i64 0, .slice a 0 c]) :
    Spec Try.prog S H0 282 [.int .i64 n, .pointer (some ⟨id, k, none⟩)] (fun v => ∃ b : Bool, v = .bool b) := by
  refine Spec.of1 Try.func282 rfl (by kernel_rfl) rfl (fun H _ => ?_)
  have hv := hv.up (S' := Low H.n) (H' := H)
  refine KW.ldF 2 hv rfl rfl rfl rfl rfl rfl rfl rfl rfl ?_
  refine KW.yes rfl rfl (by simp) ?_
  refine KW.ldF 1 hv rfl rfl rfl rfl rfl rfl rfl rfl rfl ?_
  refine KW.tT rfl rfl (by simp) ?_
  refine KW.ldF 0 hv rfl rfl rfl rfl rfl rfl rfl rfl rfl ?_
  refine KW.callE rfl rfl rfl rfl rfl (l00In _ _ _) (fun _ _ => ?_)
  exact KW.ret rfl rfl rfl rfl (⟨_, rfl⟩)
theorem l02Form {n : Int} (hn : 0 ≤ n ∧ n ≤ 1000) : ∀ (d : Nat) {S : Ids} {H0 : AH} {g : Gt} {cs : List Value} {id k : Nat}, GF n d g → RG d S H0 g cs → Has3 S H0 id k cs →
    Spec Try.prog S H0 282 [.int .i64 n, .pointer (some ⟨id, k, none⟩)] (fun v => ∃ b : Bool, v = .bool b) := by
  intro d
  induction d with
  | zero =>
    intro S H0 g cs id k hg hR hv
    obtain ⟨a, c, rfl, hk⟩ := hR.form
    rw [hg.1, hg.2.1] at hv
    exact l02FormLeaf hn hv
  | succ d ih =>
    intro S H0 g cs id k hg hR hv
    obtain ⟨a, c, rfl, hk⟩ := hR.form
    rcases hg with hg0 | hg1
    · rw [hg0.1, hg0.2.1] at hv
      exact l02FormLeaf hn hv
    obtain ⟨g1, g2, g3, g4, g5, g6⟩ := hg1
    have hpos : 0 < g.ks.length := List.length_pos_iff.2 g1
    rcases hk with hk | ⟨d', e, hk⟩
    · exact absurd hk g1
    obtain rfl : d' = d := by omega
    refine Spec.of1 Try.func282 rfl (by kernel_rfl) rfl (fun H _ => ?_)
    have hv := hv.up (S' := Low H.n) (H' := H)
    refine KW.ldF 2 hv rfl rfl rfl rfl rfl rfl rfl rfl rfl ?_
    refine KW.no rfl rfl (by omega) ?_
    refine KW.lp rfl rfl (fun i : Nat => [(0, .int .i64 n), (1, .pointer (some ⟨id, k, none⟩)), (5, .int .i64 i)]) (fun i => i ≤ g.ks.length) (fun i => g.ks.length - i) (0) (Nat.zero_le _) ⟨rfl, rfl, rfl, trivial⟩ (fun i hi bE n => ?_)
    refine KW.ldF 2 hv rfl rfl rfl rfl rfl rfl rfl rfl rfl ?_
    refine KW.cnd rfl rfl (fun k1 => ?_) (fun k1 => ?_)
    · have k1 : (i : Int) < (g.ks.length : Int) := k1
      refine KW.ldF 2 hv rfl rfl rfl rfl rfl rfl rfl rfl rfl ?_
      refine KW.adS hk.up rfl rfl rfl rfl rfl rfl rfl rfl rfl (by omega) (k1) (fun y cy id2 q hy hRy hat => ?_)
      have hy : g.ks[i]? = some y := hy
      refine KW.call rfl rfl rfl rfl rfl (ih (g6 y (List.mem_of_getElem? hy)) hRy hat) (fun v _ _ hv => ?_)
      obtain ⟨b, rfl⟩ := hv
      refine KW.cndB rfl rfl (fun k2 => ?_) (fun k2 => ?_)
      · exact KW.ret rfl rfl rfl rfl (⟨_, rfl⟩)
      · refine KW.nxt rfl rfl (fun H' g => ⟨i + 1, by omega, by first | omega | (simp only; omega), ⟨rfl, rfl, congrArg (Value.int .i64) (inc64 (by omega)), trivial⟩, g⟩)
    · refine KW.ldF 0 hv rfl rfl rfl rfl rfl rfl rfl rfl rfl ?_
      refine KW.tT rfl rfl (by rw [g2]; rfl) ?_
      refine KW.ldF 1 hv rfl rfl rfl rfl rfl rfl rfl rfl rfl ?_
      refine KW.ldF 2 hv rfl rfl rfl rfl rfl rfl rfl rfl rfl ?_
      refine KW.callE rfl rfl rfl rfl rfl (l00In _ _ _) (fun _ _ => ?_)
      exact KW.ret rfl rfl rfl rfl (⟨_, rfl⟩)
theorem l02Ok {n : Int} (hn : 1 ≤ n ∧ n ≤ 7) {d : Nat} (hd : d ≤ 50) {g : Gt} {cs : List Value} {id k : Nat} (hg : GF n d g) (hR : RG d S H0 g cs) (hv : Has3 S H0 id k cs) :
    Spec Try.prog S H0 266 [.int .i64 n, .pointer (some ⟨id, k, none⟩)] (fun v => ∃ b : Bool, v = .bool b) := by
  refine Spec.of1 Try.func266 rfl (by kernel_rfl) rfl (fun H _ => ?_)
  refine KW.callE rfl rfl rfl rfl rfl (l00In _ _ _) (fun _ _ => ?_)
  refine KW.tT rfl rfl (by simp; omega) ?_
  refine KW.call rfl rfl rfl rfl rfl (l02Left d hg (RG.more d (fun i h => h) (On.R (d := KG d) hR)) hv.up ⟨by decide, by decide⟩) (fun v _ _ hv => ?_)
  obtain ⟨r, rfl, r1, r2⟩ := hv
  refine KW.tst rfl rfl (fun k1 => ?_) (fun k1 => ?_)
  · refine KW.call rfl rfl rfl rfl rfl (l02Depth d (by omega) hg (On.R (d := KG d) hR) hv.up) (fun v _ _ hv => ?_)
    obtain ⟨m, rfl, m1, m2⟩ := hv
    refine KW.tst rfl rfl (fun k2 => ?_) (fun k2 => ?_)
    · refine KW.call rfl rfl rfl rfl rfl (l02Form ⟨by omega, by omega⟩ d hg (On.R (d := KG d) hR) hv.up) (fun v _ _ hv => ?_)
      obtain ⟨b, rfl⟩ := hv
      exact KW.ret rfl rfl rfl rfl (⟨_, rfl⟩)
    · exact KW.ret rfl rfl rfl rfl (⟨_, rfl⟩)
  · refine KW.tF rfl rfl (by first | (simp; done) | decide) ?_
    exact KW.ret rfl rfl rfl rfl (⟨_, rfl⟩)
theorem l04Wide {n p : Int} : ∀ (d : Nat) {S : Ids} {H0 : AH} {g : Gt} {cs : List Value} {id k : Nat}, GF n d g → RG d S H0 g cs → Has3 S H0 id k cs →
    Spec Try.prog S H0 248 [.pointer (some ⟨id, k, none⟩), .int .i64 p] (fun v => ∃ b : Bool, v = .bool b ∧ (b = false → NW p d g)) := by
  intro d
  induction d with
  | zero =>
    intro S H0 g cs id k hg hR hv
    obtain ⟨a, c, rfl, hk⟩ := hR.form
    have hk0 := hg.1
    refine Spec.of1 Try.func248 rfl (by kernel_rfl) rfl (fun H _ => ?_)
    have hv := hv.up (S' := Low H.n) (H' := H)
    refine KW.ldF 2 hv rfl rfl rfl rfl rfl rfl rfl rfl rfl ?_
    refine KW.cnd rfl rfl (fun k1 => ?_) (fun k1 => ?_)
    · exact KW.ret rfl rfl rfl rfl (⟨true, rfl, fun h => by cases h⟩)
    have k1 : ¬ (g.ks.length : Int) ≥ p := k1
    refine KW.lp rfl rfl (fun _ : Unit => [(0, .pointer (some ⟨id, k, none⟩)), (1, .int .i64 p), (5, .int .i64 0)]) (fun _ => True) (fun _ => 0) (()) (trivial) ⟨rfl, rfl, rfl, trivial⟩ (fun _ hi bE n => ?_)
    refine KW.ldF 2 hv rfl rfl rfl rfl rfl rfl rfl rfl rfl ?_
    refine KW.no rfl rfl (by rw [hk0]; simp) ?_
    exact KW.ret rfl rfl rfl rfl (⟨false, rfl, fun _ => by show (g.ks.length : Int) < p; omega⟩)
  | succ d ih =>
    intro S H0 g cs id k hg hR hv
    obtain ⟨a, c, rfl, hk⟩ := hR.form
    have h4 := hg.kids
    refine Spec.of1 Try.func248 rfl (by kernel_rfl) rfl (fun H _ => ?_)
    have hv := hv.up (S' := Low H.n) (H' := H)
    refine KW.ldF 2 hv rfl rfl rfl rfl rfl rfl rfl rfl rfl ?_
    refine KW.cnd rfl rfl (fun k1 => ?_) (fun k1 => ?_)
    · exact KW.ret rfl rfl rfl rfl (⟨true, rfl, fun h => by cases h⟩)
    have k1 : ¬ (g.ks.length : Int) ≥ p := k1
    refine KW.lp rfl rfl (fun i : Nat => [(0, .pointer (some ⟨id, k, none⟩)), (1, .int .i64 p), (5, .int .i64 i)]) (fun i => i ≤ g.ks.length ∧ ∀ j, j < i → ∀ y, g.ks[j]? = some y → NW p d y) (fun i => g.ks.length - i) (0) (⟨Nat.zero_le _, fun j hj => absurd hj (Nat.not_lt_zero _)⟩) ⟨rfl, rfl, rfl, trivial⟩ (fun i hi bE n => ?_)
    obtain ⟨i1, i2⟩ := hi
    refine KW.ldF 2 hv rfl rfl rfl rfl rfl rfl rfl rfl rfl ?_
    refine KW.cnd rfl rfl (fun k2 => ?_) (fun k2 => ?_)
    · have k2 : (i : Int) < (g.ks.length : Int) := k2
      rcases hk with hk | ⟨d', e, hk⟩
      · rw [hk] at k2; simp at k2; omega
      obtain rfl : d' = d := by omega
      refine KW.ldF 2 hv rfl rfl rfl rfl rfl rfl rfl rfl rfl ?_
      refine KW.adS hk.up rfl rfl rfl rfl rfl rfl rfl rfl rfl (by omega) (k2) (fun y cy id2 q hy hRy hat => ?_)
      have hy : g.ks[i]? = some y := hy
      refine KW.call rfl rfl rfl rfl rfl (ih (hg.kid (List.mem_of_getElem? hy)) hRy hat) (fun v _ _ hv => ?_)
      obtain ⟨b, rfl, hb⟩ := hv
      refine KW.cndB rfl rfl (fun k3 => ?_) (fun k3 => ?_)
      · exact KW.ret rfl rfl rfl rfl (⟨true, rfl, fun h => by cases h⟩)
      · refine KW.nxt rfl rfl (fun H' g => ⟨i + 1, ⟨by omega, upto i2 (fun z hz => by rw [hy] at hz; cases hz; exact hb k3)⟩, by first | omega | (simp only; omega), ⟨rfl, rfl, congrArg (Value.int .i64) (inc64 (by omega)), trivial⟩, g⟩)
    · have k2 : ¬ (i : Int) < (g.ks.length : Int) := k2
      have hw : NW p (d + 1) g := ⟨by omega, fun y hy => by
        obtain ⟨j, hj⟩ := List.getElem?_of_mem hy
        exact i2 j (by have := (List.getElem?_eq_some_iff.1 hj).1; omega) y hj⟩
      exact KW.ret rfl rfl rfl rfl (⟨false, rfl, fun _ => hw⟩)
end
end Go.Proofs.Ytijmkfnmdhpakaa.Am
/- Slices seen from elsewhere; lists of short groups. Each holds under its own conditions. -/
set_option linter.unusedVariables false
set_option linter.unusedSimpArgs false
namespace Go.Proofs.Ytijmkfnmdhpakaa.Am
open Go Go.RowKit Go.Proofs
theorem Kn.Sl.stX {α : Type} {d : Kn α} {S S' : Ids} {H H' : AH} {s : Value} {xs : List α} (h : d.Sl S H s xs) (t : ∀ id, S id → S' id ∧ H'.m id = H.m id) : d.Sl S' H' s xs := (h.same fun id hid => (t id hid).2).more fun id hid => (t id hid).1
end Go.Proofs.Ytijmkfnmdhpakaa.Am
/- Contracts: the source of choices of the reference. Each holds under its own conditions. -/
set_option linter.unusedVariables false
set_option linter.unusedSimpArgs false
set_option maxRecDepth 20000
set_option maxHeartbeats 1000000
namespace Go.Proofs.Ytijmkfnmdhpakaa.Am
open Go Go.RowKit Go.Proofs
abbrev KB : Kn Int := Kn.int .u8
/-- A source that has been read at so many places. -/
def Src (ac : Option Addr) (n cc : Nat) (A : AH) (id at_ : Nat) : Prop := ∃ sd : Int, A.m id = some ⟨233, true, [.slice ac n cc, .int .i64 at_, .int .u64 sd]⟩
theorem srcOf {ac : Option Addr} {n cc : Nat} {A : AH} {id at_ : Nat} {w sd : Int} (h : A.m id = some ⟨233, true, [.slice ac n cc, .int .i64 w, .int .u64 sd]⟩) (e : w = (at_ : Nat)) : Src ac n cc A id at_ := ⟨sd, by rw [h, e]⟩
theorem and255 (x : Int) : (BitVec.ofInt IntKind.u64.bits x &&& BitVec.ofInt IntKind.u64.bits 255).toNat ≤ 255 := by
  rw [BitVec.toNat_and]
  exact Nat.le_trans Nat.and_le_right (by decide)
theorem last255 (x : Int) : ∃ z : Nat, z < 256 ∧ Value.int .i64 (IntKind.i64.wrap (IntKind.u64.wrap ((BitVec.ofInt IntKind.u64.bits x &&& BitVec.ofInt IntKind.u64.bits 255).toNat : Int))) = .int .i64 z := by
  have h := and255 x
  exact ⟨_, Nat.lt_succ_of_le h, congrArg (Value.int .i64) (by rw [wru (by omega) (by omega), wr (by omega) (by omega)])⟩
section
variable {S : Ids} {H0 : AH}
theorem srcNext {bs : List Int} (hb : ∀ x ∈ bs, 0 ≤ x ∧ x < 256) (hl : bs.length ≤ 1048576) {ac : Option Addr} {cc id at_ : Nat} {Y : Ids} (hat : at_ ≤ 1000000) (hS : S id) (hY : ∀ i, Y i → S i ∧ i ≠ id) (hsrc : Src ac bs.length cc H0 id at_) (hs : KB.Sl Y H0 (.slice ac bs.length cc) bs) :
    SpecW Try.prog S H0 (fun i => i = id) 191 [.pointer (some ⟨id, 0, none⟩)] (fun n v H1 => ∃ z : Nat, z < 256 ∧ v = .int .i64 z ∧ Src ac bs.length cc H1 id (at_ + 1)) := by
  obtain ⟨sd, hm⟩ := hsrc
  refine SpecW.of Try.func191 rfl (by kernel_rfl) rfl hS hm (fun H hfin hfz => ?_)
  have hs := hs.stX (S' := fun i => Low H.n i ∧ i ≠ id) (H' := H) (fun i hi => ⟨⟨(hfz i (hY i hi).1).1, (hY i hi).2⟩, (hfz i (hY i hi).1).2⟩)
  refine KW.ldT 0 rfl rfl rfl rfl rfl rfl rfl ?_
  refine KW.ldT 0 rfl rfl rfl rfl rfl rfl rfl ?_
  refine KW.cnd rfl rfl (fun k1 => ?gin) (fun k1 => ?gout)
  case' gin =>
    have k1 : (at_ : Int) < (bs.length : Int) := k1
    refine KW.ldT 0 rfl rfl rfl rfl rfl rfl rfl ?_
    refine KW.ldT 0 rfl rfl rfl rfl rfl rfl rfl ?_
    refine KW.getI hs rfl rfl rfl rfl rfl rfl rfl rfl rfl rfl rfl rfl rfl rfl rfl rfl (by omega) (k1) (fun y hy => ?_)
    have hyb := hb y (List.mem_of_getElem? hy)
  case' gout =>
    have k1 : ¬ (at_ : Int) < (bs.length : Int) := k1
  all_goals
    have ei : IntKind.i64.wrap ((at_ : Int) + 1) = ((at_ + 1 : Nat) : Int) := inc64 (by omega)
    refine KW.ldT 0 rfl rfl rfl rfl rfl rfl rfl ?_
    refine KW.st1 0 rfl rfl rfl rfl rfl rfl rfl rfl rfl rfl rfl rfl (by simp) ?_
    refine KW.ldT 0 rfl rfl rfl rfl rfl rfl rfl ?_
    refine KW.st1 0 rfl rfl rfl rfl rfl rfl rfl rfl rfl rfl rfl rfl (by simp) ?_
    refine KW.ldT 0 rfl rfl rfl rfl rfl rfl rfl ?_
    refine KW.ldT 0 rfl rfl rfl rfl rfl rfl rfl ?_
  case gin =>
    refine KW.yes rfl rfl (by rw [ei]; omega) ?_
    have e0 : IntKind.i64.wrap y = y := wr (by omega) (by omega)
    refine KW.retW rfl rfl rfl rfl (fun H1 g => by have := g.n_; omega) (fun i hi hw => ⟨⟨hi, hw⟩, rfl⟩) (fun H1 g => ⟨y.toNat, by omega, ?_, ?_⟩)
    · show Value.int .i64 (IntKind.i64.wrap y) = _
      rw [e0, Int.toNat_of_nonneg hyb.1]
    · have h := (g.blk (j := 0) rfl).1
      exact srcOf h ei
  case gout =>
    refine KW.no rfl rfl (by rw [ei]; omega) ?_
    refine KW.ldT 0 rfl rfl rfl rfl rfl rfl rfl ?_
    refine KW.retW rfl rfl rfl rfl (fun H1 g => by have := g.n_; omega) (fun i hi hw => ⟨⟨hi, hw⟩, rfl⟩) (fun H1 g => ?_)
    have h := (g.blk (j := 0) rfl).1
    have hsrc : Src ac bs.length cc H1 id (at_ + 1) := by
      exact srcOf h ei
    exact Exists.imp (fun z hz => ⟨hz.1, hz.2, hsrc⟩) (last255 _)
/-- What a choice leaves. -/
def SrcP (ac : Option Addr) (n cc id at_ : Nat) (p : Nat → Prop) (v : Value) (H1 : AH) : Prop := ∃ z at' : Nat, p z ∧ at_ ≤ at' ∧ at' ≤ at_ + 2 ∧ v = .int .i64 z ∧ Src ac n cc H1 id at'
theorem srcPick {bs : List Int} (hb : ∀ x ∈ bs, 0 ≤ x ∧ x < 256) (hl : bs.length ≤ 1048576) {ac : Option Addr} {cc id at_ : Nat} {Y : Ids} {n : Int} (hn : n ≤ 1000000) (hat : at_ ≤ 900000) (hS : S id) (hY : ∀ i, Y i → S i ∧ i ≠ id) (hsrc : Src ac bs.length cc H0 id at_) (hs : KB.Sl Y H0 (.slice ac bs.length cc) bs) :
    SpecW Try.prog S H0 (fun i => i = id) 127 [.pointer (some ⟨id, 0, none⟩), .int .i64 n] (fun _ v H1 => SrcP ac bs.length cc id at_ (fun z => 1 ≤ n → (z : Int) < n) v H1) := by
  refine SpecW.of0 Try.func127 rfl (by kernel_rfl) rfl (fun H hfin hfz => ?_)
  have fx : ∀ i, S i → Low H.n i ∧ H.m i = H0.m i := fun i hi => hfz i hi
  have hid : id < H.n := (fx id hS).1
  have hsrcH : Src ac bs.length cc H id at_ := by obtain ⟨sd, h⟩ := hsrc; exact ⟨sd, (fx id hS).2.trans h⟩
  have hsH := hs.stX (S' := fun i => Low H.n i ∧ i ≠ id) (H' := H) (fun i hi => ⟨⟨(fx i (hY i hi).1).1, (hY i hi).2⟩, (fx i (hY i hi).1).2⟩)
  refine KW.cnd rfl rfl (fun k1 => ?_) (fun k1 => ?_)
  · have k1 : n ≤ 1 := k1
    refine KW.retW rfl rfl rfl rfl (fun H1 g => by have := g.n_; omega) (fun i hi hw => ⟨hi, rfl⟩) (fun H1 g => ⟨0, at_, fun h => by omega, Nat.le_refl _, by omega, rfl, ?_⟩)
    obtain ⟨sd, h⟩ := hsrcH
    exact ⟨sd, (g.froz id hid).2.trans h⟩
  · have k1 : ¬ n ≤ 1 := k1
    obtain ⟨m, rfl⟩ : ∃ m : Nat, n = m := ⟨n.toNat, by omega⟩
    refine KW.callW (W := fun i => i = id) (fun i hi => by subst hi; exact hid) rfl rfl rfl rfl rfl (srcNext (S := Low H.n) (H0 := H) hb hl (by omega) hid (fun i hi => hi) hsrcH hsH) (fun v H1 S1 hn1 st1 hw1 hp => ?_)
    obtain ⟨z1, hz1, rfl, hsrc1⟩ := hp
    refine KW.cnd rfl rfl (fun k2 => ?_) (fun k2 => ?_)
    · have t1 : ∀ i, Low H.n i ∧ i ≠ id → (S1 i ∧ i ≠ id) ∧ H1.m i = H.m i := fun i hi => ⟨⟨(st1 i hi.1).1, hi.2⟩, (st1 i hi.1).2 hi.2⟩
      refine KW.callW (W := fun i => i = id) (fun i hi => by subst hi; exact (st1 i hid).1) rfl rfl rfl rfl rfl (srcNext (S := S1) (H0 := H1) hb hl (by omega) (st1 id hid).1 (fun i hi => hi) hsrc1 (hsH.stX t1)) (fun v H2 S2 hn2 st2 hw2 hp => ?_)
      obtain ⟨z2, hz2, rfl, hsrc2⟩ := hp
      have e1 : IntKind.i64.wrap (IntKind.i64.wrap ((z1 : Int) * 256) + (z2 : Int)) = ((z1 * 256 + z2 : Nat) : Int) := by rw [wr (x := (z1 : Int) * 256) (by omega) (by omega), wr (by omega) (by omega)]; omega
      refine KW.rem rfl rfl rfl rfl rfl rfl (by rw [e1]; omega) (by omega) ?_
      refine KW.retW rfl rfl rfl rfl (fun H3 g => by have := g.n_; omega) (fun i hi hw => ⟨(st2 i (st1 i hi).1).1, ((st2 i (st1 i hi).1).2 hw).trans ((st1 i hi).2 hw)⟩) (fun H3 g => ⟨((z1 * 256 + z2 : Nat) % m), at_ + 2, fun h => ?_, by omega, by omega, ?_, ?_⟩)
      · have := Nat.mod_lt (z1 * 256 + z2) (show 0 < m by omega)
        omega
      · show Value.int .i64 (IntKind.i64.wrap (IntKind.i64.wrap ((z1 : Int) * 256) + (z2 : Int)) % (m : Int)) = _
        rw [e1]
        rfl
      · obtain ⟨sd, h⟩ := hsrc2
        exact ⟨sd, (g.froz id (st2 id (st1 id hid).1).1).2.trans h⟩
    · refine KW.rem rfl rfl rfl rfl rfl rfl (by omega) (by omega) ?_
      refine KW.retW rfl rfl rfl rfl (fun H3 g => by have := g.n_; omega) (fun i hi hw => ⟨(st1 i hi).1, (st1 i hi).2 hw⟩) (fun H3 g => ⟨z1 % m, at_ + 1, fun h => ?_, by omega, by omega, ?_, ?_⟩)
      · have := Nat.mod_lt z1 (show 0 < m by omega)
        omega
      · rfl
      · obtain ⟨sd, h⟩ := hsrc1
        exact ⟨sd, (g.froz id (st1 id hid).1).2.trans h⟩
theorem srcOne {bs : List Int} (hb : ∀ x ∈ bs, 0 ≤ x ∧ x < 256) (hl : bs.length ≤ 1048576) {ac : Option Addr} {cc id at_ : Nat} {Y : Ids} {n : Int} (hn : n ≤ 1000000) (hat : at_ ≤ 900000) (hS : S id) (hY : ∀ i, Y i → S i ∧ i ≠ id) (hsrc : Src ac bs.length cc H0 id at_) (hs : KB.Sl Y H0 (.slice ac bs.length cc) bs) :
    SpecW Try.prog S H0 (fun i => i = id) 128 [.pointer (some ⟨id, 0, none⟩), .int .i64 n] (fun _ v H1 => ∃ (b : Bool) (at' : Nat), at_ ≤ at' ∧ at' ≤ at_ + 2 ∧ v = .bool b ∧ Src ac bs.length cc H1 id at') := by
  refine SpecW.of0 Try.func128 rfl (by kernel_rfl) rfl (fun H hfin hfz => ?_)
  have fx : ∀ i, S i → Low H.n i ∧ H.m i = H0.m i := fun i hi => hfz i hi
  have hid : id < H.n := (fx id hS).1
  have hsrcH : Src ac bs.length cc H id at_ := by obtain ⟨sd, h⟩ := hsrc; exact ⟨sd, (fx id hS).2.trans h⟩
  have hsH := hs.stX (S' := fun i => Low H.n i ∧ i ≠ id) (H' := H) (fun i hi => ⟨⟨(fx i (hY i hi).1).1, (hY i hi).2⟩, (fx i (hY i hi).1).2⟩)
  refine KW.callW (W := fun i => i = id) (fun i hi => by subst hi; exact hid) rfl rfl rfl rfl rfl (srcPick (S := Low H.n) (H0 := H) hb hl hn hat hid (fun i hi => hi) hsrcH hsH) (fun v H1 S1 hn1 st1 hw1 hp => ?_)
  obtain ⟨z, at', _, h1, h2, rfl, sd, hm⟩ := hp
  refine KW.retW rfl rfl rfl rfl (fun H3 g => by have := g.n_; omega) (fun i hi hw => ⟨(st1 i hi).1, (st1 i hi).2 hw⟩) (fun H3 g => ⟨_, at', h1, h2, rfl, sd, (g.froz id (st1 id hid).1).2.trans hm⟩)
theorem built_Src (a : Option Addr) (n c : Nat) : Try.prog.built 233 [(0, .slice a n c)] = some #[.slice a n c, .int .i64 0, .int .u64 0] := by kernel_rfl
theorem srcFrom {a : Option Addr} {n c : Nat} : SpecM Try.prog S H0 115 [.slice a n c] (fun m v H1 => ∃ (o : Nat) (sp : Option Nat), v = .pointer (some ⟨o, 0, sp⟩) ∧ New m H1.n o ∧ Src a n c H1 o 0) := by
  refine SpecM.of1 Try.func115 rfl (by kernel_rfl) rfl (fun H _ => ?_)
  refine KW.build rfl rfl rfl rfl rfl (built_Src _ _ _) ?_
  refine KW.retM1 rfl rfl rfl rfl (fun H1 g => ?_)
  exact ⟨_, _, rfl, ⟨g.ge (H1 := H) (j := 0) rfl, (g.blk (j := 0) rfl).2⟩, _, (g.blk (j := 0) rfl).1⟩
end
end Go.Proofs.Ytijmkfnmdhpakaa.Am
/- The least groups of a family, in plain Lean: how many there are, and their order. Each holds under its own conditions. -/
set_option linter.unusedVariables false
set_option linter.unusedSimpArgs false
set_option maxRecDepth 20000
namespace Go.Proofs.Ytijmkfnmdhpakaa.Am
open Go Go.RowKit Go.Proofs Go.Proofs.Ytijmkfnmdhpakaa.Pl
theorem sw_len {L : List (List Int)} {n a : Nat} : (sw L n a).length = L.length := by simp [sw]
/-- A set that opens, no part of which does. -/
def Mn (q : Nat) (op : Nat → Prop) (c : Nat) : Prop := op c ∧ ∀ h, h < q → c.testBit h = true → ¬ op (dif c (2 ^ h))
noncomputable def minsU (q : Nat) (op : Nat → Prop) (n : Nat) : List (List Int) := ((List.range n).filter fun c => tv (Mn q op c)).map fun c => hold c q
end Go.Proofs.Ytijmkfnmdhpakaa.Am
/- Contracts: lists put in order by insertion. Each holds under its own conditions. -/
set_option linter.unusedVariables false
set_option linter.unusedSimpArgs false
set_option maxRecDepth 20000
set_option maxHeartbeats 1000000
namespace Go.Proofs.Ytijmkfnmdhpakaa.Am
open Go Go.RowKit Go.Proofs Go.Proofs.Ytijmkfnmdhpakaa.Pl
theorem sl_form {S : Ids} {A : AH} {v : Value} {x : List Int} (h : KI.Sl S A v x) : ∃ a c, v = .slice a x.length c := by
  rcases h with ⟨rfl, a, c, e, _⟩ | ⟨id, k, c, b, e, _⟩
  · exact ⟨a, c, e⟩
  · exact ⟨_, c, e⟩
theorem RowsB.at_ {S V : Ids} {A : AH} {rows : List (List Int)} {cs : List Value} (h : RowsB KI.ml S A V rows cs) {j : Nat} {x : List Int} (hx : rows[j]? = some x) : ∃ a c, cs[j]? = some (.slice a x.length c) ∧ KI.Sl S A (.slice a x.length c) x := by
  obtain ⟨v, W, h1, h2, h3, _⟩ := h.row1 hx
  obtain ⟨a, c, rfl⟩ := sl_form h2.sl
  exact ⟨a, c, h1, h2.sl.stX (fun i hi => ⟨h.sub i (h3 i hi), rfl⟩)⟩
theorem at_of {L : List (List Int)} {k : Nat} (h : k < L.length) : ∃ x, L[k]? = some x ∧ L.getD k [] = x := ⟨L[k], List.getElem?_eq_getElem h, by rw [List.getD_eq_getElem?_getD, List.getElem?_eq_getElem h]; rfl⟩
/-- Rows again where all their blocks are. -/
theorem RowsB.back {S V Y : Ids} {A A1 A2 : AH} {rows rows0 : List (List Int)} {cs cs0 : List Value} (h : RowsB KI.ml S A V rows cs) (h0 : RowsB KI.ml Y A2 V rows0 cs0) (t : ∀ i, V i → A1.m i = A.m i) : RowsB KI.ml Y A1 V rows cs := by
  obtain ⟨W, h1, h2, h3⟩ := h.rows
  refine ⟨h.len, h0.sub, W, h1, h2, fun j x hx => ?_⟩
  obtain ⟨v, h4, h5⟩ := h3 j x hx
  exact ⟨v, h4, KI.ml.same (fun id hid => t id (h1 j id hid)) h5⟩
structure IsS where
  k : Nat
  L : List (List Int)
  cs : List Value
section
variable {S : Ids} {H0 : AH}
end
end Go.Proofs.Ytijmkfnmdhpakaa.Am
/- Contracts: lists put in order, by the reference and by the sort of slices. Each holds under its own conditions. -/
set_option linter.unusedVariables false
set_option linter.unusedSimpArgs false
set_option maxRecDepth 20000
set_option maxHeartbeats 1000000
namespace Go.Proofs.Ytijmkfnmdhpakaa.Am
open Go Go.RowKit Go.Proofs Go.Proofs.Ytijmkfnmdhpakaa.Pl
section
variable {S : Ids} {H0 : AH}
end
end Go.Proofs.Ytijmkfnmdhpakaa.Am
/- What the laws' own functions do at Sequence: sizes, copies, equality, marks. Each holds under its own conditions. -/
set_option linter.unusedVariables false
set_option maxRecDepth 20000
namespace Go.Proofs.Ytijmkfnmdhpakaa.Am
open Go Go.RowKit Go.Proofs
abbrev T_Sequence : Type := (List Int) × (List (List Int)) × (List (List Int))
abbrev M_Sequence : Kn T_Sequence := Kn.mp (M_Int64S) (Kn.mp (M_Int64SS) (M_Int64SS))
section
variable {S : Ids} {H0 : AH} {W : Ids} {left k : Int}
end
end Go.Proofs.Ytijmkfnmdhpakaa.Am
/- Contracts: chains of the program and of the reference: what may stand behind another one. Each holds under its own conditions. -/
set_option linter.unusedVariables false
set_option linter.unusedSimpArgs false
set_option maxRecDepth 20000
namespace Go.Proofs.Ytijmkfnmdhpakaa.Am
open Go Go.RowKit Go.Proofs
/-- A set that may stand behind another one with a part of what is known. -/
def Steps (gs : List (List Int)) (b x w : Nat) : Prop := Opens gs (x ||| w) ∧ ¬ Opens gs (b ||| w)
def Chd (gs : List (List Int)) (k b x : Nat) : Prop := x &&& k = 0 ∧ x ≠ b ∧ x &&& b = b ∧ ¬ Opens gs x
/-- The least part of what is known, if there is one. -/
def Least (gs : List (List Int)) (k b x w : Nat) (ok : Bool) : Prop :=
  (ok = true ∧ w ≤ k ∧ (k &&& w = w ∧ Steps gs b x w) ∧ ∀ v, v < w → ¬ (k &&& v = v ∧ Steps gs b x v)) ∨ (ok = false ∧ w = 0 ∧ ∀ v, v ≤ k → ¬ (k &&& v = v ∧ Steps gs b x v))
section
variable {S : Ids} {H0 : AH}
theorem steps {m : Nat} (hm : m ≤ 7) (h : Int) {b x w : Nat} (hb : b < 256) (hx : x < 256) (hw : w < 256) {gs : List (List Int)} (hsm : Sml gs) (hbe : Below' m gs) {a c} (hs : KI.sl.Sl S H0 (.slice a gs.length c) gs) :
    Spec Try.prog S H0 139 [familyV h (.slice a gs.length c), .int .u64 b, .int .u64 x, .int .u64 w] (fun v => v = .bool (tv (Steps gs b x w))) := by
  refine Spec.of1 Try.func139 rfl (by kernel_rfl) rfl (fun H _ => ?_)
  have o1 : x ||| w < 2 ^ 8 := Nat.or_lt_two_pow (by omega) (by omega)
  have o2 : b ||| w < 2 ^ 8 := Nat.or_lt_two_pow (by omega) (by omega)
  have e8 : (2 : Nat) ^ 8 = 256 := by decide
  have e1 := or_u64 (a := x) (b := w) (by omega) (by omega)
  have e2 := or_u64 (a := b) (b := w) (by omega) (by omega)
  refine KW.callE rfl rfl rfl rfl rfl ((by show Spec _ _ _ _ [familyV h (.slice a gs.length c), .int .u64 (IntKind.u64.wrap _)] _; rw [e1]; exact opens hm h (by omega) hsm hbe hs.up)) (fun _ _ => ?_)
  refine KW.tstB rfl rfl (fun k1 => ?_) (fun k1 => ?_)
  · have k1 := tv_iff.1 k1
    refine KW.callE rfl rfl rfl rfl rfl ((by show Spec _ _ _ _ [familyV h (.slice a gs.length c), .int .u64 (IntKind.u64.wrap _)] _; rw [e2]; exact opens hm h (by omega) hsm hbe hs.up)) (fun _ _ => ?_)
    refine KW.ret rfl rfl rfl rfl ?_
    show Value.bool (!tv (Opens gs (b ||| w))) = _
    by_cases k2 : Opens gs (b ||| w)
    · rw [tv_true k2, tv_false (p := Steps gs b x w) (fun hc => hc.2 k2)]; rfl
    · rw [tv_false k2, tv_true (p := Steps gs b x w) ⟨k1, k2⟩]; rfl
  · exact KW.ret rfl rfl rfl rfl (by rw [tv_false (p := Steps gs b x w) (fun hc => by rw [tv_true hc.1] at k1; cases k1)]; rfl)
theorem least {m : Nat} (hm : m ≤ 7) (h : Int) {k b x : Nat} (hk : k < 256) (hb : b < 256) (hx : x < 256) {gs : List (List Int)} (hsm : Sml gs) (hbe : Below' m gs) {a c} (hs : KI.sl.Sl S H0 (.slice a gs.length c) gs) :
    Spec Try.prog S H0 131 [familyV h (.slice a gs.length c), .int .u64 k, .int .u64 b, .int .u64 x] (fun v => ∃ (w : Nat) (ok : Bool), v = .tuple #[.int .u64 w, .bool ok] ∧ Least gs k b x w ok) := by
  refine Spec.of1 Try.func131 rfl (by kernel_rfl) rfl (fun H _ => ?_)
  refine KW.lp rfl rfl (fun w : Nat => [(1, .int .u64 k), (2, .int .u64 b), (3, .int .u64 x), (4, .pointer (some ⟨H.n, 0, some 0⟩)), (10, .int .u64 w)]) (fun w => w ≤ k + 1 ∧ ∀ v, v < w → ¬ (k &&& v = v ∧ Steps gs b x v)) (fun w => k + 1 - w) (0) (⟨by omega, fun v hv => absurd hv (by omega)⟩) ⟨rfl, rfl, rfl, rfl, rfl, trivial⟩ (fun w hi bE n => ?_)
  obtain ⟨hw, hv⟩ := hi
  refine KW.cnd rfl rfl (fun k1 => ?_) (fun k1 => ?_)
  · have k1 : (w : Int) ≤ k := k1
    refine KW.callE rfl rfl rfl rfl rfl (contains (x := k) (y := w) (by omega) (by omega)) (fun _ _ => ?_)
    refine KW.tstB rfl rfl (fun k2 => ?_) (fun k2 => ?_)
    · have k2 := tv_iff.1 k2
      refine KW.callE rfl rfl rfl rfl rfl (steps hm h (b := b) (x := x) (w := w) hb hx (by omega) hsm hbe hs.up) (fun _ _ => ?_)
      refine KW.cndB rfl rfl (fun k3 => ?_) (fun k3 => ?_)
      · exact KW.ret rfl rfl rfl rfl (⟨w, true, rfl, .inl ⟨rfl, by omega, ⟨k2, tv_iff.1 k3⟩, hv⟩⟩)
      · refine KW.nxt rfl rfl (fun H' g => ⟨w + 1, ⟨by omega, upto hv (fun hc => by rw [tv_true hc.2] at k3; cases k3)⟩, by first | omega | (simp only; omega), ⟨rfl, rfl, rfl, rfl, congrArg (Value.int .u64) (incu64 (by omega)), trivial⟩, g⟩)
    · refine KW.cF rfl rfl (by first | (simp; done) | decide) ?_
      refine KW.nxt rfl rfl (fun H' g => ⟨w + 1, ⟨by omega, upto hv (fun hc => by rw [tv_true hc.1] at k2; cases k2)⟩, by first | omega | (simp only; omega), ⟨rfl, rfl, rfl, rfl, congrArg (Value.int .u64) (incu64 (by omega)), trivial⟩, g⟩)
  · have k1 : ¬ (w : Int) ≤ k := k1
    exact KW.ret rfl rfl rfl rfl (⟨0, false, rfl, .inr ⟨rfl, rfl, fun v hv' => hv v (by omega)⟩⟩)
/-- A list of one row. -/
theorem Good.row1 {S0 : Ids} {T : List Var} {n j id c : Nat} {H1 H2 : AH} {ty : TypeId} {a : Option Addr} {c' : Nat} {xs : List Int} (g : Good S0 H1 T n H2) (hT : T[j]? = some (id, ⟨ty, true, [.slice a xs.length c']⟩)) (h : KI.Sl (Low H2.n) H2 (.slice a xs.length c') xs) (hc : 1 ≤ c) : KI.sl.Sl (Low H2.n) H2 (.slice (some ⟨id, 0, some 1⟩) [xs].length c) [xs] := by
  have hb := g.blk hT
  refine .inr ⟨id, 0, c, _, rfl, hc, hb.2, hb.1, by simp [Kn.sl], fun i x hx => ?_⟩
  cases i with
  | zero => cases hx; exact ⟨_, rfl, h⟩
  | succ i => simp at hx
end
end Go.Proofs.Ytijmkfnmdhpakaa.Am
/- Contracts: SequenceFor of the program. Each holds under its own conditions. -/
set_option linter.unusedVariables false
set_option linter.unusedSimpArgs false
set_option maxRecDepth 20000
namespace Go.Proofs.Ytijmkfnmdhpakaa.Am
open Go Go.RowKit Go.Proofs
theorem Least.one {gs : List (List Int)} {k b x w w' : Nat} {ok ok' : Bool} (h : Least gs k b x w ok) (h' : Least gs k b x w' ok') : w = w' ∧ ok = ok' := by
  rcases h with ⟨rfl, h1, h2, h3⟩ | ⟨rfl, rfl, h1⟩ <;> rcases h' with ⟨rfl, k1, k2, k3⟩ | ⟨rfl, rfl, k1⟩
  · rcases Nat.lt_trichotomy w w' with h | h | h
    · exact absurd h2 (k3 w h)
    · exact ⟨h, rfl⟩
    · exact absurd k2 (h3 w' h)
  · exact absurd h2 (k1 w h1)
  · exact absurd k2 (h1 w' (by omega))
  · exact ⟨rfl, rfl⟩
/-- What stands before place i. -/
def bef (ns : List Nat) (i : Nat) : Nat := if i = 0 then 0 else ns.getD (i - 1) 0
open Classical in
noncomputable def leastW (gs : List (List Int)) (k b x : Nat) : Nat := if h : ∃ w, Least gs k b x w true then Classical.choose h else 0
/-- The chain may go on at place i. -/
def OkAt (gs : List (List Int)) (k : Nat) (ns : List Nat) (i : Nat) : Prop := Chd gs k (bef ns i) (ns.getD i 0) ∧ ∃ w, Least gs k (bef ns i) (ns.getD i 0) w true
abbrev nums (chain : List (List Int)) : List Nat := chain.map bitsOf
noncomputable def withAt (gs : List (List Int)) (k : Nat) (ns : List Nat) (i : Nat) : List Int := hold (leastW gs k (bef ns i) (ns.getD i 0)) 7
noncomputable def withs (gs : List (List Int)) (k : Nat) (ns : List Nat) (n : Nat) : List (List Int) := (List.range n).map (withAt gs k ns)
def MkQC (r : T_Sequence) (code : Int) (n : Nat) (v : Value) (H1 : AH) : Prop := ∃ cs : List Value, v = .tuple #[.agg cs.toArray, .int .i64 code] ∧ M_Sequence.R (New n H1.n) H1 r cs
theorem nilM {X : Ids} {H : AH} {α : Type} {d : Kn α} : d.ml.R X H [] [.slice none 0 0] := ml1' (.inl ⟨rfl, _, _, rfl, fun _ => rfl⟩)
theorem seqNil {X : Ids} {H : AH} : M_Sequence.R X H ([], [], []) [.slice none 0 0, .slice none 0 0, .slice none 0 0] :=
  mpR (X := None_) (cs := [.slice none 0 0]) nilM (mpR (X := None_) (Y := None_) (cs := [.slice none 0 0]) nilM nilM (fun _ p => p.elim) (fun _ p => p.elim) (fun _ p _ => p.elim)) (fun _ p => p.elim) (fun _ p => p) (fun _ p _ => p.elim)
theorem MkQC.nil {code : Int} {n : Nat} {v : Value} {H1 : AH} (hv : v = .tuple #[.agg #[.slice none 0 0, .slice none 0 0, .slice none 0 0], .int .i64 code]) : MkQC ([], [], []) code n v H1 := ⟨_, hv, seqNil⟩
/-- The state of the loop. -/
structure SqS where
  i : Nat
  S : Ids
  A : AH
  l1 : Value
  l2 : Value
  tail : List Var
  V1 : Ids
  V2 : Ids
  c1 : List Value
  c2 : List Value
structure SqI (gs : List (List Int)) (k : Nat) (chain : List (List Int)) (SA : Ids) (HA : AH) (s : SqS) : Prop where
  le : s.i ≤ chain.length
  old : St SA HA s.S s.A
  b1 : RowsB KI.ml s.S s.A s.V1 (chain.take s.i) s.c1
  b2 : RowsB KI.ml s.S s.A s.V2 (withs gs k (nums chain) s.i) s.c2
  v1 : ∀ id, s.V1 id → HA.n ≤ id
  v2 : ∀ id, s.V2 id → HA.n ≤ id
  dis : ∀ id, s.V1 id → s.V2 id → False
  ok : ∀ j, j < s.i → OkAt gs k (nums chain) j
  form : (s.i = 0 ∧ s.l1 = .slice none 0 0 ∧ s.l2 = .slice none 0 0 ∧ s.tail = [] ∧ s.c1 = [] ∧ s.c2 = []) ∨ (0 < s.i ∧ ∃ o1 o2, s.l1 = .slice (some ⟨o1, 0, some 1⟩) s.i s.i ∧ s.l2 = .slice (some ⟨o2, 0, some 1⟩) s.i s.i ∧ s.tail = [(o1, ⟨28, true, s.c1⟩), (o2, ⟨28, true, s.c2⟩)])
theorem SqI.next {gs : List (List Int)} {k : Nat} {chain : List (List Int)} {SA : Ids} {HA : AH} {s : SqS} (h : SqI gs k chain SA HA s) {SC SG : Ids} {HC HG : AH} {n1 n2 : Nat} {y : List Int} {v1 v2 l1 l2 : Value} {tail : List Var} (t1 : St s.S s.A SC HC) (t2 : St SC HC SG HG) (w1 : On (New n1 HC.n) HC SC HC) (w2 : On (New n2 HG.n) HG SG HG) (low : ∀ id, s.S id → id < n1) (hn : HA.n ≤ n1) (hn2 : HC.n ≤ n2) (hn3 : n1 ≤ HC.n) (hy : chain[s.i]? = some y) (hc : KI.Ml (New n1 HC.n) HC v1 y) (hg : KI.Ml (New n2 HG.n) HG v2 (withAt gs k (nums chain) s.i)) (ok : OkAt gs k (nums chain) s.i)
    (form : 0 < s.i + 1 ∧ ∃ o1 o2, l1 = .slice (some ⟨o1, 0, some 1⟩) (s.i + 1) (s.i + 1) ∧ l2 = .slice (some ⟨o2, 0, some 1⟩) (s.i + 1) (s.i + 1) ∧ tail = [(o1, ⟨28, true, s.c1 ++ [v1]⟩), (o2, ⟨28, true, s.c2 ++ [v2]⟩)]) :
    SqI gs k chain SA HA ⟨s.i + 1, SG, HG, l1, l2, tail, fun id => s.V1 id ∨ New n1 HC.n id, fun id => s.V2 id ∨ New n2 HG.n id, s.c1 ++ [v1], s.c2 ++ [v2]⟩ := by
  obtain ⟨hil, rfl⟩ := List.getElem?_eq_some_iff.1 hy
  haveI o1 : On s.S s.A SC HC := ⟨t1⟩
  haveI o2 : On SC HC SG HG := ⟨t2⟩
  have et : chain.take (s.i + 1) = chain.take s.i ++ [chain[s.i]] := List.take_succ_eq_append_getElem hil
  have ew : withs gs k (nums chain) (s.i + 1) = withs gs k (nums chain) s.i ++ [withAt gs k (nums chain) s.i] := by unfold withs; rw [List.range_succ, List.map_append]; rfl
  have lowV1 : ∀ id, s.V1 id → id < n1 := fun id hid => low id (h.b1.sub id hid)
  have lowV2 : ∀ id, s.V2 id → id < n1 := fun id hid => low id (h.b2.sub id hid)
  have c2 : KI.ml.R (New n1 HC.n) HG chain[s.i] [v1] := ml1' (hc.same (fun id hid => (t2 id (w1.st id hid).1).2))
  refine ⟨by simp only; omega, (h.old.trans t1).trans t2, ?_, ?_, fun id hid => hid.elim (h.v1 id) (fun p => by have := p.1; omega), fun id hid => hid.elim (h.v2 id) (fun p => by have := p.1; omega), fun id p q => ?_, upto h.ok ok, .inr form⟩
  · simp only [et]
    exact ((h.b1.up (S' := SC) (A' := HC)).up (S' := SG) (A' := HG)).snoc c2 (fun id hid => (t2 id (w1.st id hid).1).1) (fun id p q => by have := lowV1 id p; have := q.1; omega)
  · simp only [ew]
    exact ((h.b2.up (S' := SC) (A' := HC)).up (S' := SG) (A' := HG)).snoc (ml1' hg) (fun id hid => (w2.st id hid).1) (fun id p q => by have := lowV2 id p; have := q.1; omega)
  · rcases p with p | p <;> rcases q with q | q
    · exact h.dis id p q
    · have := lowV1 id p; have := q.1; omega
    · have := lowV2 id q; have := p.1; omega
    · have := p.2; have := q.1; omega
section
variable {S : Ids} {H0 : AH}
end
end Go.Proofs.Ytijmkfnmdhpakaa.Am
/- Contracts: DualRanks of the reference. Each holds under its own conditions. -/
set_option linter.unusedVariables false
set_option linter.unusedSimpArgs false
set_option maxRecDepth 20000
namespace Go.Proofs.Ytijmkfnmdhpakaa.Am
open Go Go.RowKit Go.Proofs
section
variable {S : Ids} {H0 : AH}
end
end Go.Proofs.Ytijmkfnmdhpakaa.Am
/- Contracts: SequenceFor of the reference. Each holds under its own conditions. -/
set_option linter.unusedVariables false
set_option linter.unusedSimpArgs false
set_option maxRecDepth 20000
namespace Go.Proofs.Ytijmkfnmdhpakaa.Am
open Go Go.RowKit Go.Proofs
section
variable {S : Ids} {H0 : AH}
end
section
variable {S : Ids} {H0 : AH}
end
end Go.Proofs.Ytijmkfnmdhpakaa.Am
/- Contracts: SequenceFor of the reference, its answer. Each holds under its own conditions. -/
set_option linter.unusedVariables false
set_option linter.unusedSimpArgs false
set_option maxRecDepth 20000
namespace Go.Proofs.Ytijmkfnmdhpakaa.Am
open Go Go.RowKit Go.Proofs
section
variable {S : Ids} {H0 : AH}
end
end Go.Proofs.Ytijmkfnmdhpakaa.Am
/- Contracts: the least sets of which something is so, as groups in order; families made of them. Each holds under its own conditions. -/
set_option linter.unusedVariables false
set_option linter.unusedSimpArgs false
set_option maxRecDepth 20000
set_option maxHeartbeats 1000000
namespace Go.Proofs.Ytijmkfnmdhpakaa.Am
open Go Go.RowKit Go.Proofs Go.Proofs.Ytijmkfnmdhpakaa.Pl
structure CrS where
  j : Nat
  S : Ids
  A : AH
  V : Ids
  cs : List Value
  o : Nat
structure CrI (q : Nat) (op : Nat → Prop) (H : AH) (s : CrS) : Prop where
  le : s.j ≤ 2 ^ q
  old : St (Low H.n) H s.S s.A
  b : RowsB KI.ml s.S s.A s.V (minsU q op s.j) s.cs
  v : ∀ id, s.V id → H.n ≤ id
  o : H.n ≤ s.o
section
variable {S : Ids} {H0 : AH}
end
end Go.Proofs.Ytijmkfnmdhpakaa.Am
/- Contracts: RanksFamily of the program. Each holds under its own conditions. -/
set_option linter.unusedVariables false
set_option linter.unusedSimpArgs false
set_option maxRecDepth 20000
set_option maxHeartbeats 1000000
namespace Go.Proofs.Ytijmkfnmdhpakaa.Am
open Go Go.RowKit Go.Proofs Go.Proofs.Ytijmkfnmdhpakaa.Pl
section
variable {S : Ids} {H0 : AH}
end
end Go.Proofs.Ytijmkfnmdhpakaa.Am
/- Contracts: the groups of a table, in the reference. Each holds under its own conditions. -/
set_option linter.unusedVariables false
set_option linter.unusedSimpArgs false
set_option maxRecDepth 20000
set_option maxHeartbeats 1000000
namespace Go.Proofs.Ytijmkfnmdhpakaa.Am
open Go Go.RowKit Go.Proofs Go.Proofs.Ytijmkfnmdhpakaa.Pl
section
variable {S : Ids} {H0 : AH}
/-- A table of which so much has been filled in. -/
structure Tb (gs : List (List Int)) (N b : Nat) (cs : List Bool) : Prop where
  len : cs.length = N
  done : ∀ j, j < b → cs[j]? = some (tv (Opens gs j))
  rest : ∀ j, b < j → j < N → cs[j]? = some false
end
end Go.Proofs.Ytijmkfnmdhpakaa.Am
/- Contracts: families out of a table, and of groups, in the reference. Each holds under its own conditions. -/
set_option linter.unusedVariables false
set_option linter.unusedSimpArgs false
set_option maxRecDepth 20000
set_option maxHeartbeats 1000000
namespace Go.Proofs.Ytijmkfnmdhpakaa.Am
open Go Go.RowKit Go.Proofs Go.Proofs.Ytijmkfnmdhpakaa.Pl
section
variable {S : Ids} {H0 : AH}
end
end Go.Proofs.Ytijmkfnmdhpakaa.Am
/- Contracts: threshold families of the reference. Each holds under its own conditions. -/
set_option linter.unusedVariables false
set_option linter.unusedSimpArgs false
set_option maxRecDepth 20000
set_option maxHeartbeats 1000000
namespace Go.Proofs.Ytijmkfnmdhpakaa.Am
open Go Go.RowKit Go.Proofs Go.Proofs.Ytijmkfnmdhpakaa.Pl
section
variable {S : Ids} {H0 : AH}
end
end Go.Proofs.Ytijmkfnmdhpakaa.Am
/- Groups and their numbers. Each holds under its own conditions. -/
set_option linter.unusedVariables false
set_option linter.unusedSimpArgs false
namespace Go.Proofs.Ytijmkfnmdhpakaa.Am
open Go Go.RowKit Go.Proofs
end Go.Proofs.Ytijmkfnmdhpakaa.Am
/- Families made of the least sets that open are valid, in plain Lean. Each holds under its own conditions. -/
set_option linter.unusedVariables false
set_option linter.unusedSimpArgs false
set_option maxRecDepth 20000
namespace Go.Proofs.Ytijmkfnmdhpakaa.Am
open Go Go.RowKit Go.Proofs Go.Proofs.Ytijmkfnmdhpakaa.Pl
end Go.Proofs.Ytijmkfnmdhpakaa.Am
/- Contracts: families drawn by the reference. Each holds under its own conditions. -/
set_option linter.unusedVariables false
set_option linter.unusedSimpArgs false
set_option maxRecDepth 20000
set_option maxHeartbeats 2000000
namespace Go.Proofs.Ytijmkfnmdhpakaa.Am
open Go Go.RowKit Go.Proofs Go.Proofs.Ytijmkfnmdhpakaa.Pl
theorem RowsB.mv {S S' V : Ids} {A A' : AH} {rows : List (List Int)} {cs : List Value} (h : RowsB KI.ml S A V rows cs) (t : ∀ i, V i → S' i ∧ A'.m i = A.m i) : RowsB KI.ml S' A' V rows cs := by
  obtain ⟨W, h1, h2, h3⟩ := h.rows
  refine ⟨h.len, fun i hi => (t i hi).1, W, h1, h2, fun j x hx => ?_⟩
  obtain ⟨v, h4, h5⟩ := h3 j x hx
  exact ⟨v, h4, KI.ml.same (fun id hid => (t id (h1 j id hid)).2) h5⟩
end Go.Proofs.Ytijmkfnmdhpakaa.Am
/- Contract: the family that the reference draws. It holds under its own conditions. -/
set_option linter.unusedVariables false
set_option linter.unusedSimpArgs false
set_option maxRecDepth 20000
set_option maxHeartbeats 4000000
namespace Go.Proofs.Ytijmkfnmdhpakaa.Am
open Go Go.RowKit Go.Proofs Go.Proofs.Ytijmkfnmdhpakaa.Pl
/-- Where a drawer stands: all is as it was, but for its source. -/
structure DwE (H : AH) (id : Nat) (S : Ids) (A : AH) : Prop where
  sid : S id
  old : ∀ i, Low H.n i ∧ i ≠ id → S i ∧ A.m i = H.m i
theorem DwE.w {H : AH} {id : Nat} {S S' : Ids} {A A' : AH} (e : DwE H id S A) (st : StW (fun i => i = id) S A S' A') : DwE H id S' A' :=
  ⟨(st id e.sid).1, fun i hi => ⟨(st i (e.old i hi).1).1, ((st i (e.old i hi).1).2 hi.2).trans (e.old i hi).2⟩⟩
theorem DwE.s {H : AH} {id : Nat} {S S' : Ids} {A A' : AH} (e : DwE H id S A) (st : St S A S' A') : DwE H id S' A' :=
  ⟨(st id e.sid).1, fun i hi => ⟨(st i (e.old i hi).1).1, (st i (e.old i hi).1).2.trans (e.old i hi).2⟩⟩
theorem DwE.kb {H : AH} {id : Nat} {S : Ids} {A : AH} {s : Value} {xs : List Int} (e : DwE H id S A) (h : KB.Sl (fun i => Low H.n i ∧ i ≠ id) H s xs) : KB.Sl (fun i => S i ∧ i ≠ id) A s xs := h.stX (fun i hi => ⟨⟨(e.old i hi).1, hi.2⟩, (e.old i hi).2⟩)
theorem Src.mv {ac : Option Addr} {n cc id at_ : Nat} {A A' : AH} (h : Src ac n cc A id at_) (e : A'.m id = A.m id) : Src ac n cc A' id at_ := by
  obtain ⟨sd, h⟩ := h
  exact ⟨sd, e.trans h⟩
theorem DwE.nle {H : AH} {id n : Nat} {S : Ids} {A : AH} (e : DwE H id S A) (h : ∀ i, S i → i < n) : H.n ≤ n := by
  rcases Nat.lt_or_ge n H.n with h1 | h1
  · by_cases e1 : n = id
    · have := h id e.sid; omega
    · have := h n (e.old n ⟨h1, e1⟩).1; omega
  · exact h1
structure DwS where
  i : Nat
  S : Ids
  A : AH
  at_ : Nat
  V : Ids
  G : List (List Int)
  cs : List Value
  o : Nat
structure DwI (q a0 : Nat) (H : AH) (id : Nat) (ac : Option Addr) (n cc : Nat) (s : DwS) : Prop where
  env : DwE H id s.S s.A
  src : Src ac n cc s.A id s.at_
  at1 : s.at_ ≤ a0 + 20 * s.G.length
  lo : 1 ≤ s.G.length + s.i
  hi : s.G.length + s.i ≤ 4
  b : RowsB KI.ml s.S s.A s.V s.G s.cs
  v : ∀ i, s.V i → H.n ≤ i
  ok : ∀ g ∈ s.G, Rises 0 ((q : Int) - 1) g ∧ g ≠ []
structure DiS where
  h : Nat
  S : Ids
  A : AH
  at_ : Nat
  xs : List Int
  o : Nat
structure DiI (a0 : Nat) (H : AH) (id : Nat) (ac : Option Addr) (n cc : Nat) (V : Ids) (G : List (List Int)) (cs : List Value) (s : DiS) : Prop where
  env : DwE H id s.S s.A
  src : Src ac n cc s.A id s.at_
  at1 : s.at_ ≤ a0 + 2 * s.h
  b : RowsB KI.ml s.S s.A V G cs
  ok : Rises 0 ((s.h : Int) - 1) s.xs
  len : s.xs.length ≤ s.h
section
variable {S : Ids} {H0 : AH}
end
end Go.Proofs.Ytijmkfnmdhpakaa.Am
/- Contracts: primes and matrices drawn by the reference. Each holds under its own conditions. -/
set_option linter.unusedVariables false
set_option linter.unusedSimpArgs false
set_option maxRecDepth 20000
set_option maxHeartbeats 2000000
namespace Go.Proofs.Ytijmkfnmdhpakaa.Am
open Go Go.RowKit Go.Proofs Go.Proofs.Ytijmkfnmdhpakaa.Pl
section
variable {S : Ids} {H0 : AH}
theorem srcAmong {bs : List Int} (hb : ∀ x ∈ bs, 0 ≤ x ∧ x < 256) (hl : bs.length ≤ 1048576) {ac : Option Addr} {cc id at_ : Nat} {Y : Ids} {ls : List Int} {a c} (hn : ls.length ≤ 1000) (hn1 : 1 ≤ ls.length) (hat : at_ ≤ 800000) (hS : S id) (hY : ∀ i, Y i → S i ∧ i ≠ id) (hsrc : Src ac bs.length cc H0 id at_) (hs : KB.Sl Y H0 (.slice ac bs.length cc) bs) (hls : KI.Sl Y H0 (.slice a ls.length c) ls) :
    SpecW Try.prog S H0 (fun i => i = id) 221 [.pointer (some ⟨id, 0, none⟩), .slice a ls.length c] (fun _ v H1 => ∃ (y : Int) (at' : Nat), y ∈ ls ∧ at_ ≤ at' ∧ at' ≤ at_ + 2 ∧ v = .int .i64 y ∧ Src ac bs.length cc H1 id at') := by
  refine SpecW.of0 Try.func221 rfl (by kernel_rfl) rfl (fun H hfin hfz => ?_)
  have fx : ∀ i, S i → Low H.n i ∧ H.m i = H0.m i := fun i hi => hfz i hi
  have hid : id < H.n := (fx id hS).1
  have t0 : ∀ i, Y i → (Low H.n i ∧ i ≠ id) ∧ H.m i = H0.m i := fun i hi => ⟨⟨(fx i (hY i hi).1).1, (hY i hi).2⟩, (fx i (hY i hi).1).2⟩
  have hsH := hs.stX t0
  have hlH := hls.stX t0
  have E0 : DwE H id (Low H.n) H := ⟨hid, fun i hi => ⟨hi.1, rfl⟩⟩
  refine KW.callW (W := fun i => i = id) (fun i hi => by subst hi; exact E0.sid) rfl rfl rfl rfl rfl (srcPick (S := Low H.n) (H0 := H) hb hl (n := (ls.length : Int)) (by omega) (by omega) E0.sid (fun i hi => hi) (hsrc.mv (fx id hS).2) (E0.kb hsH)) (fun v H1 S1 hn1 st1 hw1 hp => ?_)
  obtain ⟨z1, a1, hz1, l1, u1, rfl, src1⟩ := hp
  have hz1 := hz1 (by omega)
  have E1 := E0.w st1
  refine KW.getI ((hlH.stX (S' := S1) (H' := H1) (fun i hi => E1.old i hi))) rfl rfl rfl rfl rfl rfl rfl rfl rfl rfl rfl rfl rfl rfl rfl rfl (by omega) (hz1) (fun y hy => ?_)
  refine KW.retW rfl rfl rfl rfl (fun H9 g => by have := g.n_; omega) (fun i hi hw => E1.old i ⟨hi, hw⟩) (fun H9 g => ⟨y, a1, List.mem_of_getElem? hy, l1, u1, rfl, src1.mv (g.froz id E1.sid).2⟩)
end
end Go.Proofs.Ytijmkfnmdhpakaa.Am
/- Rules: append to one's own list, which is full; a writer's call with a variable given up ahead of it. For every program. No condition beyond each theorem's own. -/
set_option linter.unusedVariables false
set_option linter.unusedSimpArgs false
namespace Go.Proofs.Ytijmkfnmdhpakaa.Am
open Go Go.RowKit Go.Proofs
section
variable {P : Program} {S : Ids} {H0 : AH} {Q : PostC} {k k1 : List It} {e e1 : Env} {T T1 : List Var} {n n1 : Nat} {l1 r1 : List Nat} {d1 : Tmp}
/-- A call of a writer; the variable j and those behind it are given up ahead of it. -/
theorem KW.callWF (j : Nat) {f : Operand} {xs : Array Operand} {ts : Array TypeId} {g : FuncId} {first cap : Array Value} {o : Oper} {o2 : Nat} {b : Blk} (h : Go1 P k e T n (.op o false) k1 e1 T1 n1 l1 r1) (hlr : l1 = r1) (ho : o.op = .call { callee := .value f, args := xs, argTypes := ts }) (hd : o.dst = some d1) (hf : ev e1 f = .func (.func g) first cap) (hj : T1[j]? = some (o2, b))
    (hk : ∀ (A' : AH) (S' : Ids), A'.n = n1 → (∀ id, S' id ↔ S id ∨ id = o2) → Stp S H0 S' A' → A'.m o2 = some b → o2 < n1 → ¬ S o2 → (∀ id, S id → id < n1) → ∃ (W : Ids) (post : Nat → Value → AH → Prop), (∀ id, W id → S' id) ∧ SpecW P S' A' W g (cargs e1 first cap xs) post ∧ ∀ v H1 (S'' : Ids), n1 ≤ H1.n → StW W S' A' S'' H1 → (∀ id, New n1 H1.n id → S'' id) → post n1 v H1 → KW P S'' H1 Q H1.n (T1.take j) k1 (put1 e1 d1 (untag v))) : KW P S H0 Q n T k e := by
  refine KW.go h hlr (fun H gd => ?_)
  replace gd : Good S H0 T1 n1 H := gd
  have hv := gd.vars j _ hj
  have get : ∀ {i : Nat} {u : Var}, (T1.take j)[i]? = some u → i < j ∧ T1[i]? = some u := fun {i u} hi => by
    rw [List.getElem?_take] at hi
    split at hi
    · exact ⟨by assumption, hi⟩
    · cases hi
  obtain ⟨S2, hS2⟩ : ∃ S2 : Ids, S2 = fun id => S id ∨ id = o2 := ⟨_, rfl⟩
  obtain ⟨W, post, hW, hs, hk⟩ := hk H S2 gd.n_ (fun id => by rw [hS2]) ⟨fun id hid => ⟨by rw [hS2]; exact .inl hid, (gd.froz id hid).2⟩⟩ hv.1 hv.2.1 hv.2.2 (fun id hid => (gd.froz id hid).1)
  have gd : Good S2 H (T1.take j) n1 H := by
    subst hS2
    refine ⟨gd.n_, gd.fin, fun id hid => ⟨?_, rfl⟩, fun i u hi => ?_, fun i1 i2 u w h1 h2 he => gd.dist i1 i2 u w (get h1).2 (get h2).2 he⟩
    · rcases hid with hid | rfl
      · exact (gd.froz id hid).1
      · exact hv.2.1
    · obtain ⟨h1, h2⟩ := get hi
      have h3 := gd.vars i u h2
      refine ⟨h3.1, h3.2.1, fun h => ?_⟩
      rcases h with h | h
      · exact h3.2.2 h
      · have := gd.dist i j u _ h2 hj h; omega
  clear get hv
  clear hS2
  obtain ⟨m, v, H1, h1, hx1, hx2, hfin, hp⟩ := hs H gd.fin gd.fz
  have hn : H.n = n1 := gd.n_
  have e : untags (first ++ aargs e1 xs ++ cap) = (cargs e1 first cap xs).toArray := by
    apply Array.ext'
    simp [aargs, untags, cargs]
  refine ⟨m, untag v, H1, ?_, ?_⟩
  · rw [ho]
    simp only [evOp, evCall, hf]
    exact ⟨v, rfl, by rw [e]; exact h1, fun h => by cases h⟩
  · rw [hn] at hp
    rw [hd, put1_eq]
    refine hk v H1 (fun id => S2 id ∨ New n1 H1.n id) (by rw [← hn]; exact hx1) (fun id hid => ⟨.inl hid, fun hw => ?_⟩) (fun id hid => .inr hid) hp H1 ?_
    · obtain ⟨h2, h3⟩ := gd.froz id hid
      rw [hx2 id (by omega) hw]
    · refine ⟨rfl, hfin, fun id hid => ⟨?_, rfl⟩, fun j w hj => ?_, gd.dist⟩
      · rcases hid with hid | hid
        · have := (gd.froz id hid).1; omega
        · exact hid.2
      · obtain ⟨h2, h3, h4⟩ := gd.vars j w hj
        refine ⟨by rw [hx2 _ (by omega) (fun hw => h4 (hW _ hw))]; exact h2, by omega, fun hh => ?_⟩
        rcases hh with hh | hh
        · exact h4 hh
        · have := hh.1; omega
end
/-- A function that writes, opened with its calls marked in the regions Z. -/
theorem SpecW.of0L {P : Program} {S : Ids} {H0 : AH} {W : Ids} (Z : List Nat) {f : FuncId} {fn : Func} {c : Code} {args : List Value} {post : Nat → Value → AH → Prop} (hf : P.funcs[f]? = some fn) (hb : fn.body = some c) (hok : fnOk fn = true) (hst : stC (relab Z c) = true) (hs : Nat.ble args.length fn.ntmps = true)
    (h : ∀ H, Fin' H → Fz S H0 H → KW P (Low H.n) H (Fin1 P fn (fun v H1 => H.n ≤ H1.n ∧ (∀ id, id < H.n → ¬ W id → H1.m id = H.m id) ∧ Fin' H1 ∧ post H.n v H1)) H.n [] [.code (relab Z c)] (fun t => args.getD t undef)) : SpecW P S H0 W f args post := by
  intro H hfin hfz
  refine Run.of hf hb hok (by simpa using Nat.le_of_ble_eq_true hs) ?_
  rw [envL_eq]
  exact ((h H hfin hfz).wc hst (Good.start hfin)).relab
section
variable {P : Program} {S : Ids} {H0 : AH} {Q : PostC} {k k1 : List It} {e e1 : Env} {T T1 : List Var} {n n1 : Nat} {l1 r1 : List Nat} {d1 : Tmp}
/-- What is read loosely is a variable, or frozen and not written. -/
def AllW (S W : Ids) (T : List Var) (e : Env) : List Tmp → Prop
  | [] => True
  | u :: L => ((∃ (i : Nat) (b : Blk) (id k : Nat) (s : Option Nat), e u = .pointer (some ⟨id, k, s⟩) ∧ T[i]? = some (id, b)) ∨ ∃ (id k : Nat) (s : Option Nat), e u = .pointer (some ⟨id, k, s⟩) ∧ S id ∧ ¬ W id) ∧ AllW S W T e L
/-- A call of a writer, with loads ahead of it that it does not wait for. -/
theorem KW.callWL {f : Operand} {xs : Array Operand} {ts : Array TypeId} {g : FuncId} {first cap : Array Value} {o : Oper} {W : Ids} {L : List Tmp} {post : Nat → Value → AH → Prop} (hW : ∀ id, W id → S id) (h : Go1 P k e T n (.opL o false L) k1 e1 T1 n1 l1 r1) (hlr : l1 = r1) (ho : o.op = .call { callee := .value f, args := xs, argTypes := ts }) (hd : o.dst = some d1) (hf : ev e1 f = .func (.func g) first cap) (hL : AllW S W T1 e1 L)
    (hs : SpecW P S H0 W g (cargs e1 first cap xs) post)
    (hk : ∀ v H1 (S' : Ids), n1 ≤ H1.n → StW W S H0 S' H1 → (∀ id, New n1 H1.n id → S' id) → post n1 v H1 → KW P S' H1 Q H1.n T1 k1 (put1 e1 d1 (untag v))) : KW P S H0 Q n T k e := by
  refine KW.go h hlr (fun H gd => ?_)
  replace gd : Good S H0 T1 n1 H := gd
  obtain ⟨m, v, H1, h1, hx1, hx2, hfin, hp⟩ := hs H gd.fin gd.fz
  have hn : H.n = n1 := gd.n_
  have e : untags (first ++ aargs e1 xs ++ cap) = (cargs e1 first cap xs).toArray := by
    apply Array.ext'
    simp [aargs, untags, cargs]
  refine ⟨m, untag v, H1, ?_, ?_, ?_⟩
  · rw [ho]
    simp only [evOp, evCall, hf]
    exact ⟨v, rfl, by rw [e]; exact h1, fun h => by cases h⟩
  · have hAll : ∀ (L : List Tmp), AllW S W T1 e1 L → ∀ t ∈ L, ∀ id k s, e1 t = .pointer (some ⟨id, k, s⟩) → H1.m id = H.m id := by
      intro L
      induction L with
      | nil => intro _ t ht; cases ht
      | cons u L ih =>
        intro hL t ht id k s he
        rcases List.mem_cons.1 ht with rfl | ht
        · rcases hL.1 with ⟨i, b, id', k', s', h1, h2⟩ | ⟨id', k', s', h1, h2, h3⟩
          · rw [h1] at he
            cases he
            have hv := gd.vars i _ h2
            exact hx2 _ (by omega) (fun hw => hv.2.2 (hW _ hw))
          · rw [h1] at he
            cases he
            exact hx2 _ (by have := (gd.froz _ h2).1; omega) h3
        · exact ih hL.2 t ht id k s he
    exact hAll L hL
  · rw [hn] at hp
    rw [hd, put1_eq]
    refine hk v H1 (fun id => S id ∨ New n1 H1.n id) (by rw [← hn]; exact hx1) (fun id hid => ⟨.inl hid, fun hw => ?_⟩) (fun id hid => .inr hid) hp H1 ?_
    · obtain ⟨h2, h3⟩ := gd.froz id hid
      rw [hx2 id (by omega) hw, h3]
    · refine ⟨rfl, hfin, fun id hid => ⟨?_, rfl⟩, fun j w hj => ?_, gd.dist⟩
      · rcases hid with hid | hid
        · have := (gd.froz id hid).1; omega
        · exact hid.2
      · obtain ⟨h2, h3, h4⟩ := gd.vars j w hj
        refine ⟨by rw [hx2 _ (by omega) (fun hw => h4 (hW _ hw))]; exact h2, by omega, fun hh => ?_⟩
        rcases hh with hh | hh
        · exact h4 hh
        · have := hh.1; omega
end
end Go.Proofs.Ytijmkfnmdhpakaa.Am
/- Contracts: a gate that is drawn. Each holds under its own conditions. -/
set_option linter.unusedVariables false
set_option linter.unusedSimpArgs false
set_option maxRecDepth 20000
set_option maxHeartbeats 4000000
namespace Go.Proofs.Ytijmkfnmdhpakaa.Am
open Go Go.RowKit Go.Proofs
/-- A source, read at no more than so many places. -/
structure SrcB (bs : List Int) (ac : Option Addr) (cc id : Nat) (Y S : Ids) (A : AH) (B : Nat) : Prop where
  hb : ∀ x ∈ bs, 0 ≤ x ∧ x < 256
  hl : bs.length ≤ 1048576
  sid : S id
  y : ∀ i, Y i → S i ∧ i ≠ id
  src : ∃ at_, at_ ≤ B ∧ Src ac bs.length cc A id at_
  kb : KB.Sl Y A (.slice ac bs.length cc) bs
section
variable {bs : List Int} {ac : Option Addr} {cc id B B' : Nat} {Y W S S' : Ids} {A A' : AH}
theorem SrcB.w (h : SrcB bs ac cc id Y S A B) (st : StW W S A S' A') (hW : ∀ i, Y i → ¬ W i) (hs : ∃ at_, at_ ≤ B' ∧ Src ac bs.length cc A' id at_) : SrcB bs ac cc id Y S' A' B' :=
  ⟨h.hb, h.hl, (st id h.sid).1, fun i hi => ⟨(st i (h.y i hi).1).1, (h.y i hi).2⟩, hs, h.kb.stX (fun i hi => ⟨hi, (st i (h.y i hi).1).2 (hW i hi)⟩)⟩
theorem SrcB.s (h : SrcB bs ac cc id Y S A B) (st : St S A S' A') (hB : B ≤ B') : SrcB bs ac cc id Y S' A' B' :=
  ⟨h.hb, h.hl, (st id h.sid).1, fun i hi => ⟨(st i (h.y i hi).1).1, (h.y i hi).2⟩, by obtain ⟨q, h1, h2⟩ := h.src; exact ⟨q, by omega, h2.mv (st id h.sid).2⟩, h.kb.stX (fun i hi => ⟨hi, (st i (h.y i hi).1).2⟩)⟩
theorem SrcB.w1 (h : SrcB bs ac cc id Y S A B) (st : StW (fun i => i = id) S A S' A') (hs : ∃ at_, at_ ≤ B' ∧ Src ac bs.length cc A' id at_) : SrcB bs ac cc id Y S' A' B' := h.w st (fun i hi e => (h.y i hi).2 e) hs
end
/-- All is as it was but for what may be written. -/
structure GwE (H : AH) (W : Ids) (S : Ids) (A : AH) : Prop where
  wid : ∀ i, W i → S i
  old : ∀ i, i < H.n → ¬ W i → S i ∧ A.m i = H.m i
theorem GwE.w {H : AH} {W W' S S' : Ids} {A A' : AH} (e : GwE H W S A) (st : StW W' S A S' A') (hW : ∀ i, W' i → W i ∨ H.n ≤ i) : GwE H W S' A' :=
  ⟨fun i hi => (st i (e.wid i hi)).1, fun i h1 h2 => ⟨(st i (e.old i h1 h2).1).1, ((st i (e.old i h1 h2).1).2 (fun hh => by rcases hW i hh with h | h; exact h2 h; omega)).trans (e.old i h1 h2).2⟩⟩
theorem GwE.s {H : AH} {W S S' : Ids} {A A' : AH} (e : GwE H W S A) (st : St S A S' A') : GwE H W S' A' :=
  ⟨fun i hi => (st i (e.wid i hi)).1, fun i h1 h2 => ⟨(st i (e.old i h1 h2).1).1, ((st i (e.old i h1 h2).1).2).trans (e.old i h1 h2).2⟩⟩
section
variable {S : Ids} {H0 : AH} {bs : List Int} {ac : Option Addr} {cc id B : Nat} {Y : Ids}
theorem pickB {n : Int} (h : SrcB bs ac cc id Y S H0 B) (hB : B ≤ 900000) (hn : n ≤ 1000000) : SpecW Try.prog S H0 (fun i => i = id) 127 [.pointer (some ⟨id, 0, none⟩), .int .i64 n] (fun _ v H1 => ∃ z : Nat, (1 ≤ n → (z : Int) < n) ∧ v = .int .i64 z ∧ ∃ at_, at_ ≤ B + 2 ∧ Src ac bs.length cc H1 id at_) := fun H hf hz => by
  obtain ⟨q, h1, h2⟩ := h.src
  obtain ⟨m, v, H1, k1, k2, k3, k4, z, at', k5, k6, k7, k8, k9⟩ := srcPick h.hb h.hl hn (show q ≤ 900000 by omega) h.sid h.y h2 h.kb H hf hz
  exact ⟨m, v, H1, k1, k2, k3, k4, z, k5, k8, at', by omega, k9⟩
theorem oneB {n : Int} (h : SrcB bs ac cc id Y S H0 B) (hB : B ≤ 900000) (hn : n ≤ 1000000) : SpecW Try.prog S H0 (fun i => i = id) 128 [.pointer (some ⟨id, 0, none⟩), .int .i64 n] (fun _ v H1 => ∃ b : Bool, v = .bool b ∧ ∃ at_, at_ ≤ B + 2 ∧ Src ac bs.length cc H1 id at_) := fun H hf hz => by
  obtain ⟨q, h1, h2⟩ := h.src
  obtain ⟨m, v, H1, k1, k2, k3, k4, b, at', k6, k7, k8, k9⟩ := srcOne h.hb h.hl hn (show q ≤ 900000 by omega) h.sid h.y h2 h.kb H hf hz
  exact ⟨m, v, H1, k1, k2, k3, k4, b, k8, at', by omega, k9⟩
theorem built_Leaf (h : Int) : Try.prog.built 267 [(0, .int .i64 h)] = some #[.int .i64 h, .int .i64 0, .slice none 0 0] := by kernel_rfl
theorem built_Gate (h l : Int) (a : Option Addr) (n c : Nat) : Try.prog.built 267 [(0, .int .i64 h), (1, .int .i64 l), (2, .slice a n c)] = some #[.int .i64 h, .int .i64 l, .slice a n c] := by kernel_rfl
theorem l02Leaf (h : Int) : Spec Try.prog S H0 267 [.int .i64 h] (fun v => v = .agg #[.int .i64 h, .int .i64 0, .slice none 0 0]) := by
  refine Spec.of1 Try.func267 rfl (by kernel_rfl) rfl (fun H _ => ?_)
  refine KW.build rfl rfl rfl rfl rfl (built_Leaf _) ?_
  exact KW.ret rfl rfl rfl rfl (rfl)
theorem l02Gate (l : Int) (a : Option Addr) (n c : Nat) : Spec Try.prog S H0 279 [.int .i64 l, .slice a n c] (fun v => v = .agg #[.int .i64 (-1), .int .i64 l, .slice a n c]) := by
  refine Spec.of1 Try.func279 rfl (by kernel_rfl) rfl (fun H _ => ?_)
  refine KW.build rfl rfl rfl rfl rfl (built_Gate _ _ _ _ _) ?_
  exact KW.ret rfl rfl rfl rfl (rfl)
end
def lcG : Nat → Nat
  | 0 => 1
  | d + 1 => 1 + 4 * lcG d
def scG : Nat → Nat
  | 0 => 4
  | d + 1 => 8 + 4 * scG d
theorem rg_leaf {S : Ids} {A : AH} {h : Int} : ∀ d, RG d S A (.mk h 0 []) [.int .i64 h, .int .i64 0, .slice none 0 0]
  | 0 => ⟨rfl, none, 0, rfl, fun _ => rfl⟩
  | d + 1 => ⟨_, rfl, .inl ⟨rfl, none, 0, rfl, fun _ => rfl⟩⟩
theorem gf_leaf {n h : Int} (h0 : 0 ≤ h) (h1 : h < n) : ∀ d, GF n d (.mk h 0 [])
  | 0 => ⟨rfl, rfl, h0, h1⟩
  | d + 1 => .inl ⟨rfl, rfl, h0, h1⟩
/-- What a gate that is drawn leaves. -/
def GrP (n : Int) (d : Nat) (bs : List Int) (ac : Option Addr) (cc id lid B : Nat) (left : Int) (m : Nat) (v : Value) (H1 : AH) : Prop :=
  ∃ (g : Gt) (cs : List Value), v = .agg cs.toArray ∧ RG d (New m H1.n) H1 g cs ∧ GF n d g ∧ (∃ at_, at_ ≤ B + scG d ∧ Src ac bs.length cc H1 id at_) ∧ ∃ l' : Int, H1.m lid = some ⟨2, true, [.int .i64 l']⟩ ∧ left - lcG d ≤ l' ∧ l' ≤ 100
structure GrS where
  m : Nat
  G : List Gt
  S : Ids
  A : AH
  V : Ids
  o : Nat
  cs : List Value
  lf : Int
structure GrI (n : Int) (d : Nat) (bs : List Int) (ac : Option Addr) (cc id lid : Nat) (Y : Ids) (B : Nat) (left : Int) (H : AH) (s : GrS) : Prop where
  le : s.G.length + s.m ≤ 4
  ge : 1 ≤ s.G.length + s.m
  src : SrcB bs ac cc id Y s.S s.A (B + 4 + s.G.length * scG d)
  E : GwE H (fun i => i = id ∨ i = lid) s.S s.A
  lS : s.S lid
  lm : s.A.m lid = some ⟨2, true, [.int .i64 s.lf]⟩
  l1 : left - 1 - (s.G.length * lcG d : Nat) ≤ s.lf
  l2 : s.lf ≤ 100
  cl : Cl (KG d) s.V s.A s.G s.cs
  cl3 : s.cs.length = s.G.length * 3
  v : ∀ i, s.V i → s.S i ∧ H.n ≤ i
  gf : ∀ g ∈ s.G, GF n d g
section
variable {bs : List Int} {ac : Option Addr} {cc id lid : Nat} {Y : Ids} {N : Int}
theorem l02Grown (hN : 1 ≤ N ∧ N ≤ 7) (hid : id ≠ lid) (hYl : ∀ i, Y i → i ≠ lid) : ∀ (d : Nat) {S : Ids} {H0 : AH} {B : Nat} {left : Int}, d ≤ 4 → SrcB bs ac cc id Y S H0 B → B + scG d ≤ 800000 → S lid → H0.m lid = some ⟨2, true, [.int .i64 left]⟩ → (-100000 ≤ left - lcG d ∧ left ≤ 100) →
    SpecW Try.prog S H0 (fun i => i = id ∨ i = lid) 265 [.pointer (some ⟨id, 0, none⟩), .int .i64 N, .int .i64 d, .pointer (some ⟨lid, 0, none⟩)] (GrP N d bs ac cc id lid B left) := by
  intro d
  induction d with
  | zero =>
    intro S H0 B left hd hsrc hB hlS hlm hlb
    simp only [scG, lcG] at hB hlb
    refine SpecW.of0 Try.func265 rfl (by kernel_rfl) rfl (fun H hfin hfz => ?_)
    have SB0 : SrcB bs ac cc id Y (Low H.n) H B := hsrc.s (fun i hi => hfz i hi) (Nat.le_refl _)
    have hlL : lid < H.n := (hfz lid hlS).1
    have hlm0 : H.m lid = some ⟨2, true, [.int .i64 left]⟩ := (hfz lid hlS).2.trans hlm
    have hL : Has3 (Low H.n) H lid 0 [.int .i64 left] := ⟨hlL, _, hlm0, fun i v hv => by rw [Nat.zero_add]; exact hv⟩
    have E0 : GwE H (fun i => i = id ∨ i = lid) (Low H.n) H := ⟨fun i hi => by rcases hi with h | h; rw [h]; exact SB0.sid; rw [h]; exact hlL, fun i h _ => ⟨h, rfl⟩⟩
    have ew : IntKind.i64.wrap (left - 1) = left - 1 := wr (by omega) (by omega)
    refine KW.ldF 0 hL rfl rfl rfl rfl rfl rfl rfl rfl rfl ?_
    refine KW.thaw lid _ hlL hlm0 ?_
    refine KW.st1 1 rfl rfl rfl rfl rfl rfl rfl rfl rfl rfl rfl rfl (by simp) ?_
    refine KW.freeze 1 rfl (fun A1 S1 hn1 hS1 st1 hm1 hlt1 hno1 hlow1 => ?_)
    have w01 : StW (fun i => i = lid) (Low H.n) H S1 A1 := fun i hi => by
      by_cases e : i = lid
      · exact ⟨(hS1 i).2 (.inr e), fun hh => absurd e hh⟩
      · exact ⟨(st1.st i ⟨hi, e⟩).1, fun _ => (st1.st i ⟨hi, e⟩).2⟩
    have hlm1 : A1.m lid = some ⟨2, true, [.int .i64 (left - 1)]⟩ := by
      have h : A1.m lid = some ⟨2, true, [.int .i64 (IntKind.i64.wrap (left - 1))]⟩ := hm1
      rw [ew] at h
      exact h
    have hl1S : S1 lid := (hS1 _).2 (.inr rfl)
    have SB1 : SrcB bs ac cc id Y S1 A1 B := SB0.w w01 (fun i hi e => hYl i hi e) (by obtain ⟨q, h1, h2⟩ := SB0.src; exact ⟨q, h1, h2.mv ((w01 id SB0.sid).2 hid)⟩)
    have E1 := E0.w w01 (fun i hi => .inl (.inr hi))
    have hL1 : Has3 S1 A1 lid 0 [.int .i64 (left - 1)] := ⟨hl1S, _, hlm1, fun i v hv => by rw [Nat.zero_add]; exact hv⟩
    refine KW.tyes rfl rfl (by decide) ?_
    repeat first | refine KW.tT rfl rfl rfl ?_ | refine KW.tF rfl rfl rfl ?_
    refine KW.cT rfl rfl (by first | (simp; done) | decide) ?_
    · have SX := SB1
      have EX := E1
      have hlSX := hl1S
      have hlmX := hlm1
      refine KW.callW (W := fun i => i = id) (fun i hi => by subst hi; exact SX.sid) rfl rfl rfl rfl rfl (pickB (n := N) SX (by omega) (by omega)) (fun v H7 S7 n7 st7 w7 hv7 => ?_)
      obtain ⟨z7, hz7, rfl, src7⟩ := hv7
      have hz7 := hz7 (by omega)
      have E7 := EX.w st7 (fun i hi => .inl (.inl hi))
      have hlm7 : H7.m lid = some ⟨2, true, [.int .i64 (left - 1)]⟩ := ((st7 lid hlSX).2 (fun e => hid e.symm)).trans hlmX
      refine KW.callE rfl rfl rfl rfl rfl (l02Leaf (z7 : Int)) (fun _ _ => ?_)
      refine KW.retW rfl rfl rfl rfl (fun H9 g => by have := (g.vars 0 _ rfl).2.1; have := g.n_; omega) (fun i h1 h2 => E7.old i h1 h2) (fun H9 g => ?_)
      obtain ⟨q7, u7, src7⟩ := src7
      exact ⟨.mk z7 0 [], _, rfl, rg_leaf _, gf_leaf (Int.natCast_nonneg _) hz7 _, ⟨q7, by simp only [scG]; omega, src7.mv (g.froz id (st7 id SX.sid).1).2⟩, left - 1, (g.froz lid (st7 lid hlSX).1).2.trans hlm7, by simp only [lcG]; omega, by omega⟩
  | succ d ih =>
    intro S H0 B left hd hsrc hB hlS hlm hlb
    have hsc : 4 ≤ scG d := by cases d <;> simp only [scG] <;> omega
    simp only [scG, lcG] at hB hlb
    refine SpecW.of0 Try.func265 rfl (by kernel_rfl) rfl (fun H hfin hfz => ?_)
    have SB0 : SrcB bs ac cc id Y (Low H.n) H B := hsrc.s (fun i hi => hfz i hi) (Nat.le_refl _)
    have hlL : lid < H.n := (hfz lid hlS).1
    have hlm0 : H.m lid = some ⟨2, true, [.int .i64 left]⟩ := (hfz lid hlS).2.trans hlm
    have hL : Has3 (Low H.n) H lid 0 [.int .i64 left] := ⟨hlL, _, hlm0, fun i v hv => by rw [Nat.zero_add]; exact hv⟩
    have E0 : GwE H (fun i => i = id ∨ i = lid) (Low H.n) H := ⟨fun i hi => by rcases hi with h | h; rw [h]; exact SB0.sid; rw [h]; exact hlL, fun i h _ => ⟨h, rfl⟩⟩
    have ew : IntKind.i64.wrap (left - 1) = left - 1 := wr (by omega) (by omega)
    refine KW.ldF 0 hL rfl rfl rfl rfl rfl rfl rfl rfl rfl ?_
    refine KW.thaw lid _ hlL hlm0 ?_
    refine KW.st1 1 rfl rfl rfl rfl rfl rfl rfl rfl rfl rfl rfl rfl (by simp) ?_
    refine KW.freeze 1 rfl (fun A1 S1 hn1 hS1 st1 hm1 hlt1 hno1 hlow1 => ?_)
    have w01 : StW (fun i => i = lid) (Low H.n) H S1 A1 := fun i hi => by
      by_cases e : i = lid
      · exact ⟨(hS1 i).2 (.inr e), fun hh => absurd e hh⟩
      · exact ⟨(st1.st i ⟨hi, e⟩).1, fun _ => (st1.st i ⟨hi, e⟩).2⟩
    have hlm1 : A1.m lid = some ⟨2, true, [.int .i64 (left - 1)]⟩ := by
      have h : A1.m lid = some ⟨2, true, [.int .i64 (IntKind.i64.wrap (left - 1))]⟩ := hm1
      rw [ew] at h
      exact h
    have hl1S : S1 lid := (hS1 _).2 (.inr rfl)
    have SB1 : SrcB bs ac cc id Y S1 A1 B := SB0.w w01 (fun i hi e => hYl i hi e) (by obtain ⟨q, h1, h2⟩ := SB0.src; exact ⟨q, h1, h2.mv ((w01 id SB0.sid).2 hid)⟩)
    have E1 := E0.w w01 (fun i hi => .inl (.inr hi))
    have hL1 : Has3 S1 A1 lid 0 [.int .i64 (left - 1)] := ⟨hl1S, _, hlm1, fun i v hv => by rw [Nat.zero_add]; exact hv⟩
    refine KW.tno rfl rfl (by omega) ?_
    refine KW.ldF 0 hL1 rfl rfl rfl rfl rfl rfl rfl rfl rfl ?_
    refine KW.tst rfl rfl (fun k1 => ?_) (fun k1 => ?_)
    · repeat first | refine KW.tT rfl rfl rfl ?_ | refine KW.tF rfl rfl rfl ?_
      refine KW.cT rfl rfl (by first | (simp; done) | decide) ?_
      have SX := SB1
      have EX := E1
      have hlSX := hl1S
      have hlmX := hlm1
      refine KW.callW (W := fun i => i = id) (fun i hi => by subst hi; exact SX.sid) rfl rfl rfl rfl rfl (pickB (n := N) SX (by omega) (by omega)) (fun v H7 S7 n7 st7 w7 hv7 => ?_)
      obtain ⟨z7, hz7, rfl, src7⟩ := hv7
      have hz7 := hz7 (by omega)
      have E7 := EX.w st7 (fun i hi => .inl (.inl hi))
      have hlm7 : H7.m lid = some ⟨2, true, [.int .i64 (left - 1)]⟩ := ((st7 lid hlSX).2 (fun e => hid e.symm)).trans hlmX
      refine KW.callE rfl rfl rfl rfl rfl (l02Leaf (z7 : Int)) (fun _ _ => ?_)
      refine KW.retW rfl rfl rfl rfl (fun H9 g => by have := (g.vars 0 _ rfl).2.1; have := g.n_; omega) (fun i h1 h2 => E7.old i h1 h2) (fun H9 g => ?_)
      obtain ⟨q7, u7, src7⟩ := src7
      exact ⟨.mk z7 0 [], _, rfl, rg_leaf _, gf_leaf (Int.natCast_nonneg _) hz7 _, ⟨q7, by simp only [scG]; omega, src7.mv (g.froz id (st7 id SX.sid).1).2⟩, left - 1, (g.froz lid (st7 lid hlSX).1).2.trans hlm7, by simp only [lcG]; omega, by omega⟩
    refine KW.callW (W := fun i => i = id) (fun i hi => by subst hi; exact SB1.sid) rfl rfl rfl rfl rfl (oneB (n := 3) SB1 (by omega) (by omega)) (fun v H2 S2 n2 st2 w2 hv2 => ?_)
    obtain ⟨b2, rfl, src2⟩ := hv2
    have SB2 := SB1.w1 st2 src2
    have E2 := E1.w st2 (fun i hi => .inl (.inl hi))
    have hl2S := (st2 lid hl1S).1
    have hlm2 : H2.m lid = some ⟨2, true, [.int .i64 (left - 1)]⟩ := ((st2 lid hl1S).2 (fun e => hid e.symm)).trans hlm1
    refine KW.cndB rfl rfl (fun k2 => ?_) (fun k2 => ?_)
    · have SX := SB2
      have EX := E2
      have hlSX := hl2S
      have hlmX := hlm2
      refine KW.callW (W := fun i => i = id) (fun i hi => by subst hi; exact SX.sid) rfl rfl rfl rfl rfl (pickB (n := N) SX (by omega) (by omega)) (fun v H7 S7 n7 st7 w7 hv7 => ?_)
      obtain ⟨z7, hz7, rfl, src7⟩ := hv7
      have hz7 := hz7 (by omega)
      have E7 := EX.w st7 (fun i hi => .inl (.inl hi))
      have hlm7 : H7.m lid = some ⟨2, true, [.int .i64 (left - 1)]⟩ := ((st7 lid hlSX).2 (fun e => hid e.symm)).trans hlmX
      refine KW.callE rfl rfl rfl rfl rfl (l02Leaf (z7 : Int)) (fun _ _ => ?_)
      refine KW.retW rfl rfl rfl rfl (fun H9 g => by have := (g.vars 0 _ rfl).2.1; have := g.n_; omega) (fun i h1 h2 => E7.old i h1 h2) (fun H9 g => ?_)
      obtain ⟨q7, u7, src7⟩ := src7
      exact ⟨.mk z7 0 [], _, rfl, rg_leaf _, gf_leaf (Int.natCast_nonneg _) hz7 _, ⟨q7, by simp only [scG]; omega, src7.mv (g.froz id (st7 id SX.sid).1).2⟩, left - 1, (g.froz lid (st7 lid hlSX).1).2.trans hlm7, by simp only [lcG]; omega, by omega⟩
    refine KW.litS0 rfl rfl rfl rfl rfl rfl rfl rfl rfl rfl ?_
    refine KW.callW (W := fun i => i = id) (fun i hi => by subst hi; exact SB2.sid) rfl rfl rfl rfl rfl (pickB (n := 4) SB2 (by omega) (by omega)) (fun v H3 S3 n3 st3 w3 hv3 => ?_)
    obtain ⟨z3, hz3, rfl, src3⟩ := hv3
    have hz3 := hz3 (by omega)
    have SB3 := SB2.w1 st3 src3
    have E3 := E2.w st3 (fun i hi => .inl (.inl hi))
    have hl3S := (st3 lid hl2S).1
    have hlm3 : H3.m lid = some ⟨2, true, [.int .i64 (left - 1)]⟩ := ((st3 lid hl2S).2 (fun e => hid e.symm)).trans hlm2
    have e1z : IntKind.i64.wrap (1 + (z3 : Int)) = ((1 + z3 : Nat) : Int) := by rw [wr (by omega) (by omega)]; omega
    have hidL : id < H.n := SB0.sid
    refine KW.lpM rfl rfl (fun s : GrS => [(0, .pointer (some ⟨id, 0, none⟩)), (1, .int .i64 N), (2, .int .i64 (d + 1 : Nat)), (3, .pointer (some ⟨lid, 0, none⟩)), (8, .pointer (some ⟨H.n, 0, some 0⟩)), (9, .slice (some ⟨s.o, 0, some 3⟩) s.G.length s.G.length), (10, .int .i64 s.m)]) (fun s => s.S) (fun s => s.A) (fun s => [(H.n, ⟨267, true, [.int .i64 0, .int .i64 0, .slice none 0 0]⟩), (s.o, ⟨267, true, s.cs⟩)]) (fun s => GrI N d bs ac cc id lid Y B left H s) (fun s => s.m) (⟨1 + z3, [], S3, H3, fun _ => False, _, [], left - 1⟩) (⟨by simp only [List.length_nil]; omega, by simp only [List.length_nil]; omega, SB3.s (fun i hi => ⟨hi, rfl⟩) (by simp only [List.length_nil]; omega), E3, hl3S, hlm3, by simp only [List.length_nil]; omega, by simp only; omega, Cl.nil _ _ _ _, rfl, fun _ h => h.elim, fun g hg => by cases hg⟩) ⟨rfl, rfl, rfl, rfl, rfl, rfl, congrArg (Value.int .i64) e1z, trivial⟩ rfl rfl (rfl) (fun s hi bE n => ?_)
    obtain ⟨m, G, S4, A4, V, o, cs, lf⟩ := s
    refine KW.fact (p := H.n < n) (fun H1 g => (g.vars 0 _ rfl).2.1) (fun hfn => ?_)
    obtain ⟨ile, ige, SB4, E4, l4S, lm4, b41, b42, cl4, cl3, hV, gf⟩ := hi
    simp only at ile ige SB4 E4 l4S lm4 b41 b42 cl4 cl3 hV gf
    have hmul : G.length * scG d ≤ 4 * scG d := Nat.mul_le_mul_right _ (by omega)
    have hmul2 : G.length * lcG d ≤ 4 * lcG d := Nat.mul_le_mul_right _ (by omega)
    have hVW : ∀ i, V i → ¬ (i = id ∨ i = lid) := fun i hi hh => by have := (hV i hi).2; rcases hh with h | h <;> omega
    refine KW.cnd rfl rfl (fun k4 => ?_) (fun k4 => ?_)
    · have k4 : (m : Int) > 0 := k4
      have hG3 : (G.length + 1) * scG d = G.length * scG d + scG d := Nat.succ_mul _ _
      have hG4 : (G.length + 1) * lcG d = G.length * lcG d + lcG d := Nat.succ_mul _ _
      have hG5 : (G.length + 1) * scG d ≤ 4 * scG d := Nat.mul_le_mul_right _ (by omega)
      have hG6 : (G.length + 1) * lcG d ≤ 4 * lcG d := Nat.mul_le_mul_right _ (by omega)
      have ed : IntKind.i64.wrap (((d + 1 : Nat) : Int) - 1) = (d : Int) := by rw [wr (by omega) (by omega)]; omega
      have key := ih (S := S4) (H0 := A4) (B := B + 4 + G.length * scG d) (left := lf) (by omega) SB4 (by omega) l4S lm4 ⟨by omega, b42⟩
      rw [← ed] at key
      refine KW.callW (W := fun i => i = id ∨ i = lid) (fun i hi => E4.wid i hi) rfl rfl rfl rfl rfl key (fun v H5 S5 n5 st5 w5 hv5 => ?_)
      obtain ⟨g5, cs5, rfl, hR5, hg5, src5, l5, hlm5, b51, b52⟩ := hv5
      obtain ⟨ag, cg, rfl, _⟩ := hR5.form
      refine KW.litS1 rfl rfl rfl rfl rfl rfl rfl rfl rfl rfl rfl rfl ?_
      refine KW.appTS (m := 1) (ys := [.int .i64 g5.h, .int .i64 g5.l, .slice ag g5.ks.length cg]) 1 rfl rfl rfl rfl rfl rfl rfl rfl (by decide) rfl (fun H1 g => acells_seg (g.blk (j := 2) rfl).1 (by show 0 + 1 * 3 ≤ 3; decide)) (by show 0 + G.length * 3 ≤ cs.length; omega) rfl (by decide) (by show (G.length + 1) * 40 ≤ _; omega) (by show G.length + 1 ≤ _; omega) ?_
      have clm : Cl (KG d) (fun i => V i ∨ New n H5.n i) H5 G cs := cl4.mv (fun i hi => (st5 i (hV i hi).1).2 (hVW i hi)) (fun i hi => .inl hi)
      have cln := clm.snoc (y := g5) ((KG d).more (fun i hi => .inr hi) hR5)
      have inv5 : ∀ o9, GrI N d bs ac cc id lid Y B left H ⟨m - 1, G ++ [g5], S5, H5, fun i => V i ∨ New n H5.n i, o9, (cs.drop 0).take (G.length * 3) ++ ([.int .i64 g5.h, .int .i64 g5.l, .slice ag g5.ks.length cg] : List Value), l5⟩ := fun o9 => by
        refine ⟨by simp only [List.length_append, List.length_singleton]; omega, by simp only [List.length_append, List.length_singleton]; omega, ?_, E4.w st5 (fun i hi => .inl hi), (st5 lid l4S).1, hlm5, ?_, b52, cln, ?_, fun i hi => ?_, fun g hg => ?_⟩
        · refine SB4.w st5 (fun i hi hh => hh.elim (SB4.y i hi).2 (hYl i hi)) ?_
          obtain ⟨q, u, r⟩ := src5
          exact ⟨q, by simp only [List.length_append, List.length_singleton]; omega, r⟩
        · simp only [List.length_append, List.length_singleton]; omega
        · simp only [List.length_append, List.length_singleton, List.length_take, List.length_drop, List.length_cons, List.length_nil]; omega
        · rcases hi with hi | hi
          · exact ⟨(st5 i (hV i hi).1).1, (hV i hi).2⟩
          · exact ⟨w5 i hi, by have := hi.1; omega⟩
        · rcases List.mem_append.1 hg with hg | hg
          · exact gf g hg
          · rw [List.mem_singleton.1 hg]; exact hg5
      have em : IntKind.i64.wrap ((m : Int) - 1) = ((m - 1 : Nat) : Int) := by rw [wr (by omega) (by omega)]; omega
      refine KW.nxt rfl rfl (fun H' g => ⟨⟨m - 1, G ++ [g5], S5, H5, fun i => V i ∨ New n H5.n i, _, (cs.drop 0).take (G.length * 3) ++ ([.int .i64 g5.h, .int .i64 g5.l, .slice ag g5.ks.length cg] : List Value), l5⟩, inv5 _, by first | omega | (simp only; omega), ⟨rfl, rfl, rfl, rfl, rfl, by simp only [List.length_append, List.length_singleton]; rfl, congrArg (Value.int .i64) em, trivial⟩, (g.take 2).eqT rfl⟩)
    · have k4 : ¬ (m : Int) > 0 := k4
      refine KW.callW (W := fun i => i = id) (fun i hi => by subst hi; exact SB4.sid) rfl rfl rfl rfl rfl (pickB (n := (G.length : Int)) SB4 (by omega) (by omega)) (fun v H5 S5 n5 st5 w5 hv5 => ?_)
      obtain ⟨z5, hz5, rfl, q5, u5, src5⟩ := hv5
      have hz5 := hz5 (by omega)
      have e5 : IntKind.i64.wrap (1 + (z5 : Int)) = 1 + (z5 : Int) := wr (by omega) (by omega)
      refine KW.callE rfl rfl rfl rfl rfl (l02Gate (IntKind.i64.wrap (1 + (z5 : Int))) (some ⟨o, 0, some 3⟩) G.length G.length) (fun _ _ => ?_)
      refine KW.freeze 1 rfl (fun A6 S6 hn6 hS6 st6 hm6 hlt6 hno6 hlow6 => ?_)
      have E5 := E4.w st5 (fun i hi => .inl (.inl hi))
      have E6 := E5.s st6.st
      have ogeH : H.n ≤ o := by
        rcases Nat.lt_or_ge o H.n with h | h
        · by_cases e : o = id ∨ o = lid
          · exact absurd (E5.wid o e) hno6
          · exact absurd (E5.old o h e).1 hno6
        · exact h
      refine KW.retW rfl rfl rfl rfl (fun H9 g => by have := (g.vars 0 _ rfl).2.1; have := g.n_; omega) (fun i h1 h2 => E6.old i h1 h2) (fun H9 g => ?_)
      have fz : ∀ i, S4 i → i ≠ id → H9.m i = A4.m i ∧ i < H9.n := fun i hi he => by
        have h1 := st5 i hi
        have h2 := st6.st i h1.1
        have h3 := g.froz i h2.1
        have := g.n_
        exact ⟨h3.2.trans (h2.2.trans (h1.2 he)), by omega⟩
      have ho9 := g.froz o ((hS6 o).2 (.inr rfl))
      have hn9 := g.n_
      refine ⟨.mk (-1) (IntKind.i64.wrap (1 + (z5 : Int))) G, _, rfl, ⟨_, rfl, ?_⟩, .inr ⟨fun h => by have h : G = [] := h; rw [h] at ige; simp at ige; omega, rfl, by show 1 ≤ IntKind.i64.wrap _; rw [e5]; omega, by show IntKind.i64.wrap _ ≤ (G.length : Int); rw [e5]; omega, by show G.length ≤ 4; omega, gf⟩, ⟨q5, by simp only [scG]; omega, ?_⟩, lf, ?_, by simp only [lcG]; omega, b42⟩
      · have h1 : (KG d).Sl (New H.n H9.n) H9 (.slice (some ⟨o, 0, some 3⟩) G.length G.length) G := Cl.sl (cl4.mv (fun i hi => (fz i (hV i hi).1 (fun e => hVW i hi (.inl e))).1) (fun i hi => hi)) ⟨ogeH, by omega⟩ (ho9.2.trans hm6) rfl (fun i hi => ⟨(hV i hi).2, (fz i (hV i hi).1 (fun e => hVW i hi (.inl e))).2⟩) (Nat.le_refl _)
        exact h1
      · exact src5.mv ((g.froz id (st6.st id (st5 id SB4.sid).1).1).2.trans (st6.st id (st5 id SB4.sid).1).2)
      · exact (fz lid l4S (fun e => hid e.symm)).1.trans lm4
theorem l02Drawn (hN : 1 ≤ N ∧ N ≤ 7) {S : Ids} {H0 : AH} {B : Nat} (hsrc : SrcB bs ac cc id Y S H0 B) (hB : B ≤ 700000) :
    SpecW Try.prog S H0 (fun i => i = id) 247 [.pointer (some ⟨id, 0, none⟩), .int .i64 N, .int .i64 8] (fun m v H1 => ∃ (g : Gt) (cs : List Value), v = .agg cs.toArray ∧ RG 4 (New m H1.n) H1 g cs ∧ GF N 4 g ∧ ∃ at_, at_ ≤ B + 2000 ∧ Src ac bs.length cc H1 id at_) := by
  refine SpecW.of0 Try.func247 rfl (by kernel_rfl) rfl (fun H hfin hfz => ?_)
  have SB0 : SrcB bs ac cc id Y (Low H.n) H B := hsrc.s (fun i hi => hfz i hi) (Nat.le_refl _)
  have E0 : GwE H (fun i => i = id) (Low H.n) H := ⟨fun i hi => by rw [hi]; exact SB0.sid, fun i h _ => ⟨h, rfl⟩⟩
  have hidL : id < H.n := SB0.sid
  refine KW.callWF 1 rfl rfl rfl rfl rfl rfl (fun A9 S9 hn9 hS9 t9 hm9 ho9 hno9 hlt9 => ?_)
  have SB9 := SB0.s (B' := B) t9.st (Nat.le_refl _)
  have E9 := E0.s t9.st
  have hYL : ∀ i, Y i → i < H.n := fun i hi => (SB0.y i hi).1
  refine ⟨fun i => i = id ∨ i = H.n + 1, _, fun i hi => by rcases hi with h | h; rw [h]; exact SB9.sid; rw [h]; exact (hS9 _).2 (.inr rfl), l02Grown (lid := H.n + 1) hN (by omega) (fun i hi => by have := hYL i hi; omega) 4 (B := B) (left := 8) (by omega) SB9 (by simp only [scG]; omega) ((hS9 _).2 (.inr rfl)) hm9 (by simp only [lcG]; omega), fun v H1 S1 m1 t1 w1 hv => ?_⟩
  obtain ⟨g, cs, rfl, hR, hg, src1, _⟩ := hv
  obtain ⟨ag, cg, rfl, _⟩ := hR.form
  have E1 := E9.w t1 (fun i hi => by rcases hi with h | h; exact .inl h; exact .inr (by omega))
  have SB1 := SB9.w t1 (fun i hi hh => by rcases hh with h | h; exact (SB9.y i hi).2 h; have := hYL i hi; omega) src1
  have hR1 : RG 4 S1 H1 g _ := RG.more 4 (fun i hi => w1 i hi) hR
  refine KW.callVp1 rfl rfl rfl rfl rfl (fun H1 g _ => l02Ok (S := Low H1.n) (H0 := H1) hN (d := 4) (by omega) hg (On.R (d := KG 4) hR1) (g.has (j := 1) rfl rfl)) (fun v _ _ hv => ?_)
  obtain ⟨b, rfl⟩ := hv
  obtain ⟨q1, u1, src1⟩ := src1
  refine KW.cndB rfl rfl (fun k1 => ?_) (fun k1 => ?_)
  · refine KW.callE rfl rfl rfl rfl rfl (l02Leaf 0) (fun _ _ => ?_)
    refine KW.retW rfl rfl rfl rfl (fun H9 g => by have := (g.vars 0 _ rfl).2.1; have := g.n_; omega) (fun i h1 h2 => E1.old i h1 h2) (fun H9 g => ?_)
    exact ⟨.mk 0 0 [], _, rfl, rg_leaf _, gf_leaf (Int.le_refl 0) (by omega) _, q1, by simp only [scG] at u1; omega, src1.mv (g.froz id SB1.sid).2⟩
  · refine KW.retW rfl rfl rfl rfl (fun H9 g => by have := (g.vars 0 _ rfl).2.1; have := g.n_; omega) (fun i h1 h2 => E1.old i h1 h2) (fun H9 gg => ?_)
    refine ⟨g, _, rfl, ?_, hg, q1, by simp only [scG] at u1; omega, src1.mv (gg.froz id SB1.sid).2⟩
    refine RG.more 4 (fun i hi => ⟨by have := hi.1; omega, by have := (gg.froz i (w1 i hi)).1; have := gg.n_; omega⟩) (RG.same 4 (fun i hi => (gg.froz i (w1 i hi)).2) hR)
end
end Go.Proofs.Ytijmkfnmdhpakaa.Am
/- The solution that is read off an echelon, in plain Lean. Each holds under its own conditions. -/
set_option linter.unusedVariables false
set_option linter.unusedSimpArgs false
namespace Go.Proofs.Ytijmkfnmdhpakaa.Pl
end Go.Proofs.Ytijmkfnmdhpakaa.Pl
/- Writers that some loads do not wait for: stores and appends. For every program. No condition beyond each theorem's own. -/
set_option linter.unusedSimpArgs false
set_option linter.unusedVariables false
namespace Go.Proofs.Ytijmkfnmdhpakaa.Am
open Go Go.RowKit
/-- What such a load reads is another variable, or frozen. -/
def Ap (S : Ids) (T : List Var) (e : Env) (j : Nat) (u : Tmp) : Prop := (∃ i b id k s, e u = .pointer (some ⟨id, k, s⟩) ∧ T[i]? = some (id, b) ∧ i ≠ j) ∨ ∃ id k s, e u = .pointer (some ⟨id, k, s⟩) ∧ S id
def AllL (S : Ids) (T : List Var) (e : Env) (j : Nat) : List Tmp → Prop
  | [] => True
  | u :: L => Ap S T e j u ∧ AllL S T e j L
section
variable {P : Program} {S : Ids} {H0 : AH} {Q : PostC} {k k1 k2 : List It} {e e1 e2 : Env} {T T1 T2 : List Var} {n n1 n2 : Nat} {l1 r1 l2 r2 : List Nat} {d1 d2 : Tmp}
theorem AllL.out {L : List Tmp} {j : Nat} {H H1 : AH} {v0 : Var} (g : Good S H0 T n H) (hj : T[j]? = some v0 ∨ j = T.length) (hL : AllL S T e j L) (hH : ∀ id, id < n → (∀ v, T[j]? = some v → id ≠ v.1) → H1.m id = H.m id) : ∀ t ∈ L, ∀ id k s, e t = .pointer (some ⟨id, k, s⟩) → H1.m id = H.m id := by
  induction L with
  | nil => intro t ht; cases ht
  | cons u L ih =>
    intro t ht id k s he
    rcases List.mem_cons.1 ht with rfl | ht
    · rcases hL.1 with ⟨i, b, id', k', s', h1, h2, h3⟩ | ⟨id', k', s', h1, h2⟩
      · rw [h1] at he
        cases he
        exact hH id (g.vars i _ h2).2.1 (fun v hv heq => h3 (g.dist i j _ v h2 hv heq))
      · rw [h1] at he
        cases he
        exact hH id (g.froz id h2).1 (fun v hv heq => (g.vars j v hv).2.2 (heq ▸ h2))
    · exact ih hL.2 t ht id k s he
end
end Go.Proofs.Ytijmkfnmdhpakaa.Am
/- Contract: systems of equations solved by the program: whether there is a solution. It holds under its own conditions. -/
set_option linter.unusedVariables false
set_option linter.unusedSimpArgs false
set_option maxRecDepth 20000
namespace Go.Proofs.Ytijmkfnmdhpakaa.Am
open Go Go.RowKit Go.Proofs Go.Proofs.Ytijmkfnmdhpakaa.Pl
section
variable {S : Ids} {H0 : AH}
end
end Go.Proofs.Ytijmkfnmdhpakaa.Am
/- Contract: the reference puts a list of values beside rows. It holds under its own conditions. -/
set_option linter.unusedVariables false
set_option linter.unusedSimpArgs false
set_option maxRecDepth 20000
namespace Go.Proofs.Ytijmkfnmdhpakaa.Am
open Go Go.RowKit Go.Proofs Go.Proofs.Ytijmkfnmdhpakaa.Pl
section
variable {S : Ids} {H0 : AH}
/-- A copy, with the block that it stands in. -/
theorem l00OwnC {a c} {xs : List Int} (hl : xs.length ≤ 1048576) (hs : KI.Sl S H0 (.slice a xs.length c) xs) : SpecM Try.prog S H0 214 [.slice a xs.length c] (fun n v H1 => ∃ o, v = .slice (some ⟨o, 0, some 1⟩) xs.length xs.length ∧ New n H1.n o ∧ H1.m o = some ⟨2, true, xs.map (Value.int .i64)⟩) := by
  refine SpecM.of1 Try.func214 rfl (by kernel_rfl) rfl (fun H _ => ?_)
  refine KW.lit rfl rfl rfl rfl rfl rfl rfl rfl rfl rfl [] rfl rfl (fun v hv => by simp at hv) rfl ?_
  refine KW.appV 0 rfl rfl rfl rfl rfl rfl rfl rfl rfl rfl (fun H1 g => acells_I hs.up g) (by simp) (by simp) (fun v hv => by obtain ⟨_, _, rfl⟩ := List.mem_map.1 hv; rfl) (by show (_ + _) * 8 ≤ _; simp only [List.length_cons, List.length_nil]; omega) (by simp only [List.length_cons, List.length_nil]; omega) (show 0 + xs.length = xs.length from by omega) (fun oa _ _ => ?_)
  refine KW.retM1 rfl rfl rfl rfl (fun H1 g => ⟨_, rfl, ⟨g.ge (H1 := H) (j := 0) rfl, (g.blk (j := 0) rfl).2⟩, (g.blk (j := 0) rfl).1⟩)
end
end Go.Proofs.Ytijmkfnmdhpakaa.Am
